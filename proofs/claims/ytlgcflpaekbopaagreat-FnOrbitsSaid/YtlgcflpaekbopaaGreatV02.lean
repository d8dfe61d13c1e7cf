/- Parts of the proof: GrB, Has, GrD, GrC, GrF, Let, CanP, Walk, IsWord, UpW, Whole, LoW, Cpy, UpI, Word, Prod, Subst, Eqn, Sol, SolU, Mark, Put, IIL, SolM, Fmt, EqP, Parts, Sing, Par, ParS, CycP, EqnM, DrawW, Wh. -/
import Derived.Test.YtlgcflpaekbopaaGreatV01
import Derived.Deep.RegionHeld3
import Derived.Outline
set_option maxRecDepth 100000
set_option maxHeartbeats 16000000
set_option linter.unusedVariables false
set_option linter.unusedSimpArgs false
namespace Go.Proofs.YtlgcflpaekbopaaGreat
open Go.RowKit
open _root_.Nat renaming le_refl→zaa,lt_or_eq_of_le→zad,zero_le→zae,le_of_lt_succ→zag,add_zero→zaC,eq_zero_or_pos→zaD,mod_eq_of_lt→zaJ,mod_lt→zaV,mod_add_mod→zaZ,sub_self→za6
open Go.RowKit.Below renaming refl→zab,drew→zak
open _root_.List renaming mem_append→zac,take_succ_eq_append_getElem→zaf,getD→zah,eq_nil_of_length_eq_zero→zai,getElem?_eq_getElem→zal,nodup_append→zam,take_length→zan,length_append→zao,getElem?_append_right→zap,getD_eq_getElem?_getD→zaq,foldl_append→zar,getElem?_append_left→zas,drop_eq_getElem_cons→zat,mem_flatten→zav,length_take_le→zaw,mem_map→zaz,length_nil→zaB,mem_cons→zaF,map_cons→zaG,filter_cons→zaH,length_cons→zaI,take_append_drop→zaK,dropLast_subset→zaL,map_append→zaM,getElem_of_mem→zaN,flatten_append→zaO,getElem?_drop→zaP,getElem?_take→zaQ,flatten_cons→zaR,append_assoc→zaS,pairwise_iff_getElem→zaT,getElem_append_right→zaU,getElem_append_left→zaW,foldl_cons→zaX,length_map→zaY,getElem_cons_zero→za0,take_of_length_le→za1,filterMap_append→za2,dropLast_eq_take→za3,mem_of_mem_drop→za4,mem_of_mem_take→za5,mem_singleton→za7,any_eq_true→za8,length_drop→za9,getElem_mem→zba
open _root_.Bool renaming and_eq_true→zaj,eq_iff_iff→zax,and_false→zbb
open Go.Value renaming ownBlock→zau
open Go.World renaming drewN_drewN→zay,alloc→zaE
open _root_.Classical renaming byContradiction→zaA
theorem qt (v:Value) (g:GrD) (w:World) (h:ArgG w v g):
  Calls Tryz.prog 183 #[v] w fun e w'=>e= .returned (.bool (grB g))∧Below w.heap.size w w':=by
 obtain⟨s,rfl,_,_,ha⟩:=h;have H:=qA ha;obtain⟨A,cap,rfl,aj,hm,_⟩:=ha;unfold maxLen at hm;go_enter Tryz.func183,Tryz.ntmps183
 go_wp2;have hb:Below w.heap.size w (w.alloc (.cells #[.int .i64 g.1,.int .i64 g.2.1, .slice A g.2.2.length cap] 82)):=(by repeat(first | exact .refl _ _ | (refine BxS ?_ _) | (refine qB ?_ _) | (refine zak ?_) | (refine BxA ?_ _)));have k0:(w.alloc (.cells #[.int .i64 g.1,.int .i64 g.2.1, .slice A g.2.2.length cap] 82)).cell? ⟨w.heap.size,0,none⟩=some (.int .i64 g.1):=by simp[go_sem]
 have k1:(w.alloc (.cells #[.int .i64 g.1,.int .i64 g.2.1, .slice A g.2.2.length cap] 82)).cell? ⟨w.heap.size,1,none⟩=some (.int .i64 g.2.1):=by simp[go_sem]
 have k2:(w.alloc (.cells #[.int .i64 g.1,.int .i64 g.2.1, .slice A g.2.2.length cap] 82)).cell? ⟨w.heap.size,2,none⟩=some (.slice A g.2.2.length cap):=by simp[go_sem]
 have aW:w.heap.size<(w.alloc (.cells #[.int .i64 g.1,.int .i64 g.2.1, .slice A g.2.2.length cap] 82)).heap.size:=by simp
 generalize w.alloc (.cells #[.int .i64 g.1,.int .i64 g.2.1, .slice A g.2.2.length cap] 82)=w1 at hb k0 k1 k2 aW⊢;have HB:=qA hb;have K0:=qA k0;have K1:=qA k1;have K2:=qA k2;clear hb;clear k0 k1 k2;go_loopw [3] (fun i wr=> ∃k:Nat,k≤g.2.2.length∧i= .int .i64 k∧(∀j,j<k→okE g j=true)∧Below w1.heap.size w1 wr) (fun i _=>g.2.2.length-(intOf i).toNat)
 case atStart=>exact⟨0,zae _,rfl,fun j hj=>absurd hj tO,zab _ _⟩
 case round=>
  obtain⟨k,hk,rfl,az,aa⟩:=hrel;have HA:=qA az;have au:=qA aa;have ax:=qA (HB.out.trans (aa.mono HB.out.size));have ak:=aa.size;have p0:=(aa.cell (p:=⟨w.heap.size,0,none⟩) aW).trans K0.out;have p1:=(aa.cell (p:=⟨w.heap.size,1,none⟩) aW).trans K1.out;have p2:=(aa.cell (p:=⟨w.heap.size,2,none⟩) aW).trans K2.out;have iI:w.heap.size<wr.heap.size:=tO;by_cases ac:k<g.2.2.length
  ·obtain⟨b,off,rfl,aM,c0,c1,c2,_⟩:=(H.out.below ax.out).at ac;have ST:Hid (okE g k=true→ ∀j,j<k+1→okE g j=true):=qA fun F j hj=>by
    rcases zad (zag hj) with hj | rfl
    ·exact HA.out j hj
    ·exact F
   have FA:Hid (okE g k=false→grB g=false):=qA (qJT k ac);clear az aa;by_cases h0:0<k
   ·obtain⟨j,rfl⟩: ∃j,k=j+1:=⟨k-1,tO⟩;obtain⟨b2,dL,fo,_,d0,d1,d2,_⟩:=(H.out.below ax.out).at (k:=j) tO;obtain⟨rfl,rfl⟩:b=b2∧off=dL:=by simpa using fo
    have HZ:Hid (okE g (j+1)=(qAq g.1 g.2.1 g.2.2[j+1]&& !decide (0≤cmpE g.2.2[j] g.2.2[j+1]))):=qA (qGr h0 ac);have i0:(0:Int)≤(j:Int):=tO;have i1:(j:Int)<(g.2.2.length:Int):=tO;have i2:(j:Int)+1<(g.2.2.length:Int):=tO;clear fo h0;generalize g.2.2[j]=y at d0 d1 d2 HZ;generalize g.2.2[j+1]=x at c0 c1 c2 HZ;have hE:=fun w=>qHI g.1 g.2.1 (some ⟨b,off,none⟩) g.2.2.length cap x w;rcases e1:qAq g.1 g.2.1 x with _ | _
    ·have F:Hid (okE g (j+1)=false):=qA (by rw[HZ.out,e1];rfl);simp only[e1] at hE;have HE:=qA hE;clear hE;go_wp2_with fail;have f0:=BelW.cell p0 (show w.heap.size<wr.heap.size by omega);have f1:=BelW.cell p1 (show w.heap.size<wr.heap.size by omega);have f2:=BelW.cell p2 (show w.heap.size<wr.heap.size by omega);have f3:=BelW.cell c0 (show b<wr.heap.size by omega);have f4:=BelW.cell c1 (show b<wr.heap.size by omega);have f5:=BelW.cell c2 (show b<wr.heap.size by omega);have f6:=BelW.cell d0 (show b<wr.heap.size by omega);have f7:=BelW.cell d1 (show b<wr.heap.size by omega);have f8:=BelW.cell d2 (show b<wr.heap.size by omega);(refine qK tK tK ?_;(repeat(go_big_quiet_step (first | (go_at_call 197;exact Calls.bel_of (HE.out _)))));refine wpQuiet_nil ?_;intro wq hw';obtain⟨pq,al⟩:=hw';have bq:=pq.h;rw[←al] at bq;clear al pq)
     clear f0 f1 f2 f3 f4 f5 f6 f7 f8;go_wp2;go_ret;exact⟨qC (FA.out F.out).symm,ax.out.trans (bq.mono tO)⟩
    ·simp only[e1] at hE;have HE:=qA hE;clear hE;rcases e2:decide (0≤cmpE y x) with _ | _
     ·have F:Hid (okE g (j+1)=true):=qA (by rw[HZ.out,e1,e2];rfl);go_wp2_with fail;have f0:=BelW.cell p0 (show w.heap.size<wr.heap.size by omega);have f1:=BelW.cell p1 (show w.heap.size<wr.heap.size by omega);have f2:=BelW.cell p2 (show w.heap.size<wr.heap.size by omega);have f3:=BelW.cell c0 (show b<wr.heap.size by omega);have f4:=BelW.cell c1 (show b<wr.heap.size by omega);have f5:=BelW.cell c2 (show b<wr.heap.size by omega);have f6:=BelW.cell d0 (show b<wr.heap.size by omega);have f7:=BelW.cell d1 (show b<wr.heap.size by omega);have f8:=BelW.cell d2 (show b<wr.heap.size by omega);(refine qK tK tK ?_;(repeat(go_big_quiet_step (first | (go_at_call 197;exact Calls.bel_of (HE.out _)) | (go_at_call 198;exact Calls.bel_of (qAu y x _)))));refine wpQuiet_nil ?_;intro wq hw';obtain⟨pq,al⟩:=hw';have bq:=pq.h;rw[←al] at bq;clear al pq)
      clear f0 f1 f2 f3 f4 f5 f6 f7 f8;go_wp2;go_roundw
      case rel=>exact⟨j+1+1,tO,by go_num,ST.out F.out,au.out.trans (bq.mono tO)⟩
      case measure=>simp[intOf];omega
     ·have F:Hid (okE g (j+1)=false):=qA (by rw[HZ.out,e1,e2];rfl);go_wp2_with fail;have f0:=BelW.cell p0 (show w.heap.size<wr.heap.size by omega);have f1:=BelW.cell p1 (show w.heap.size<wr.heap.size by omega);have f2:=BelW.cell p2 (show w.heap.size<wr.heap.size by omega);have f3:=BelW.cell c0 (show b<wr.heap.size by omega);have f4:=BelW.cell c1 (show b<wr.heap.size by omega);have f5:=BelW.cell c2 (show b<wr.heap.size by omega);have f6:=BelW.cell d0 (show b<wr.heap.size by omega);have f7:=BelW.cell d1 (show b<wr.heap.size by omega);have f8:=BelW.cell d2 (show b<wr.heap.size by omega);(refine qK tK tK ?_;(repeat(go_big_quiet_step (first | (go_at_call 197;exact Calls.bel_of (HE.out _)) | (go_at_call 198;exact Calls.bel_of (qAu y x _)))));refine wpQuiet_nil ?_;intro wq hw';obtain⟨pq,al⟩:=hw';have bq:=pq.h;rw[←al] at bq;clear al pq)
      clear f0 f1 f2 f3 f4 f5 f6 f7 f8;go_wp2;go_ret;exact⟨qC (FA.out F.out).symm,ax.out.trans (bq.mono tO)⟩
   ·obtain rfl:k=0:=tO
    have HZ:=qA (qFx ac);generalize g.2.2[0]=x at c0 c1 c2 HZ;simp only[Nat.zero_mul,zaC] at c0 c1 c2;have hE:=fun w=>qHI g.1 g.2.1 (some ⟨b,off,none⟩) g.2.2.length cap x w;rcases e1:qAq g.1 g.2.1 x with _ | _
    ·have F:Hid (okE g 0=false):=qA (by rw[HZ.out,e1]);simp only[e1] at hE;have HE:=qA hE;clear hE;go_wp2_with fail;have f0:=BelW.cell p0 (show w.heap.size<wr.heap.size by omega);have f1:=BelW.cell p1 (show w.heap.size<wr.heap.size by omega);have f2:=BelW.cell p2 (show w.heap.size<wr.heap.size by omega);have f3:=BelW.cell c0 (show b<wr.heap.size by omega);have f4:=BelW.cell c1 (show b<wr.heap.size by omega);have f5:=BelW.cell c2 (show b<wr.heap.size by omega);(refine qK tK tK ?_;(repeat(go_big_quiet_step (first | (go_at_call 197;exact Calls.bel_of (HE.out _)))));refine wpQuiet_nil ?_;intro wq hw';obtain⟨pq,al⟩:=hw';have bq:=pq.h;rw[←al] at bq;clear al pq)
     clear f0 f1 f2 f3 f4 f5;go_wp2;go_ret;exact⟨qC (FA.out F.out).symm,ax.out.trans (bq.mono tO)⟩
    ·have F:Hid (okE g 0=true):=qA (by rw[HZ.out,e1]);simp only[e1] at hE;have HE:=qA hE;clear hE;go_wp2_with fail;have f0:=BelW.cell p0 (show w.heap.size<wr.heap.size by omega);have f1:=BelW.cell p1 (show w.heap.size<wr.heap.size by omega);have f2:=BelW.cell p2 (show w.heap.size<wr.heap.size by omega);have f3:=BelW.cell c0 (show b<wr.heap.size by omega);have f4:=BelW.cell c1 (show b<wr.heap.size by omega);have f5:=BelW.cell c2 (show b<wr.heap.size by omega);(refine qK tK tK ?_;(repeat(go_big_quiet_step (first | (go_at_call 197;exact Calls.bel_of (HE.out _)))));refine wpQuiet_nil ?_;intro wq hw';obtain⟨pq,al⟩:=hw';have bq:=pq.h;rw[←al] at bq;clear al pq)
     clear f0 f1 f2 f3 f4 f5;go_wp2;go_roundw
     case rel=>exact⟨1,tO,by go_num,ST.out F.out,au.out.trans (bq.mono tO)⟩
     case measure=>simp[intOf];omega
  ·obtain rfl:k=g.2.2.length:=tO
   have F:=qA (qPM HA.out);clear az aa;rcases e1:inB g.1 1 3 with _ | _
   ·go_wp2_with (go_at_call 64;refine(qI _ _ _ _).mono ?_;rintro e w' ⟨rfl,rfl⟩)
    go_ret;exact⟨qC (by rw[F.out,e1];rfl),ax.out⟩
   ·rcases e2:inB g.2.1 1 40 with _ | _
    ·go_wp2_with (go_at_call 64;refine(qI _ _ _ _).mono ?_;rintro e w' ⟨rfl,rfl⟩)
     go_ret;exact⟨qC (by rw[F.out,e1,e2];rfl),ax.out⟩
    ·by_cases h3:g.2.2.length≤120
     ·go_wp2_with (go_at_call 64;refine(qI _ _ _ _).mono ?_;rintro e w' ⟨rfl,rfl⟩)
      go_ret;exact⟨qC (by rw[F.out,e1,e2];simp;omega),ax.out⟩
     ·go_wp2_with (go_at_call 64;refine(qI _ _ _ _).mono ?_;rintro e w' ⟨rfl,rfl⟩)
      go_ret;exact⟨qC (by rw[F.out,e1,e2];simp;omega),ax.out⟩
def hasB (l:List Int) (x:Int):Bool:=l.any (· ==x)
theorem qNO {l:List Int} {x:Int} (h: ∀j (hj:j<l.length),l[j]≠x):hasB l x=false:=by
 unfold hasB;rw[List.any_eq_false];intro y hy;obtain⟨j,hj,rfl⟩:=zaN hy;simpa using h j hj
theorem qKm {l:List Int} {x:Int} (j:Nat) (hj:j<l.length) (h:l[j]=x):hasB l x=true:=by
 unfold hasB;rw[za8];exact⟨l[j],by simp,by simpa using h⟩
theorem qBK (v:Value) (xs:List Int) (x:Int) (w:World) (h:ArgI w v xs) (hl:xs.length≤1073741824):
  Calls Tryz.prog 54 #[v, .int .i64 x] w fun e w'=>e= .returned (.bool (hasB xs x))∧w=w':=by
 obtain⟨A,cap,rfl,aj,hm,hr,hb⟩:=h;have HB:=qA hb;clear hb hr;go_enter Tryz.func54,Tryz.ntmps54
 go_wp2;go_loop [5] (fun i=> ∃k:Nat,k≤xs.length∧i= .int .i64 k∧ ∀j (hj:j<xs.length),j<k→xs[j]≠x) (fun i=>xs.length-(intOf i).toNat)
 case atStart=>exact⟨0,zae _,rfl,fun j hj h=>absurd h tO⟩
 case round=>
  obtain⟨k,hk,rfl,dy⟩:=hrel;have di:=qA dy;clear dy;by_cases ac:k<xs.length
  ·obtain⟨b,off,rfl,hc⟩:=HB.out tO;have ae:=hc k ac;have HY:=qA (fun e=>qKm (x:=x) k ac e);have HN:Hid (xs[k]≠x→ ∀j (hj:j<xs.length),j<k+1→xs[j]≠x):=qA fun e j hj gJ=>by
    rcases zad (zag gJ) with h | rfl
    ·exact di.out j hj h
    ·exact e
   clear hc;generalize xs[k]=y at ae HY HN;rcases e1:(y==x) with _ | _
   ·have F:=qA (HN.out (by simpa using e1));go_wp2;go_round
    case rel=>exact⟨k+1,tO,by go_num,F.out⟩
    case measure=>simp[intOf];omega
   ·have F:=qA (HY.out (by simpa using e1));go_wp2;go_ret;exact⟨qC F.out.symm,rfl⟩
  ·obtain rfl:k=xs.length:=tO
   have F:=qA (qNO fun j hj=>di.out j hj hj);go_wp2;go_ret;exact⟨qC F.out.symm,rfl⟩
def atB (xs:List Int) (x:Int) (n:Int):Prop:=decide (0≤n)=hasB xs x
theorem qJd (v:Value) (xs:List Int) (x:Int) (w:World) (h:ArgI w v xs) (hl:xs.length≤1073741824):
  Calls Tryz.prog 99 #[v, .int .i64 x] w fun e w'=> ∃n:Int,e= .returned (.int .i64 n)∧atB xs x n∧w=w':=by
 obtain⟨A,cap,rfl,aj,hm,hr,hb⟩:=h;have HB:=qA hb;clear hb hr;go_enter Tryz.func99,Tryz.ntmps99
 go_wp2;go_loop [8] (fun i=> ∃k:Nat,k≤xs.length∧i= .int .i64 k∧ ∀j (hj:j<xs.length),j<k→xs[j]≠x) (fun i=>xs.length-(intOf i).toNat)
 case atStart=>exact⟨0,zae _,rfl,fun j hj h=>absurd h tO⟩
 case round=>
  obtain⟨k,hk,rfl,dy⟩:=hrel;have di:=qA dy;clear dy;by_cases ac:k<xs.length
  ·obtain⟨b,off,rfl,hc⟩:=HB.out tO;have ae:=hc k ac;have HY:=qA (fun e=>qKm (x:=x) k ac e);have HN:Hid (xs[k]≠x→ ∀j (hj:j<xs.length),j<k+1→xs[j]≠x):=qA fun e j hj gJ=>by
    rcases zad (zag gJ) with h | rfl
    ·exact di.out j hj h
    ·exact e
   clear hc;generalize xs[k]=y at ae HY HN;rcases e1:(x==y) with _ | _
   ·have F:=qA (HN.out (by simp at e1;exact fun h=>e1 h.symm));go_wp2;go_round
    case rel=>exact⟨k+1,tO,by go_num,F.out⟩
    case measure=>simp[intOf];omega
   ·have F:=qA (HY.out (by simp at e1;exact e1.symm));go_wp2;go_ret;exact⟨_,rfl,by unfold atB;rw[F.out];simp,rfl⟩
  ·obtain rfl:k=xs.length:=tO
   have F:=qA (qNO fun j hj=>di.out j hj hj);go_wp2;go_ret;exact⟨_,rfl,by unfold atB;rw[F.out];simp,rfl⟩
theorem qBG (v:Value) (xs:List Int) (x:Int) (w:World) (h:ArgI w v xs) (hl:xs.length≤1073741824):
  Calls Tryz.prog 52 #[v, .int .i64 x] w fun e w'=>e= .returned (.bool (hasB xs x))∧w=w':=by
 have H:=qA h;clear h;go_enter Tryz.func52,Tryz.ntmps52
 go_wp2_with (go_at_call 99;refine(qJd _ xs x _ H.out hl).mono ?_;rintro e w' ⟨n,rfl,hn,rfl⟩;have HN:=qA hn;clear hn)
 go_ret;exact⟨qC HN.out,rfl⟩
def insA (y:Int) (xs:List Int) (k:Nat):List Int×Bool:=(xs.take k).foldl (insS cmpI y) ([],false)
theorem qIb (y:Int) (xs:List Int) (k:Nat) (h:k<xs.length):insA y xs (k+1)=insS cmpI y (insA y xs k) xs[k]:=by
 unfold insA;rw[zaf h,zar];rfl
theorem qOu (y:Int) (xs:List Int) (k:Nat) (h:k≤xs.length):(insA y xs k).1.length≤2*k:=by
 induction k with
 | zero=>simp[insA]
 | succ k ih=>
   rw[qIb y xs k tO];have:=ih tO
   unfold insS;split
   ·simp;omega
   ·split<;>(simp;omega)
theorem qDJ (v:Value) (xs:List Int) (y:Int) (w:World) (h:RdI w v xs) (hy:I64 y) (hl:xs.length≤1073741824):
  Calls Tryz.prog 206 #[v, .int .i64 y] w fun e w'=> ∃r,e= .returned r∧OwI w' w.heap.size r (insF cmpI xs y)∧Below w.heap.size w w':=by
 have H:=qA h;obtain⟨A,cap,rfl,aj,hm,hr,hb⟩:=h.arg;have HR:=qA hr;have HY:=qA hy;clear h hb hr hy;go_enter Tryz.func206,Tryz.ntmps206
 go_wp2;go_loopw [5,6,7] (fun out p i wr=> ∃k:Nat,k≤xs.length∧i= .int .i64 k∧p= .bool (insA y xs k).2∧OwI wr w.heap.size out (insA y xs k).1∧Below w.heap.size w wr)
  (fun _ _ i _=>xs.length-(intOf i).toNat)
 case atStart=>exact⟨0,zae _,rfl,rfl,qW _ [] qS (by simp) (zaa _),(zab _ _).alloc (zaa _) _⟩
 case round=>
  obtain⟨k,hk,rfl,rfl,ab,aa⟩:=hrel;have ak:=aa.size;have du:=qOu y xs k hk;by_cases ac:k<xs.length
  ·obtain⟨b,off,rfl,dp,hc⟩:=H.out.at tO;have gO:=hc k ac;have aM:b<wr.heap.size:=tO;have ae:=(aa.cell (p:=⟨b,off+k,none⟩) dp).trans gO;have HS:=qA (qIb y xs k ac);have HX:=qA (HR.out xs[k] (by simp));generalize hs:insA y xs k=s at ab HS du⊢;obtain⟨o,p⟩:=s;generalize xs[k]=z at ae gO HS HX;have lj:=qA gO;clear hc hs gO;have HO:=qA ab;obtain⟨A1,ah,rfl,aX,cJ,_,_⟩:=ab.form;clear ab;simp only at du
   rcases e1:(z==y) with _ | _
   ·have l4:z≠y:=by simpa using e1
    by_cases h2:y<z
    ·cases p
     ·have F:Hid (insA y xs (k+1)=(o++ [y,z],true)):=qA (by rw[HS.out];unfold insS;rw[if_neg (fun e=>l4 (qm.1 e).symm),if_pos ⟨qCk.2 h2,rfl⟩]);clear l4;go_wp2_with (first | ((at_builtin;refine qN rfl (.tmp 31) (.tmp 33) rfl _ _ _ (OwI.alloc HO.out _) rfl _ _ rfl (qG _ _ _) HY.out (by first | omega | (simp<;>omega)) (by first | omega | (simp<;>omega)) ?_;intro v1 eq o1 g1 p1);have ao:=g1.size;simp at ao;have cL:=qQ aa ak HO.out.1 (zaa _) g1;have aN:=(cL.cell (p:=⟨b,off+k,none⟩) dp).trans lj.out;clear cL) | (at_builtin;refine qN rfl (.tmp 35) (.tmp 40) rfl _ _ _ (OwI.alloc o1 _) rfl _ _ rfl (qG _ _ _) HX.out (by first | omega | (simp<;>omega)) (by first | omega | (simp<;>omega)) ?_;intro v2 wv2 o2 g2 p2))
      go_roundw
      case rel=>
       have cL:=qQ aa ak HO.out.1 (zaa _) g1;exact⟨k+1,tO,by go_num,by rw[F.out],by rw[F.out];simpa using o2,qQ cL cL.size o1.1 (zaa _) g2⟩
      case measure=>simp[intOf];omega
     ·have F:Hid (insA y xs (k+1)=(o++ [z],true)):=qA (by rw[HS.out];unfold insS;rw[if_neg (fun e=>l4 (qm.1 e).symm),if_neg (by simp)]);clear l4;go_wp2_with (at_builtin;refine qN rfl (.tmp 35) (.tmp 40) rfl _ _ _ (OwI.alloc HO.out _) rfl _ _ rfl (qG _ _ _) HX.out (by first | omega | (simp<;>omega)) (by first | omega | (simp<;>omega)) ?_;intro v2 wv2 o2 g2 p2)
      go_roundw
      case rel=>exact⟨k+1,tO,by go_num,by rw[F.out],by rw[F.out];exact o2,qQ aa ak HO.out.1 (zaa _) g2⟩
      case measure=>simp[intOf];omega
    ·have F:Hid (insA y xs (k+1)=(o++ [z],p)):=qA (by rw[HS.out];unfold insS;rw[if_neg (fun e=>l4 (qm.1 e).symm),if_neg (fun e=>h2 (qCk.1 e.1))]);clear l4;go_wp2_with (at_builtin;refine qN rfl (.tmp 35) (.tmp 40) rfl _ _ _ (OwI.alloc HO.out _) rfl _ _ rfl (qG _ _ _) HX.out (by first | omega | (simp<;>omega)) (by first | omega | (simp<;>omega)) ?_;intro v2 wv2 o2 g2 p2)
     go_roundw
     case rel=>exact⟨k+1,tO,by go_num,by rw[F.out],by rw[F.out];exact o2,qQ aa ak HO.out.1 (zaa _) g2⟩
     case measure=>simp[intOf];omega
   ·have l4:z=y:=by simpa using e1
    have F:Hid (insA y xs (k+1)=(o++ [z],true)):=qA (by rw[HS.out];unfold insS;rw[if_pos (qm.2 l4.symm)]);have h2: ¬y<z:=tO;clear l4;go_wp2_with (at_builtin;refine qN rfl (.tmp 35) (.tmp 40) rfl _ _ _ (OwI.alloc HO.out _) rfl _ _ rfl (qG _ _ _) HX.out (by first | omega | (simp<;>omega)) (by first | omega | (simp<;>omega)) ?_;intro v2 wv2 o2 g2 p2)
    go_roundw
    case rel=>exact⟨k+1,tO,by go_num,by rw[F.out],by rw[F.out];exact o2,qQ aa ak HO.out.1 (zaa _) g2⟩
    case measure=>simp[intOf];omega
  ·obtain rfl:k=xs.length:=tO
   have HF:Hid (insF cmpI xs y=if(insA y xs xs.length).2 then(insA y xs xs.length).1 else(insA y xs xs.length).1++ [y]):=qA (by unfold insF insA;rw[zan]);generalize insA y xs xs.length=s at ab HF du⊢;obtain⟨o,p⟩:=s;have HO:=qA ab;obtain⟨A1,ah,rfl,aX,cJ,_,_⟩:=ab.form;clear ab;simp only at du
   cases p
   ·go_wp2_with (at_builtin;refine qN rfl (.tmp 44) (.tmp 46) rfl _ _ _ (OwI.alloc HO.out _) rfl _ _ rfl (qG _ _ _) HY.out (by first | omega | (simp<;>omega)) (by first | omega | (simp<;>omega)) ?_;intro v2 wv2 o2 g2 p2)
    go_ret;exact⟨_,rfl,by rw[HF.out];exact o2,qQ aa ak HO.out.1 (zaa _) g2⟩
   ·go_wp2;go_ret;exact⟨_,rfl,by rw[HF.out];exact HO.out,aa⟩
def mt (v x:Int) (e:EdD):Option Int:=
 if 0<x then(if e.2.1=x∧e.1=v then some e.2.2 else none) else if x<0 then(if e.2.1=wrap64 (-x)∧e.2.2=v then some e.1 else none) else none
def qAE (es:List EdD) (v x:Int):List Int:=es.filterMap (mt v x)
def qAY (es:List EdD) (v x:Int):Int:=(qAE es v x).headD (-1)
theorem qGf (es:List EdD) (v x:Int) (k:Nat) (h:k<es.length):qAE (es.take (k+1)) v x=qAE (es.take k) v x++(mt v x es[k]).toList:=by
 unfold qAE;rw[zaf h,za2];congr 1
theorem qDr (es:List EdD) (v x:Int) (k:Nat):(qAE (es.take k) v x).length≤(qAE es v x).length:=by
 unfold qAE;conv=>rhs;rw[←zaK k es,za2]
 simp
theorem qKu (y:Int):insF cmpI [] y= [y]:=by rw[qGo];rfl
theorem qFI (v:Value) (g:GrD) (u x:Int) (w:World) (h:ArgG w v g) (cU:(qAE g.2.2 u x).length≤1):
  Calls Tryz.prog 207 #[v, .int .i64 u, .int .i64 x] w fun e w'=> ∃r,e= .returned r∧OwI w' w.heap.size r (qAE g.2.2 u x)∧Below w.heap.size w w':=by
 obtain⟨s,rfl,_,_,ha⟩:=h;have H:=qA ha;obtain⟨A,cap,rfl,aj,hm,_,hr,_⟩:=ha;have HR:=qA hr;unfold maxLen at hm;clear hr;go_enter Tryz.func207,Tryz.ntmps207
 go_wp2;have hb:Below w.heap.size w ((w.alloc (.cells #[.int .i64 g.1,.int .i64 g.2.1, .slice A g.2.2.length cap] 82)).alloc (.cells #[] 3)):=(by repeat(first | exact .refl _ _ | (refine BxS ?_ _) | (refine qB ?_ _) | (refine zak ?_) | (refine BxA ?_ _)));have k2:((w.alloc (.cells #[.int .i64 g.1,.int .i64 g.2.1, .slice A g.2.2.length cap] 82)).alloc (.cells #[] 3)).cell? ⟨w.heap.size,2,none⟩=some (.slice A g.2.2.length cap):=by simp[go_sem]
 have aW:w.heap.size+1<((w.alloc (.cells #[.int .i64 g.1,.int .i64 g.2.1, .slice A g.2.2.length cap] 82)).alloc (.cells #[] 3)).heap.size:=by simp
 have o0:OwI ((w.alloc (.cells #[.int .i64 g.1,.int .i64 g.2.1, .slice A g.2.2.length cap] 82)).alloc (.cells #[] 3)) (w.heap.size+1) (.slice (some ⟨w.heap.size+1,0,none⟩) 0 0) []:=qCF (w.alloc (.cells #[.int .i64 g.1,.int .i64 g.2.1, .slice A g.2.2.length cap] 82)) [] (w.heap.size+1) (by simp) qS (by simp) (zaa _);generalize (w.alloc (.cells #[.int .i64 g.1,.int .i64 g.2.1, .slice A g.2.2.length cap] 82)).alloc (.cells #[] 3)=w1 at hb k2 aW o0⊢;have HB:=qA hb;have K2:=qA k2;have O0:=qA o0;clear hb k2 o0;go_loopw [7,8] (fun out i wr=> ∃k:Nat,k≤g.2.2.length∧i= .int .i64 k∧OwI wr (w.heap.size+1) out (qAE (g.2.2.take k) u x)∧Below (w.heap.size+1) w1 wr) (fun _ i _=>g.2.2.length-(intOf i).toNat)
 case atStart=>exact⟨0,zae _,rfl,O0.out,zab _ _⟩
 case round=>
  obtain⟨k,hk,rfl,ab,aa⟩:=hrel;have ak:=aa.size;have ax:=qA (HB.out.trans (aa.mono tO));have p2:=(aa.cell (p:=⟨w.heap.size,2,none⟩) (show w.heap.size<w.heap.size+1 by omega)).trans K2.out;have HO:=qA ab;have au:=qA aa;obtain⟨A1,ah,rfl,aX,cJ,_,_⟩:=ab.form;clear aa;by_cases ac:k<g.2.2.length
  ·obtain⟨b,off,rfl,aM,c0,c1,c2,_⟩:=(H.out.below ax.out).at ac;have HS:=qA (qGf g.2.2 u x k ac);have HX:=qA (HR.out g.2.2[k] (by simp));have iO:=qDr g.2.2 u x (k+1);have fK:Hid ((qAE (g.2.2.take (k+1)) u x).length≤1):=qA tO;clear iO ab;generalize g.2.2[k]=e at*;obtain⟨f,l,t⟩:=e;simp only at c0 c1 c2
   have keep:mt u x (f,l,t)=none→qAE (g.2.2.take (k+1)) u x=qAE (g.2.2.take k) u x:=fun e=>by rw[HS.out,e];simp
   have KE:=qA keep;have put: ∀y,mt u x (f,l,t)=some y→qAE (g.2.2.take k) u x= []∧qAE (g.2.2.take (k+1)) u x= [y]:=fun y e=>by
    have h1:=HS.out;have h2:=fK.out;rw[e] at h1;rw[h1] at h2;simp at h2
    refine⟨h2,by rw[h1,h2];rfl⟩
   have PU:=qA put;clear keep put;by_cases hp:0<x
   ·have hn: ¬x<0:=tO;rcases e1:(l==x) with _ | _
    ·have F:=qA (KE.out (by simp at e1;simp[mt,hp,e1]));go_wp2;go_roundw
     case rel=>exact⟨k+1,tO,by go_num,by rw[F.out];exact HO.out.alloc _,au.out.alloc tO _⟩
     case measure=>simp[intOf];omega
    ·rcases e2:(f==u) with _ | _
     ·have F:=qA (KE.out (by simp at e2;simp[mt,hp,e2]));go_wp2;go_roundw
      case rel=>exact⟨k+1,tO,by go_num,by rw[F.out];exact HO.out.alloc _,au.out.alloc tO _⟩
      case measure=>simp[intOf];omega
     ·have F:=qA (PU.out t (by simp at e1 e2;simp[mt,hp,e1,e2]));have aw:=HO.out;rw[F.out.1] at aw;have lw:=qA aw;clear aw;have hz:(qAE (g.2.2.take k) u x).length=0:=by rw[F.out.1];rfl
      rw[hz];go_wp2_with fail;refine(qDJ _ [] t _ ((lw.out.alloc _).rd) HX.out.2.2 (by simp)).mono ?_
      rintro e w9 ⟨r9,rfl,o9,b9⟩;rw[qKu] at o9;have O9:=qA (o9.mono (base':=w.heap.size+1) (by simp;omega));have B9:Hid (Below (w.heap.size+1) w1 w9):=qA ((au.out.alloc tO _).trans (b9.mono (by simp;omega)));obtain⟨A9,aT,rfl,_⟩:=o9.form;clear o9 b9;go_wp2;go_roundw
      case rel=>exact⟨k+1,tO,by go_num,by rw[F.out.2];exact O9.out,B9.out⟩
      case measure=>simp[intOf];omega
   ·by_cases hn:x<0
    ·rcases e1:(l==wrap64 (-x)) with _ | _
     ·have F:=qA (KE.out (by simp at e1;simp[mt,hp,hn,e1]));go_wp2;go_roundw
      case rel=>exact⟨k+1,tO,by go_num,by rw[F.out];exact HO.out.alloc _,au.out.alloc tO _⟩
      case measure=>simp[intOf];omega
     ·rcases e2:(t==u) with _ | _
      ·have F:=qA (KE.out (by simp at e2;simp[mt,hp,hn,e2]));go_wp2;go_roundw
       case rel=>exact⟨k+1,tO,by go_num,by rw[F.out];exact HO.out.alloc _,au.out.alloc tO _⟩
       case measure=>simp[intOf];omega
      ·have F:=qA (PU.out f (by simp at e1 e2;simp[mt,hp,hn,e1,e2]));have aw:=HO.out;rw[F.out.1] at aw;have lw:=qA aw;clear aw;have hz:(qAE (g.2.2.take k) u x).length=0:=by rw[F.out.1];rfl
       rw[hz];go_wp2_with fail;refine(qDJ _ [] f _ ((lw.out.alloc _).rd) HX.out.1 (by simp)).mono ?_
       rintro e w9 ⟨r9,rfl,o9,b9⟩;rw[qKu] at o9;have O9:=qA (o9.mono (base':=w.heap.size+1) (by simp;omega));have B9:Hid (Below (w.heap.size+1) w1 w9):=qA ((au.out.alloc tO _).trans (b9.mono (by simp;omega)));obtain⟨A9,aT,rfl,_⟩:=o9.form;clear o9 b9;go_wp2;go_roundw
       case rel=>exact⟨k+1,tO,by go_num,by rw[F.out.2];exact O9.out,B9.out⟩
       case measure=>simp[intOf];omega
    ·have F:=qA (KE.out (by simp[mt,hp,hn]));go_wp2;go_roundw
     case rel=>exact⟨k+1,tO,by go_num,by rw[F.out];exact HO.out.alloc _,au.out.alloc tO _⟩
     case measure=>simp[intOf];omega
  ·obtain rfl:k=g.2.2.length:=tO
   clear ab;go_wp2;go_ret;exact⟨_,rfl,by have:=HO.out.mono (base':=w.heap.size) tO;rw[zan] at this;rw[zan];exact this,ax.out⟩
theorem qEc (v:Value) (g:GrD) (u x:Int) (w:World) (h:ArgG w v g) (cU:(qAE g.2.2 u x).length≤1):
  Calls Tryz.prog 201 #[v, .int .i64 u, .int .i64 x] w fun e w'=>e= .returned (.int .i64 (qAY g.2.2 u x))∧Below w.heap.size w w':=by
 have H:=qA h;obtain⟨s,rfl,_,_,ha⟩:=h;obtain⟨A,cap,rfl⟩:=ha.form;obtain⟨R,hR⟩: ∃R,R=qAY g.2.2 u x:=⟨_,rfl⟩;rw[←hR];unfold qAY at hR;have HR:=qA hR;clear hR;go_enter Tryz.func201,Tryz.ntmps201
 go_wp2_with fail;have hb:Below w.heap.size w (w.alloc (.cells #[.int .i64 g.1,.int .i64 g.2.1, .slice A g.2.2.length cap] 82)):=(by repeat(first | exact .refl _ _ | (refine BxS ?_ _) | (refine qB ?_ _) | (refine zak ?_) | (refine BxA ?_ _)));refine(qFI _ g u x _ (H.out.below hb) cU).mono ?_
 rintro e w1 ⟨r,rfl,o1,b1⟩;have B1:=qA (hb.trans (b1.mono hb.size));generalize qAE g.2.2 u x=L at o1 HR;clear hb b1 ha;obtain⟨A1,ah,rfl,aC,cJ,_,_⟩:=o1.form;match L,o1,HR with
 | [],o1,HR=>
   have F:Hid (R= -1):=HR;clear o1;go_wp2;go_ret;exact⟨qU F.out.symm,B1.out⟩
 | y::L,o1,HR=>
   obtain rfl:R=y:=HR.out
   clear HR;obtain⟨b,off,rfl,aM,hc⟩:=o1.rd.at (by simp);have c0:=hc 0 (by simp);simp only[za0,zaC] at c0;clear o1 hc;go_wp2;go_ret;exact⟨rfl,B1.out⟩
theorem qAo (v:Value) (g:GrD) (w:World) (h:ArgG w v g):
  Calls Tryz.prog 152 #[v] w fun e w'=>e= .returned (.bool (grB g))∧Below w.heap.size w w':=by
 obtain⟨s,rfl,_,_,ha⟩:=h;have H:=qA ha;obtain⟨A,cap,rfl,aj,hm,_⟩:=ha;unfold maxLen at hm;rcases t1:inB g.1 1 3 with _ | _
 ·go_enter Tryz.func152,Tryz.ntmps152
  go_wp2_with (go_at_call 56;refine(qX _ _ _ _).mono ?_;rintro e w' ⟨rfl,rfl⟩)
  go_ret;exact⟨qC (by unfold grB;rw[t1];rfl),(by repeat(first | exact .refl _ _ | (refine BxS ?_ _) | (refine qB ?_ _) | (refine zak ?_) | (refine BxA ?_ _)))⟩
 rcases t2:inB g.2.1 1 40 with _ | _
 ·go_enter Tryz.func152,Tryz.ntmps152
  go_wp2_with (go_at_call 56;refine(qX _ _ _ _).mono ?_;rintro e w' ⟨rfl,rfl⟩)
  go_ret;exact⟨qC (by unfold grB;rw[t1,t2];rfl),(by repeat(first | exact .refl _ _ | (refine BxS ?_ _) | (refine qB ?_ _) | (refine zak ?_) | (refine BxA ?_ _)))⟩
 by_cases t3:120<g.2.2.length
 ·go_enter Tryz.func152,Tryz.ntmps152
  go_wp2_with (go_at_call 56;refine(qX _ _ _ _).mono ?_;rintro e w' ⟨rfl,rfl⟩)
  go_ret;exact⟨qC (by unfold grB;rw[t1,t2,decide_eq_false tO];rfl),(by repeat(first | exact .refl _ _ | (refine BxS ?_ _) | (refine qB ?_ _) | (refine zak ?_) | (refine BxA ?_ _)))⟩
 go_enter Tryz.func152,Tryz.ntmps152
 go_wp2_with (go_at_call 56;refine(qX _ _ _ _).mono ?_;rintro e w' ⟨rfl,rfl⟩)
 have hb:Below w.heap.size w (w.alloc (.cells #[.int .i64 g.1,.int .i64 g.2.1, .slice A g.2.2.length cap] 82)):=(by repeat(first | exact .refl _ _ | (refine BxS ?_ _) | (refine qB ?_ _) | (refine zak ?_) | (refine BxA ?_ _)));have k0:(w.alloc (.cells #[.int .i64 g.1,.int .i64 g.2.1, .slice A g.2.2.length cap] 82)).cell? ⟨w.heap.size,0,none⟩=some (.int .i64 g.1):=by simp[go_sem]
 have k1:(w.alloc (.cells #[.int .i64 g.1,.int .i64 g.2.1, .slice A g.2.2.length cap] 82)).cell? ⟨w.heap.size,1,none⟩=some (.int .i64 g.2.1):=by simp[go_sem]
 have k2:(w.alloc (.cells #[.int .i64 g.1,.int .i64 g.2.1, .slice A g.2.2.length cap] 82)).cell? ⟨w.heap.size,2,none⟩=some (.slice A g.2.2.length cap):=by simp[go_sem]
 have aW:w.heap.size<(w.alloc (.cells #[.int .i64 g.1,.int .i64 g.2.1, .slice A g.2.2.length cap] 82)).heap.size:=by simp
 generalize w.alloc (.cells #[.int .i64 g.1,.int .i64 g.2.1, .slice A g.2.2.length cap] 82)=w1 at hb k0 k1 k2 aW⊢;have HB:=qA hb;have K0:=qA k0;have K1:=qA k1;have K2:=qA k2;clear hb;clear k0 k1 k2;go_loopw [24] (fun i wr=> ∃k:Nat,k≤g.2.2.length∧i= .int .i64 k∧(∀j,j<k→okE g j=true)∧Below w1.heap.size w1 wr) (fun i _=>g.2.2.length-(intOf i).toNat)
 case atStart=>exact⟨0,zae _,rfl,fun j hj=>absurd hj tO,zab _ _⟩
 case round=>
  obtain⟨k,hk,rfl,az,aa⟩:=hrel;have HA:=qA az;have au:=qA aa;have ax:=qA (HB.out.trans (aa.mono HB.out.size));have ak:=aa.size;have p0:=(aa.cell (p:=⟨w.heap.size,0,none⟩) aW).trans K0.out;have p1:=(aa.cell (p:=⟨w.heap.size,1,none⟩) aW).trans K1.out;have p2:=(aa.cell (p:=⟨w.heap.size,2,none⟩) aW).trans K2.out;have iI:w.heap.size<wr.heap.size:=tO;by_cases ac:k<g.2.2.length
  ·obtain⟨b,off,rfl,aM,c0,c1,c2,_⟩:=(H.out.below ax.out).at ac;have ST:Hid (okE g k=true→ ∀j,j<k+1→okE g j=true):=qA fun F j hj=>by
    rcases zad (zag hj) with hj | rfl
    ·exact HA.out j hj
    ·exact F
   have FA:Hid (okE g k=false→grB g=false):=qA (qJT k ac);clear az aa;by_cases h0:0<k
   ·obtain⟨j,rfl⟩: ∃j,k=j+1:=⟨k-1,tO⟩;obtain⟨b2,dL,fo,_,d0,d1,d2,_⟩:=(H.out.below ax.out).at (k:=j) tO;obtain⟨rfl,rfl⟩:b=b2∧off=dL:=by simpa using fo
    have HZ:Hid (okE g (j+1)=(qAq g.1 g.2.1 g.2.2[j+1]&& !decide (0≤cmpE g.2.2[j] g.2.2[j+1]))):=qA (qGr h0 ac);have i0:(0:Int)≤(j:Int):=tO;have i1:(j:Int)<(g.2.2.length:Int):=tO;have i2:(j:Int)+1<(g.2.2.length:Int):=tO;clear fo h0;generalize g.2.2[j]=y at d0 d1 d2 HZ;generalize g.2.2[j+1]=x at c0 c1 c2 HZ;have hE:=fun w=>qGZ g.1 g.2.1 (some ⟨b,off,none⟩) g.2.2.length cap x w;rcases e1:qAq g.1 g.2.1 x with _ | _
    ·have F:Hid (okE g (j+1)=false):=qA (by rw[HZ.out,e1];rfl);simp only[e1] at hE;have HE:=qA hE;clear hE;go_wp2_with fail;obtain⟨W,hW⟩: ∃W,W=zaE wr (.cells #[.int .i64 x.1, .int .i64 x.2.1, .int .i64 x.2.2] 154):=⟨_,rfl⟩;rw[←hW];have bW:Below wr.heap.size wr W:=by rw[hW];exact(zab _ _).alloc (zaa _) _
     have sW:wr.heap.size<W.heap.size:=by rw[hW];simp
     replace p0:=(bW.cell (p:=⟨w.heap.size,0,none⟩) (show w.heap.size<wr.heap.size by omega)).trans p0;replace p1:=(bW.cell (p:=⟨w.heap.size,1,none⟩) (show w.heap.size<wr.heap.size by omega)).trans p1;replace p2:=(bW.cell (p:=⟨w.heap.size,2,none⟩) (show w.heap.size<wr.heap.size by omega)).trans p2;replace c0:=(bW.cell (p:=⟨b,off+(j+1)*3,none⟩) (show b<wr.heap.size by omega)).trans c0;replace c1:=(bW.cell (p:=⟨b,off+(j+1)*3+1,none⟩) (show b<wr.heap.size by omega)).trans c1;replace c2:=(bW.cell (p:=⟨b,off+(j+1)*3+2,none⟩) (show b<wr.heap.size by omega)).trans c2;replace d0:=(bW.cell (p:=⟨b,off+j*3,none⟩) (show b<wr.heap.size by omega)).trans d0;replace d1:=(bW.cell (p:=⟨b,off+j*3+1,none⟩) (show b<wr.heap.size by omega)).trans d1;replace d2:=(bW.cell (p:=⟨b,off+j*3+2,none⟩) (show b<wr.heap.size by omega)).trans d2;have l0:W.cell? ⟨wr.heap.size,0,none⟩=some (.int .i64 x.1):=by rw[hW];simp[go_sem]
     have l1:W.cell? ⟨wr.heap.size,1,none⟩=some (.int .i64 x.2.1):=by rw[hW];simp[go_sem]
     have l2:W.cell? ⟨wr.heap.size,2,none⟩=some (.int .i64 x.2.2):=by rw[hW];simp[go_sem]
     clear hW;have f0:=BelW.cell p0 (show w.heap.size<W.heap.size by omega);have f1:=BelW.cell p1 (show w.heap.size<W.heap.size by omega);have f2:=BelW.cell p2 (show w.heap.size<W.heap.size by omega);have f3:=BelW.cell c0 (show b<W.heap.size by omega);have f4:=BelW.cell c1 (show b<W.heap.size by omega);have f5:=BelW.cell c2 (show b<W.heap.size by omega);have f6:=BelW.cell d0 (show b<W.heap.size by omega);have f7:=BelW.cell d1 (show b<W.heap.size by omega);have f8:=BelW.cell d2 (show b<W.heap.size by omega);have f9:=BelW.cell l0 (show wr.heap.size<W.heap.size by omega);have uM:=BelW.cell l1 (show wr.heap.size<W.heap.size by omega);have tq:=BelW.cell l2 (show wr.heap.size<W.heap.size by omega);(refine qK tK tK ?_;(repeat(go_big_quiet_step (first | (go_at_call 175;exact Calls.bel_of (HE.out _)))));refine wpQuiet_nil ?_;intro wq hw';obtain⟨pq,al⟩:=hw';have bq:=pq.h;rw[←al] at bq;clear al pq)
     clear f0 f1 f2 f3 f4 f5 f6 f7 f8 f9 uM tq;go_wp2;go_ret;exact⟨qC (FA.out F.out).symm,(ax.out.trans (bW.mono tO)).trans (bq.mono tO)⟩
    ·simp only[e1] at hE;have HE:=qA hE;clear hE;rcases e2:decide (0≤cmpE y x) with _ | _
     ·have F:Hid (okE g (j+1)=true):=qA (by rw[HZ.out,e1,e2];rfl);go_wp2_with fail;obtain⟨W,hW⟩: ∃W,W=zaE wr (.cells #[.int .i64 x.1, .int .i64 x.2.1, .int .i64 x.2.2] 154):=⟨_,rfl⟩;rw[←hW];have bW:Below wr.heap.size wr W:=by rw[hW];exact(zab _ _).alloc (zaa _) _
      have sW:wr.heap.size<W.heap.size:=by rw[hW];simp
      replace p0:=(bW.cell (p:=⟨w.heap.size,0,none⟩) (show w.heap.size<wr.heap.size by omega)).trans p0;replace p1:=(bW.cell (p:=⟨w.heap.size,1,none⟩) (show w.heap.size<wr.heap.size by omega)).trans p1;replace p2:=(bW.cell (p:=⟨w.heap.size,2,none⟩) (show w.heap.size<wr.heap.size by omega)).trans p2;replace c0:=(bW.cell (p:=⟨b,off+(j+1)*3,none⟩) (show b<wr.heap.size by omega)).trans c0;replace c1:=(bW.cell (p:=⟨b,off+(j+1)*3+1,none⟩) (show b<wr.heap.size by omega)).trans c1;replace c2:=(bW.cell (p:=⟨b,off+(j+1)*3+2,none⟩) (show b<wr.heap.size by omega)).trans c2;replace d0:=(bW.cell (p:=⟨b,off+j*3,none⟩) (show b<wr.heap.size by omega)).trans d0;replace d1:=(bW.cell (p:=⟨b,off+j*3+1,none⟩) (show b<wr.heap.size by omega)).trans d1;replace d2:=(bW.cell (p:=⟨b,off+j*3+2,none⟩) (show b<wr.heap.size by omega)).trans d2;have l0:W.cell? ⟨wr.heap.size,0,none⟩=some (.int .i64 x.1):=by rw[hW];simp[go_sem]
      have l1:W.cell? ⟨wr.heap.size,1,none⟩=some (.int .i64 x.2.1):=by rw[hW];simp[go_sem]
      have l2:W.cell? ⟨wr.heap.size,2,none⟩=some (.int .i64 x.2.2):=by rw[hW];simp[go_sem]
      clear hW;have f0:=BelW.cell p0 (show w.heap.size<W.heap.size by omega);have f1:=BelW.cell p1 (show w.heap.size<W.heap.size by omega);have f2:=BelW.cell p2 (show w.heap.size<W.heap.size by omega);have f3:=BelW.cell c0 (show b<W.heap.size by omega);have f4:=BelW.cell c1 (show b<W.heap.size by omega);have f5:=BelW.cell c2 (show b<W.heap.size by omega);have f6:=BelW.cell d0 (show b<W.heap.size by omega);have f7:=BelW.cell d1 (show b<W.heap.size by omega);have f8:=BelW.cell d2 (show b<W.heap.size by omega);have f9:=BelW.cell l0 (show wr.heap.size<W.heap.size by omega);have uM:=BelW.cell l1 (show wr.heap.size<W.heap.size by omega);have tq:=BelW.cell l2 (show wr.heap.size<W.heap.size by omega);(refine qK tK tK ?_;(repeat(go_big_quiet_step (first | (go_at_call 175;exact Calls.bel_of (HE.out _)) | (go_at_call 176;exact Calls.bel_of (qBf y x _)))));refine wpQuiet_nil ?_;intro wq hw';obtain⟨pq,al⟩:=hw';have bq:=pq.h;rw[←al] at bq;clear al pq)
      clear f0 f1 f2 f3 f4 f5 f6 f7 f8 f9 uM tq;go_wp2;go_roundw
      case rel=>exact⟨j+1+1,tO,by go_num,ST.out F.out,(au.out.trans (bW.mono tO)).trans (bq.mono tO)⟩
      case measure=>simp[intOf];omega
     ·have F:Hid (okE g (j+1)=false):=qA (by rw[HZ.out,e1,e2];rfl);go_wp2_with fail;obtain⟨W,hW⟩: ∃W,W=zaE wr (.cells #[.int .i64 x.1, .int .i64 x.2.1, .int .i64 x.2.2] 154):=⟨_,rfl⟩;rw[←hW];have bW:Below wr.heap.size wr W:=by rw[hW];exact(zab _ _).alloc (zaa _) _
      have sW:wr.heap.size<W.heap.size:=by rw[hW];simp
      replace p0:=(bW.cell (p:=⟨w.heap.size,0,none⟩) (show w.heap.size<wr.heap.size by omega)).trans p0;replace p1:=(bW.cell (p:=⟨w.heap.size,1,none⟩) (show w.heap.size<wr.heap.size by omega)).trans p1;replace p2:=(bW.cell (p:=⟨w.heap.size,2,none⟩) (show w.heap.size<wr.heap.size by omega)).trans p2;replace c0:=(bW.cell (p:=⟨b,off+(j+1)*3,none⟩) (show b<wr.heap.size by omega)).trans c0;replace c1:=(bW.cell (p:=⟨b,off+(j+1)*3+1,none⟩) (show b<wr.heap.size by omega)).trans c1;replace c2:=(bW.cell (p:=⟨b,off+(j+1)*3+2,none⟩) (show b<wr.heap.size by omega)).trans c2;replace d0:=(bW.cell (p:=⟨b,off+j*3,none⟩) (show b<wr.heap.size by omega)).trans d0;replace d1:=(bW.cell (p:=⟨b,off+j*3+1,none⟩) (show b<wr.heap.size by omega)).trans d1;replace d2:=(bW.cell (p:=⟨b,off+j*3+2,none⟩) (show b<wr.heap.size by omega)).trans d2;have l0:W.cell? ⟨wr.heap.size,0,none⟩=some (.int .i64 x.1):=by rw[hW];simp[go_sem]
      have l1:W.cell? ⟨wr.heap.size,1,none⟩=some (.int .i64 x.2.1):=by rw[hW];simp[go_sem]
      have l2:W.cell? ⟨wr.heap.size,2,none⟩=some (.int .i64 x.2.2):=by rw[hW];simp[go_sem]
      clear hW;have f0:=BelW.cell p0 (show w.heap.size<W.heap.size by omega);have f1:=BelW.cell p1 (show w.heap.size<W.heap.size by omega);have f2:=BelW.cell p2 (show w.heap.size<W.heap.size by omega);have f3:=BelW.cell c0 (show b<W.heap.size by omega);have f4:=BelW.cell c1 (show b<W.heap.size by omega);have f5:=BelW.cell c2 (show b<W.heap.size by omega);have f6:=BelW.cell d0 (show b<W.heap.size by omega);have f7:=BelW.cell d1 (show b<W.heap.size by omega);have f8:=BelW.cell d2 (show b<W.heap.size by omega);have f9:=BelW.cell l0 (show wr.heap.size<W.heap.size by omega);have uM:=BelW.cell l1 (show wr.heap.size<W.heap.size by omega);have tq:=BelW.cell l2 (show wr.heap.size<W.heap.size by omega);(refine qK tK tK ?_;(repeat(go_big_quiet_step (first | (go_at_call 175;exact Calls.bel_of (HE.out _)) | (go_at_call 176;exact Calls.bel_of (qBf y x _)))));refine wpQuiet_nil ?_;intro wq hw';obtain⟨pq,al⟩:=hw';have bq:=pq.h;rw[←al] at bq;clear al pq)
      clear f0 f1 f2 f3 f4 f5 f6 f7 f8 f9 uM tq;go_wp2;go_ret;exact⟨qC (FA.out F.out).symm,(ax.out.trans (bW.mono tO)).trans (bq.mono tO)⟩
   ·obtain rfl:k=0:=tO
    have HZ:=qA (qFx ac);generalize g.2.2[0]=x at c0 c1 c2 HZ;simp only[Nat.zero_mul,zaC] at c0 c1 c2;have hE:=fun w=>qGZ g.1 g.2.1 (some ⟨b,off,none⟩) g.2.2.length cap x w;rcases e1:qAq g.1 g.2.1 x with _ | _
    ·have F:Hid (okE g 0=false):=qA (by rw[HZ.out,e1]);simp only[e1] at hE;have HE:=qA hE;clear hE;go_wp2_with fail;obtain⟨W,hW⟩: ∃W,W=zaE wr (.cells #[.int .i64 x.1, .int .i64 x.2.1, .int .i64 x.2.2] 154):=⟨_,rfl⟩;rw[←hW];have bW:Below wr.heap.size wr W:=by rw[hW];exact(zab _ _).alloc (zaa _) _
     have sW:wr.heap.size<W.heap.size:=by rw[hW];simp
     replace p0:=(bW.cell (p:=⟨w.heap.size,0,none⟩) (show w.heap.size<wr.heap.size by omega)).trans p0;replace p1:=(bW.cell (p:=⟨w.heap.size,1,none⟩) (show w.heap.size<wr.heap.size by omega)).trans p1;replace p2:=(bW.cell (p:=⟨w.heap.size,2,none⟩) (show w.heap.size<wr.heap.size by omega)).trans p2;replace c0:=(bW.cell (p:=⟨b,off,none⟩) (show b<wr.heap.size by omega)).trans c0;replace c1:=(bW.cell (p:=⟨b,off+1,none⟩) (show b<wr.heap.size by omega)).trans c1;replace c2:=(bW.cell (p:=⟨b,off+2,none⟩) (show b<wr.heap.size by omega)).trans c2;have l0:W.cell? ⟨wr.heap.size,0,none⟩=some (.int .i64 x.1):=by rw[hW];simp[go_sem]
     have l1:W.cell? ⟨wr.heap.size,1,none⟩=some (.int .i64 x.2.1):=by rw[hW];simp[go_sem]
     have l2:W.cell? ⟨wr.heap.size,2,none⟩=some (.int .i64 x.2.2):=by rw[hW];simp[go_sem]
     clear hW;have f0:=BelW.cell p0 (show w.heap.size<W.heap.size by omega);have f1:=BelW.cell p1 (show w.heap.size<W.heap.size by omega);have f2:=BelW.cell p2 (show w.heap.size<W.heap.size by omega);have f3:=BelW.cell c0 (show b<W.heap.size by omega);have f4:=BelW.cell c1 (show b<W.heap.size by omega);have f5:=BelW.cell c2 (show b<W.heap.size by omega);have f6:=BelW.cell l0 (show wr.heap.size<W.heap.size by omega);have f7:=BelW.cell l1 (show wr.heap.size<W.heap.size by omega);have f8:=BelW.cell l2 (show wr.heap.size<W.heap.size by omega);(refine qK tK tK ?_;(repeat(go_big_quiet_step (first | (go_at_call 175;exact Calls.bel_of (HE.out _)))));refine wpQuiet_nil ?_;intro wq hw';obtain⟨pq,al⟩:=hw';have bq:=pq.h;rw[←al] at bq;clear al pq)
     clear f0 f1 f2 f3 f4 f5 f6 f7 f8;go_wp2;go_ret;exact⟨qC (FA.out F.out).symm,(ax.out.trans (bW.mono tO)).trans (bq.mono tO)⟩
    ·have F:Hid (okE g 0=true):=qA (by rw[HZ.out,e1]);simp only[e1] at hE;have HE:=qA hE;clear hE;go_wp2_with fail;obtain⟨W,hW⟩: ∃W,W=zaE wr (.cells #[.int .i64 x.1, .int .i64 x.2.1, .int .i64 x.2.2] 154):=⟨_,rfl⟩;rw[←hW];have bW:Below wr.heap.size wr W:=by rw[hW];exact(zab _ _).alloc (zaa _) _
     have sW:wr.heap.size<W.heap.size:=by rw[hW];simp
     replace p0:=(bW.cell (p:=⟨w.heap.size,0,none⟩) (show w.heap.size<wr.heap.size by omega)).trans p0;replace p1:=(bW.cell (p:=⟨w.heap.size,1,none⟩) (show w.heap.size<wr.heap.size by omega)).trans p1;replace p2:=(bW.cell (p:=⟨w.heap.size,2,none⟩) (show w.heap.size<wr.heap.size by omega)).trans p2;replace c0:=(bW.cell (p:=⟨b,off,none⟩) (show b<wr.heap.size by omega)).trans c0;replace c1:=(bW.cell (p:=⟨b,off+1,none⟩) (show b<wr.heap.size by omega)).trans c1;replace c2:=(bW.cell (p:=⟨b,off+2,none⟩) (show b<wr.heap.size by omega)).trans c2;have l0:W.cell? ⟨wr.heap.size,0,none⟩=some (.int .i64 x.1):=by rw[hW];simp[go_sem]
     have l1:W.cell? ⟨wr.heap.size,1,none⟩=some (.int .i64 x.2.1):=by rw[hW];simp[go_sem]
     have l2:W.cell? ⟨wr.heap.size,2,none⟩=some (.int .i64 x.2.2):=by rw[hW];simp[go_sem]
     clear hW;have f0:=BelW.cell p0 (show w.heap.size<W.heap.size by omega);have f1:=BelW.cell p1 (show w.heap.size<W.heap.size by omega);have f2:=BelW.cell p2 (show w.heap.size<W.heap.size by omega);have f3:=BelW.cell c0 (show b<W.heap.size by omega);have f4:=BelW.cell c1 (show b<W.heap.size by omega);have f5:=BelW.cell c2 (show b<W.heap.size by omega);have f6:=BelW.cell l0 (show wr.heap.size<W.heap.size by omega);have f7:=BelW.cell l1 (show wr.heap.size<W.heap.size by omega);have f8:=BelW.cell l2 (show wr.heap.size<W.heap.size by omega);(refine qK tK tK ?_;(repeat(go_big_quiet_step (first | (go_at_call 175;exact Calls.bel_of (HE.out _)))));refine wpQuiet_nil ?_;intro wq hw';obtain⟨pq,al⟩:=hw';have bq:=pq.h;rw[←al] at bq;clear al pq)
     clear f0 f1 f2 f3 f4 f5 f6 f7 f8;go_wp2;go_roundw
     case rel=>exact⟨1,tO,by go_num,ST.out F.out,(au.out.trans (bW.mono tO)).trans (bq.mono tO)⟩
     case measure=>simp[intOf];omega
  ·obtain rfl:k=g.2.2.length:=tO
   have F:=qA (qPM HA.out);clear az aa;go_wp2;go_ret;exact⟨qC (by rw[F.out,t1,t2,decide_eq_true tO];rfl),ax.out⟩
def qBY (a b:EdD):Bool:=(a.2.1==b.2.1)&&((a.1==b.1)||(a.2.2==b.2.2))
theorem qCP (a b:EdD):qBY a b=qBY b a:=by
 have h: ∀x y:Int,(x==y)=(y==x):=fun x y=>by rw[zax];simp;constructor<;>(intro h;exact h.symm)
 unfold qBY;rw[h a.2.1,h a.1,h a.2.2]
def Fol (es:List EdD):Prop:=es.Pairwise fun a b=>qBY a b=false
instance (es:List EdD):Decidable (Fol es):=by unfold Fol;infer_instance
def qAk (g:GrD):Bool:=grB g&&decide (Fol g.2.2)
theorem qPY {es:List EdD} (h: ∀i (hi:i<es.length),∀k (hk:k<i),qBY es[i] (es[k]'tO)=false):Fol es:=by
 unfold Fol;rw[zaT];intro i j hi hj dh;rw[qCP];exact h j hj i dh
theorem qHJ {g:GrD} (h:grB g=true) (hf: ∀i (hi:i<g.2.2.length),∀k (hk:k<i),qBY g.2.2[i] (g.2.2[k]'tO)=false):qAk g=true:=by
 unfold qAk;rw[h,decide_eq_true (qPY hf)];rfl
theorem qHy {g:GrD} (h:grB g=false):qAk g=false:=by
 unfold qAk;rw[h];rfl
theorem qGC {g:GrD} {i k:Nat} (hi:i<g.2.2.length) (hk:k<i) (h:qBY g.2.2[i] (g.2.2[k]'tO)=true):qAk g=false:=by
 unfold qAk;rw[decide_eq_false,zbb];intro hf;unfold Fol at hf;rw[zaT] at hf;have:=hf k i tO hi hk
 rw[qCP,h] at this;cases this
theorem qAQ {g:GrD} (h:qAk g=true):grB g=true∧Fol g.2.2:=by
 unfold qAk at h;simpa using h
theorem qBe (v:Value) (g:GrD) (w:World) (h:ArgG w v g):
  Calls Tryz.prog 187 #[v] w fun e w'=>e= .returned (.bool (qAk g))∧Below w.heap.size w w':=by
 have HG:=qA h;obtain⟨s,rfl,_,_,ha⟩:=h;have H:=qA ha;obtain⟨A,cap,rfl,aj,hm,_⟩:=ha;unfold maxLen at hm;go_enter Tryz.func187,Tryz.ntmps187
 go_wp2;have hb:Below w.heap.size w (w.alloc (.cells #[.int .i64 g.1,.int .i64 g.2.1, .slice A g.2.2.length cap] 82)):=(by repeat(first | exact .refl _ _ | (refine BxS ?_ _) | (refine qB ?_ _) | (refine zak ?_) | (refine BxA ?_ _)));have k0:(w.alloc (.cells #[.int .i64 g.1,.int .i64 g.2.1, .slice A g.2.2.length cap] 82)).cell? ⟨w.heap.size,0,none⟩=some (.int .i64 g.1):=by simp[go_sem]
 have k1:(w.alloc (.cells #[.int .i64 g.1,.int .i64 g.2.1, .slice A g.2.2.length cap] 82)).cell? ⟨w.heap.size,1,none⟩=some (.int .i64 g.2.1):=by simp[go_sem]
 have k2:(w.alloc (.cells #[.int .i64 g.1,.int .i64 g.2.1, .slice A g.2.2.length cap] 82)).cell? ⟨w.heap.size,2,none⟩=some (.slice A g.2.2.length cap):=by simp[go_sem]
 have aW:w.heap.size<(w.alloc (.cells #[.int .i64 g.1,.int .i64 g.2.1, .slice A g.2.2.length cap] 82)).heap.size:=by simp
 generalize w.alloc (.cells #[.int .i64 g.1,.int .i64 g.2.1, .slice A g.2.2.length cap] 82)=w1 at hb k0 k1 k2 aW⊢;have HB:=qA hb;have K0:=qA k0;have K1:=qA k1;have K2:=qA k2;clear hb;clear k0 k1 k2;go_loopw [3] (fun i wo=> ∃k:Nat,k≤g.2.2.length∧i= .int .i64 k∧(0<k→grB g=true)∧(∀i (hi:i<g.2.2.length),i<k→ ∀j (hj:j<i),qBY g.2.2[i] (g.2.2[j]'tO)=false)∧Below w1.heap.size w1 wo) (fun i _=>g.2.2.length-(intOf i).toNat)
 case atStart=>exact⟨0,zae _,rfl,fun h=>absurd h tO,fun i hi h=>absurd h tO,zab _ _⟩
 case round=>
  obtain⟨k,hk,rfl,vH,az,aa⟩:=hrel;obtain⟨wo,rfl⟩: ∃wo:World,wo=wr:=⟨_,rfl⟩;have HA:=qA az;have Ju:=qA vH;have au:=qA aa;have ax:=qA (HB.out.trans (aa.mono HB.out.size));have ak:=aa.size;have p0:=(aa.cell (p:=⟨w.heap.size,0,none⟩) aW).trans K0.out;have p1:=(aa.cell (p:=⟨w.heap.size,1,none⟩) aW).trans K1.out;have p2:=(aa.cell (p:=⟨w.heap.size,2,none⟩) aW).trans K2.out;have iI:w.heap.size<wo.heap.size:=tO;clear vH az aa;by_cases ac:k<g.2.2.length
  ·go_wp2_with fail;refine(qt _ g _ (HG.out.below ax.out)).mono ?_
   rintro e wp ⟨rfl,bp⟩;have BP:=qA bp;have szp:=bp.size;replace p0:=(bp.cell (p:=⟨w.heap.size,0,none⟩) iI).trans p0;replace p1:=(bp.cell (p:=⟨w.heap.size,1,none⟩) iI).trans p1;replace p2:=(bp.cell (p:=⟨w.heap.size,2,none⟩) iI).trans p2;have eO:=qA (ax.out.trans (bp.mono tO));have aI:=qA (au.out.trans (bp.mono tO));clear bp;rcases e0:grB g with _ | _
   ·go_wp2_with fail;refine(qt _ g _ (HG.out.below eO.out)).mono ?_
    rintro e wz ⟨rfl,bz⟩;have BZ:=qA bz;clear bz;go_wp2;go_ret;exact⟨qC (by rw[qHy e0]),eO.out.trans (BZ.out.mono tO)⟩
   go_wp2;go_loopw [4] (fun j wr=> ∃m:Nat,m≤k∧j= .int .i64 m∧(∀j (hj:j<k),j<m→qBY g.2.2[k] (g.2.2[j]'tO)=false)∧Below wp.heap.size wp wr) (fun j _=>k-(intOf j).toNat)
   case atStart=>exact⟨0,zae _,rfl,fun j hj h=>absurd h tO,zab _ _⟩
   case round=>
    obtain⟨m,cJ,rfl,bQ,cZ⟩:=hrel;have HI:=qA bQ;have iz:=qA cZ;have szi:=cZ.size;replace p0:=(cZ.cell (p:=⟨w.heap.size,0,none⟩) (show w.heap.size<wp.heap.size by omega)).trans p0;replace p1:=(cZ.cell (p:=⟨w.heap.size,1,none⟩) (show w.heap.size<wp.heap.size by omega)).trans p1;replace p2:=(cZ.cell (p:=⟨w.heap.size,2,none⟩) (show w.heap.size<wp.heap.size by omega)).trans p2;have bR:=qA (eO.out.trans (cZ.mono tO));have nN:w.heap.size<wr.heap.size:=tO;clear bQ cZ;by_cases aK:m<k
    ·obtain⟨b,off,rfl,aM,c0,c1,c2,_⟩:=(H.out.below bR.out).at ac;obtain⟨b2,dL,fo,_,d0,d1,d2,_⟩:=(H.out.below bR.out).at (k:=m) tO;obtain⟨rfl,rfl⟩:b=b2∧off=dL:=by simpa using fo
     have i1:(m:Int)<(g.2.2.length:Int):=tO;have CL:Hid (qBY g.2.2[k] (g.2.2[m]'tO)=true→qAk g=false):=qA (qGC ac aK);have CN:Hid (qBY g.2.2[k] (g.2.2[m]'tO)=false→ ∀j (hj:j<k),j<m+1→qBY g.2.2[k] (g.2.2[j]'tO)=false):=qA fun F j hj hjm=>by
      rcases zad (zag hjm) with h | rfl
      ·exact HI.out j hj h
      ·exact F
     clear fo;generalize g.2.2[k]=x at*;generalize g.2.2[m]'tO=y at*;have hC:Hid (qBY x y=((x.2.1==y.2.1)&&((x.1==y.1)||(x.2.2==y.2.2)))):=qA rfl;rcases t1:(x.2.1==y.2.1) with _ | _
     ·have F:=qA (CN.out (by rw[hC.out,t1];rfl));go_wp2;go_roundw
      case rel=>exact⟨m+1,tO,by go_num,F.out,(iz.out.alloc tO _).alloc (by simp;omega) _⟩
      case measure=>simp[intOf];omega
     rcases t2:(x.1==y.1) with _ | _
     ·rcases t3:(x.2.2==y.2.2) with _ | _
      ·have F:=qA (CN.out (by rw[hC.out,t1,t2,t3];rfl));go_wp2;go_roundw
       case rel=>exact⟨m+1,tO,by go_num,F.out,(iz.out.alloc tO _).alloc (by simp;omega) _⟩
       case measure=>simp[intOf];omega
      ·have F:=qA (CL.out (by rw[hC.out,t1,t2,t3];rfl));go_wp2;go_ret;exact⟨qC F.out.symm,(bR.out.alloc tO _).alloc (by simp;omega) _⟩
     ·have F:=qA (CL.out (by rw[hC.out,t1,t2];rfl));go_wp2;go_ret;exact⟨qC F.out.symm,(bR.out.alloc tO _).alloc (by simp;omega) _⟩
    ·obtain rfl:m=k:=tO
     go_wp2;go_roundw
     case rel=>exact⟨m+1,tO,by go_num,fun _=>e0,fun i hi fE j hj=>by
      rcases zad (zag fE) with h | rfl
      ·exact HA.out i hi h j hj
      ·exact HI.out j hj hj,aI.out.trans (iz.out.mono tO)⟩
     case measure=>simp[intOf];omega
  ·obtain rfl:k=g.2.2.length:=tO
   go_wp2_with fail;refine(qt _ g _ (HG.out.below ax.out)).mono ?_
   rintro e wz ⟨rfl,bz⟩;have BZ:=qA bz;have F:Hid (grB g=qAk g):=qA (by
    rcases e0:grB g with _ | _
    ·exact(qHy e0).symm
    ·exact(qHJ e0 fun i hi j hj=>HA.out i hi hi j hj).symm)
   clear bz;go_wp2;go_ret;exact⟨qC F.out,ax.out.trans (BZ.out.mono tO)⟩
theorem qBd (v:Value) (g:GrD) (w:World) (h:ArgG w v g):
  Calls Tryz.prog 130 #[v] w fun e w'=>e= .returned (.bool (qAk g))∧Below w.heap.size w w':=by
 have HG:=qA h;obtain⟨s,rfl,_,_,ha⟩:=h;have H:=qA ha;obtain⟨A,cap,rfl,aj,hm,fZ,_⟩:=ha;unfold maxLen at hm;have bx:Below w.heap.size w (w.alloc (.cells #[.int .i64 g.1,.int .i64 g.2.1, .slice A g.2.2.length cap] 82)):=(by repeat(first | exact .refl _ _ | (refine BxS ?_ _) | (refine qB ?_ _) | (refine zak ?_) | (refine BxA ?_ _)));have kx:(w.alloc (.cells #[.int .i64 g.1,.int .i64 g.2.1, .slice A g.2.2.length cap] 82)).cell? ⟨w.heap.size,2,none⟩=some (.slice A g.2.2.length cap):=by simp[go_sem]
 have sx:w.heap.size<(w.alloc (.cells #[.int .i64 g.1,.int .i64 g.2.1, .slice A g.2.2.length cap] 82)).heap.size:=by simp
 have BX:=qA bx;have KX:=qA kx;clear bx kx;go_enter Tryz.func130,Tryz.ntmps130
 go_wp2_with fail;refine(qAo _ g _ (HG.out.below BX.out)).mono ?_
 rintro e w1 ⟨rfl,b1⟩;have HB:=qA (BX.out.trans (b1.mono BX.out.size));have k2:=(b1.cell (p:=⟨w.heap.size,2,none⟩) sx).trans KX.out;have aW:w.heap.size<w1.heap.size:=by have:=b1.size;omega
 have K2:=qA k2;clear b1 sx;rcases e0:grB g with _ | _
 ·go_wp2;go_ret;exact⟨qC (qHy e0).symm,HB.out⟩
 go_wp2;clear k2;go_loopw [13] (fun i wo=> ∃k:Nat,k≤g.2.2.length∧i= .int .i64 k∧(∀i (hi:i<g.2.2.length),i<k→ ∀j (hj:j<g.2.2.length),i<j→qBY g.2.2[j] g.2.2[i]=false)∧Below w1.heap.size w1 wo) (fun i _=>g.2.2.length-(intOf i).toNat)
 case atStart=>exact⟨0,zae _,rfl,fun i hi h=>absurd h tO,zab _ _⟩
 case round=>
  obtain⟨k,hk,rfl,az,aa⟩:=hrel;obtain⟨wo,rfl⟩: ∃wo:World,wo=wr:=⟨_,rfl⟩;have HA:=qA az;have au:=qA aa;have ax:=qA (HB.out.trans (aa.mono HB.out.size));have ak:=aa.size;have p2:=(aa.cell (p:=⟨w.heap.size,2,none⟩) aW).trans K2.out;have iI:w.heap.size<wo.heap.size:=tO;clear az aa;by_cases ac:k<g.2.2.length
  ·obtain⟨b,off,rfl,aM,c0,c1,c2,_⟩:=(H.out.below ax.out).at ac;have j1:((k:Int)+1)≤(g.2.2.length:Int):=tO;have j0:(0:Int)≤(k:Int)+1:=tO;have j2:((k:Int)+1)≤(cap:Int):=tO;have CUT:=qA (H.out.cut (k:=k+1) tO);generalize hx:g.2.2[k]=x at c0 c1 c2;have HX:=qA hx;clear hx;have Ek:w.heap.size<wo.heap.size:=iI;by_cases kQ:cap=k+1
   ·have Hr:g.2.2.length=k+1:=tO;go_wp2;refine wp_loop_rounds 1 ?_;rw[rounds_succ];have aS:g.2.2.length-(k+1)=0:=tO;go_wp2;go_roundw
    case rel=>exact⟨k+1,tO,by go_num,fun i hi fE j hj dh=>by
      rcases zad (zag fE) with h | rfl
      ·exact HA.out i hi h j hj dh
      ·omega,au.out.alloc tO _⟩
    case measure=>simp[intOf];omega
   ·have cu:=CUT.out;rw[if_neg kQ] at cu;simp only[Option.map_some,Addr.add_lit] at cu;have CU:=qA cu;clear cu;obtain⟨N,hN⟩: ∃N,N=g.2.2.length-(k+1):=⟨_,rfl⟩;rw[←hN] at CU;have ly:(N:Int)=(g.2.2.length:Int)-((k:Int)+1):=tO;have Fr:k+1+N=g.2.2.length:=tO;go_wp2;have hq:Below wo.heap.size wo (wo.alloc (.cells #[.int .i64 x.1,.int .i64 x.2.1,.int .i64 x.2.2] 154)):=(zab _ _).alloc (zaa _) _;have l0:(wo.alloc (.cells #[.int .i64 x.1,.int .i64 x.2.1,.int .i64 x.2.2] 154)).cell? ⟨wo.heap.size,0,none⟩=some (.int .i64 x.1):=by simp[go_sem]
    have l1:(wo.alloc (.cells #[.int .i64 x.1,.int .i64 x.2.1,.int .i64 x.2.2] 154)).cell? ⟨wo.heap.size,1,none⟩=some (.int .i64 x.2.1):=by simp[go_sem]
    have l2:(wo.alloc (.cells #[.int .i64 x.1,.int .i64 x.2.1,.int .i64 x.2.2] 154)).cell? ⟨wo.heap.size,2,none⟩=some (.int .i64 x.2.2):=by simp[go_sem]
    have sq:wo.heap.size<(wo.alloc (.cells #[.int .i64 x.1,.int .i64 x.2.1,.int .i64 x.2.2] 154)).heap.size:=by simp
    generalize wo.alloc (.cells #[.int .i64 x.1,.int .i64 x.2.1,.int .i64 x.2.2] 154)=wq at hq l0 l1 l2 sq⊢;have HQ:=qA hq;have L0:=qA l0;have L1:=qA l1;have L2:=qA l2;have xM:=qA (ax.out.trans (hq.mono tO));have rW:=qA (au.out.trans (hq.mono tO));clear hq l0 l1 l2;go_loopw [24] (fun j wr=> ∃m:Nat,m≤N∧j= .int .i64 m∧(∀j (hj:j<g.2.2.length),k<j→j<k+1+m→qBY g.2.2[j] x=false)∧Below wq.heap.size wq wr) (fun j _=>N-(intOf j).toNat)
    case atStart=>exact⟨0,zae _,rfl,fun j hj h1 h2=>absurd h2 tO,zab _ _⟩
    case round=>
     obtain⟨m,cJ,rfl,bQ,cZ⟩:=hrel;have HI:=qA bQ;have iz:=qA cZ;have szi:=cZ.size;have l0:=(cZ.cell (p:=⟨wo.heap.size,0,none⟩) sq).trans L0.out;have l1:=(cZ.cell (p:=⟨wo.heap.size,1,none⟩) sq).trans L1.out;have l2:=(cZ.cell (p:=⟨wo.heap.size,2,none⟩) sq).trans L2.out;have bR:=qA (xM.out.trans (cZ.mono tO));have nN:wo.heap.size<wr.heap.size:=tO;clear bQ cZ;by_cases aK:m<N
     ·have rB:(g.2.2.drop (k+1))[m]'(by simp;omega)=g.2.2[k+1+m]'tO:=by rw[List.getElem_drop]
      obtain⟨b2,dL,fo,kI,d0,d1,d2,_⟩:=(CU.out.below bR.out).at (k:=m) (by simp;omega);rw[rB] at d0 d1 d2;obtain⟨rfl,rfl⟩:b=b2∧off+(k+1)*3=dL:=by simpa using fo
      have CL:Hid (qBY (g.2.2[k+1+m]'tO) x=true→qAk g=false):=qA (fun h=>qGC (i:=k+1+m) (k:=k) tO tO (by rw[HX.out];exact h));have CN:Hid (qBY (g.2.2[k+1+m]'tO) x=false→ ∀j (hj:j<g.2.2.length),k<j→j<k+1+(m+1)→qBY g.2.2[j] x=false):=qA fun F j hj hkj hjm=>by
       by_cases e:j=k+1+m
       ·subst e;exact F
       ·exact HI.out j hj hkj tO
      clear fo rB;generalize g.2.2[k+1+m]'tO=y at*;have hC:Hid (qBY y x=((x.2.1==y.2.1)&&((x.1==y.1)||(x.2.2==y.2.2)))):=qA (by rw[qCP];rfl);rcases t1:(x.2.1==y.2.1) with _ | _
      ·have F:=qA (CN.out (by rw[hC.out,t1];rfl));go_wp2;go_roundw
       case rel=>exact⟨m+1,tO,by go_num,F.out,iz.out.alloc tO _⟩
       case measure=>simp[intOf];omega
      rcases t2:(x.1==y.1) with _ | _
      ·rcases t3:(x.2.2==y.2.2) with _ | _
       ·have F:=qA (CN.out (by rw[hC.out,t1,t2,t3];rfl));go_wp2;go_roundw
        case rel=>exact⟨m+1,tO,by go_num,F.out,iz.out.alloc tO _⟩
        case measure=>simp[intOf];omega
       ·have F:=qA (CL.out (by rw[hC.out,t1,t2,t3];rfl));go_wp2;go_ret;exact⟨qC F.out.symm,bR.out.alloc tO _⟩
      ·have F:=qA (CL.out (by rw[hC.out,t1,t2];rfl));go_wp2;go_ret;exact⟨qC F.out.symm,bR.out.alloc tO _⟩
     ·obtain rfl:m=N:=tO
      go_wp2;go_roundw
      case rel=>exact⟨k+1,tO,by go_num,fun i hi fE j hj dh=>by
       rcases zad (zag fE) with h | rfl
       ·exact HA.out i hi h j hj dh
       ·have:=HI.out j hj dh tO
        rw[HX.out];exact this,rW.out.trans (iz.out.mono tO)⟩
      case measure=>simp[intOf];omega
  ·obtain rfl:k=g.2.2.length:=tO
   have F:Hid (qAk g=true):=qA (qHJ e0 fun i hi j hj=>HA.out j tO tO i hi hj);go_wp2;go_ret;exact⟨qC F.out.symm,ax.out⟩
def qD:Nat→List Int
 | 0=> []
 | n+1=>qD n++ [((n:Nat):Int)+1,-(((n:Nat):Int)+1)]
theorem qo (n:Nat):(qD n).length=2*n:=by
 induction n with
 | zero=>rfl
 | succ n ih=>simp[qD,ih];omega
theorem qAm {n:Nat} {x:Int} (h:x∈qD n):(1≤x∧x≤n)∨(1≤ -x∧ -x≤n):=by
 induction n with
 | zero=>cases h
 | succ n ih=>
   simp only[qD,zac,zaF,List.not_mem_nil,or_false] at h;rcases h with h | h | h
   ·have:=ih h;omega
   ·omega
   ·omega
theorem qJV {n:Nat} (hn:n≤1073741824):I64s (qD n):=fun x hx=>by
 have:=qAm hx
 unfold I64;omega
theorem qEt (n:Nat) (w:World) (hn:n≤1073741824):
  Calls Tryz.prog 82 #[.int .i64 n] w fun e w'=> ∃r,e= .returned r∧OwI w' w.heap.size r (qD n)∧Below w.heap.size w w':=by
 go_enter Tryz.func82,Tryz.ntmps82
 go_wp2;go_loopw [3,4] (fun out i wr=> ∃k:Nat,k≤n∧i= .int .i64 (k+1)∧OwI wr w.heap.size out (qD k)∧Below w.heap.size w wr)
  (fun _ i _=>n+1-(intOf i).toNat)
 case atStart=>exact⟨0,zae _,rfl,qW _ [] qS (by simp) (zaa _),(zab _ _).alloc (zaa _) _⟩
 case round=>
  obtain⟨k,hk,rfl,ab,aa⟩:=hrel;have ak:=aa.size;have du:=qo k;by_cases ac:k<n
  ·have HS:Hid (qD (k+1)=qD k++ [(k:Int)+1,-((k:Int)+1)]):=qA rfl;generalize qD k=acc at ab HS du;have HO:=qA ab;obtain⟨A1,ah,rfl,aX,cJ,_,_⟩:=ab.form;clear ab;have HX:Hid (I64 ((k:Int)+1)):=qA ⟨tO,tO⟩;have HY:Hid (I64 (-((k:Int)+1))):=qA ⟨tO,tO⟩;go_wp2_with (first | ((at_builtin;refine qN rfl (.tmp 11) (.tmp 13) rfl _ _ _ (OwI.alloc HO.out _) rfl _ _ rfl (qG _ _ _) HX.out (by first | omega | (simp<;>omega)) (by first | omega | (simp<;>omega)) ?_;intro v1 eq o1 g1 p1);have ao:=g1.size;simp at ao) | (at_builtin;refine qN rfl (.tmp 15) (.tmp 18) rfl _ _ _ (OwI.alloc o1 _) rfl _ _ rfl (qG _ _ _) HY.out (by first | omega | (simp<;>omega)) (by first | omega | (simp<;>omega)) ?_;intro v2 wv2 o2 g2 p2))
   go_roundw
   case rel=>
    have cL:=qQ aa ak HO.out.1 (zaa _) g1;exact⟨k+1,tO,by go_num,by rw[HS.out];simpa using o2,qQ cL cL.size o1.1 (zaa _) g2⟩
   case measure=>simp[intOf];omega
  ·obtain rfl:k=n:=tO
   go_wp2;go_ret;exact⟨_,rfl,ab,aa⟩
theorem qEA (n:Nat) (w:World) (hn:n≤1073741824):
  Calls Tryz.prog 81 #[.int .i64 n] w fun e w'=> ∃r,e= .returned r∧OwI w' w.heap.size r (qD n)∧Below w.heap.size w w':=by
 go_enter Tryz.func81,Tryz.ntmps81
 go_wp2;go_loopw [3,4] (fun out i wr=> ∃k:Nat,k≤n∧i= .int .i64 (k+1)∧OwI wr w.heap.size out (qD k)∧Below w.heap.size w wr)
  (fun _ i _=>n+1-(intOf i).toNat)
 case atStart=>exact⟨0,zae _,rfl,qW _ [] qS (by simp) (zaa _),(zab _ _).alloc (zaa _) _⟩
 case round=>
  obtain⟨k,hk,rfl,ab,aa⟩:=hrel;have ak:=aa.size;have du:=qo k;by_cases ac:k<n
  ·have HS:Hid (qD (k+1)=qD k++ [(k:Int)+1,-((k:Int)+1)]):=qA rfl;generalize qD k=acc at ab HS du;have HO:=qA ab;obtain⟨A1,ah,rfl,aX,cJ,_,_⟩:=ab.form;clear ab;have HX:Hid (I64s [(k:Int)+1,-((k:Int)+1)]):=qA (fun x hx=>by simp at hx;unfold I64;omega);have HL:Hid (RdI (wr.alloc (.cells #[.int .i64 ((k:Int)+1), .int .i64 (-((k:Int)+1))] 3)) (.slice (some ⟨wr.heap.size,0,none⟩) 2 2) [(k:Int)+1,-((k:Int)+1)]):=
    qA (qW wr _ HX.out (by simp) (zaa _)).rd
   go_wp2_with (at_builtin;refine qi rfl (.tmp 11) (.tmp 15) rfl w.heap.size _ _ (HO.out.alloc _) rfl _ _ HL.out rfl (by simp;omega) (by first | omega | (simp;omega)) ?_;intro v2 w2 o2 g2 p2)
   go_roundw
   case rel=>exact⟨k+1,tO,by go_num,by rw[HS.out];exact o2,qQ aa ak HO.out.1 (zaa _) g2⟩
   case measure=>simp[intOf];omega
  ·obtain rfl:k=n:=tO
   go_wp2;go_ret;exact⟨_,rfl,ab,aa⟩
inductive Conn (es:List EdD) (v:Int):Int→Prop
 | base:Conn es v v
 | fwd (e:EdD) (he:e∈es) (h:Conn es v e.1):Conn es v e.2.2
 | back (e:EdD) (he:e∈es) (h:Conn es v e.2.2):Conn es v e.1
def qCu (o:List Int) (e:EdD):List Int:=
 if e.2.2∈(if e.1∈o then insF cmpI o e.2.2 else o) then insF cmpI (if e.1∈o then insF cmpI o e.2.2 else o) e.1 else(if e.1∈o then insF cmpI o e.2.2 else o)
theorem qDZ {xs:List Int} {x y:Int}:y∈insF cmpI xs x↔y=x∨y∈xs:=by rw[qGo];exact qHj x xs qPD y
theorem qBp {o:List Int} {e:EdD} {x:Int}:x∈qCu o e↔x∈o∨((e.1∈o∨e.2.2∈o)∧(x=e.1∨x=e.2.2)):=by
 unfold qCu;by_cases h1:e.1∈o
 ·simp only[h1,if_true];have h2:e.2.2∈insF cmpI o e.2.2:=qDZ.2 (.inl rfl);rw[if_pos h2,qDZ,qDZ];constructor
  ·rintro(h | h | h)
   ·exact .inr ⟨.inl trivial, .inl h⟩
   ·exact .inr ⟨.inl trivial, .inr h⟩
   ·exact .inl h
  ·rintro(h | ⟨_,h | h⟩)
   ·exact .inr (.inr h)
   ·exact .inl h
   ·exact .inr (.inl h)
 ·simp only[h1,if_false];by_cases h2:e.2.2∈o
  ·rw[if_pos h2,qDZ];constructor
   ·rintro(h | h)
    ·exact .inr ⟨.inr h2, .inl h⟩
    ·exact .inl h
   ·rintro(h | ⟨_,h | h⟩)
    ·exact .inr h
    ·exact .inl h
    ·exact .inr (by rw[h];exact h2)
  ·rw[if_neg h2];constructor
   ·exact .inl
   ·rintro(h | ⟨h | h,_⟩)
    ·exact h
    ·exact absurd h (by simp)
    ·exact absurd h h2
def qDu (es:List EdD) (o:List Int):List Int:=es.foldl qCu o
theorem qCb {es:List EdD} {o:List Int} {x:Int} (h:x∈o):x∈qDu es o:=by
 unfold qDu;induction es generalizing o with
 | nil=>exact h
 | cons e es ih=>exact ih (qBp.2 (.inl h))
theorem qMA {es:List EdD} {o:List Int} {e:EdD} (he:e∈es) (h:e.1∈o∨e.2.2∈o):e.1∈qDu es o∧e.2.2∈qDu es o:=by
 unfold qDu;induction es generalizing o with
 | nil=>cases he
 | cons d es ih=>
   rcases zaF.1 he with rfl | he
   ·exact⟨qCb (es:=es) (o:=qCu o e) (qBp.2 (.inr ⟨h, .inl rfl⟩)),qCb (es:=es) (o:=qCu o e) (qBp.2 (.inr ⟨h, .inr rfl⟩))⟩
   ·refine ih he ?_;rcases h with h | h
    ·exact .inl (qBp.2 (.inl h))
    ·exact .inr (qBp.2 (.inl h))
theorem qKF {es es':List EdD} {v:Int} {o:List Int} (hsub: ∀e∈es',e∈es) (h: ∀x∈o,Conn es v x): ∀x∈qDu es' o,Conn es v x:=by
 unfold qDu;induction es' generalizing o with
 | nil=>exact h
 | cons e es' ih=>
   refine ih (fun d hd=>hsub d (by simp[hd])) fun x hx=> ?_;have he:=hsub e (by simp);rcases qBp.1 hx with hx | ⟨h1 | h1,rfl | rfl⟩
   ·exact h x hx
   ·exact h _ h1
   ·exact .fwd e he (h _ h1)
   ·exact .back e he (h _ h1)
   ·exact h _ h1
def Clo (es:List EdD) (o:List Int):Prop:= ∀e∈es,(e.1∈o↔e.2.2∈o)
theorem qJJ {es:List EdD} {o:List Int} (h:Clo es o): ∀x,x∈qDu es o↔x∈o:=by
 have key: ∀es':List EdD,(∀e∈es',e∈es)→ ∀o',(∀x,x∈o'↔x∈o)→ ∀x,x∈es'.foldl qCu o'↔x∈o:=by
  intro es';induction es' with
  | nil=>intro _ o' ho;exact ho
  | cons e es' ih=>
    intro hsub o' ho;refine ih (fun d hd=>hsub d (by simp[hd])) _ fun x=> ?_;rw[qBp,ho,ho,ho];have:=h e (hsub e (by simp))
    constructor
    ·rintro(hx | ⟨h1 | h1,rfl | rfl⟩)
     ·exact hx
     ·exact h1
     ·exact this.1 h1
     ·exact this.2 h1
     ·exact h1
    ·exact .inl
 exact key es (fun _ h=>h) o fun _=>Iff.rfl
def phi (es:List EdD) (o:List Int):Nat:=(es.filter fun e=>decide (e.1∈o∧e.2.2∈o)).length
theorem qMr {α:Type} {p q:α→Bool} {l:List α} (hpq: ∀x,p x=true→q x=true) {a:α} (ha:a∈l) (hq:q a=true) (hp:p a=false):(l.filter p).length<(l.filter q).length:=by
 have le: ∀l:List α,(l.filter p).length≤(l.filter q).length:=by
  intro l;induction l with
  | nil=>simp
  | cons b l ih=>
    rw[zaH,zaH];split
    ·rename_i h
     rw[if_pos (hpq b h)];simp;exact ih
    ·split
     ·simp;omega
     ·exact ih
 induction l with
 | nil=>cases ha
 | cons b l ih=>
   rw[zaH,zaH];rcases zaF.1 ha with rfl | ha
   ·rw[if_neg (by simp[hp]),if_pos hq];have:=le l
    simp;omega
   ·have:=ih ha
    split
    ·rename_i h
     rw[if_pos (hpq b h)];simp;exact this
    ·split
     ·simp;omega
     ·exact this
theorem qQk {es:List EdD} {o:List Int} (h: ¬Clo es o):phi es o<phi es (qDu es o):=by
 unfold Clo at h;have: ∃e,e∈es∧ ¬(e.1∈o↔e.2.2∈o):=by
  apply zaA
  intro hn;exact h fun e he=>zaA fun ai=>hn ⟨e,he,ai⟩
 obtain⟨e,he,ai⟩:=this;have vi:e.1∈o∨e.2.2∈o:=by
  apply zaA
  intro hn;exact ai ⟨fun h=>absurd (.inl h) hn,fun h=>absurd (.inr h) hn⟩
 refine qMr (fun d hd=> ?_) he ?_ ?_
 ·simp only[decide_eq_true_eq] at hd⊢;exact⟨qCb hd.1,qCb hd.2⟩
 ·simp only[decide_eq_true_eq];exact qMA he vi
 ·rw[decide_eq_false_iff_not];exact fun hh=>ai ⟨fun _=>hh.2,fun _=>hh.1⟩
def qCh (es:List EdD) (v:Int):Nat→List Int
 | 0=> [v]
 | i+1=>qDu es (qCh es v i)
theorem qMu (es:List EdD) (v:Int) (i:Nat):Clo es (qCh es v i)∨i≤phi es (qCh es v i):=by
 induction i with
 | zero=>exact .inr (zae _)
 | succ i ih=>
   by_cases h:Clo es (qCh es v i)
   ·left
    intro e he;show e.1∈qDu es _↔e.2.2∈qDu es _
    rw[qJJ h,qJJ h];exact h e he
   ·right
    have h1:=qQk h;rcases ih with ih | ih
    ·exact absurd ih h
    ·show i+1≤phi es (qDu es (qCh es v i))
     omega
def qBj (es:List EdD) (v:Int):List Int:=qCh es v (es.length+1)
theorem qLj (es:List EdD) (v x:Int):x∈qBj es v↔Conn es v x:=by
 have sN:Clo es (qBj es v):=by
  rcases qMu es v (es.length+1) with h | h
  ·exact h
  ·have:phi es (qCh es v (es.length+1))≤es.length:=List.length_filter_le _ _
   omega
 have hv: ∀i,v∈qCh es v i:=by
  intro i;induction i with
  | zero=>simp[qCh]
  | succ i ih=>exact qCb ih
 have hs: ∀i,∀x∈qCh es v i,Conn es v x:=by
  intro i;induction i with
  | zero=>intro x hx;simp[qCh] at hx;subst hx;exact .base
  | succ i ih=>exact qKF (fun _ h=>h) ih
 refine⟨hs _ x,fun h=> ?_⟩;induction h with
 | base=>exact hv _
 | fwd e he _ ih=>exact(sN e he).1 ih
 | back e he _ ih=>exact(sN e he).2 ih
theorem qGy {es:List EdD} {v:Int} {S:Int→Prop} (hv:S v) (hc: ∀e∈es,(S e.1↔S e.2.2)) {x:Int} (h:Conn es v x):S x:=by
 induction h with
 | base=>exact hv
 | fwd e he _ ih=>exact(hc e he).1 ih
 | back e he _ ih=>exact(hc e he).2 ih
theorem qBR {l:List Int} {x:Int}:hasB l x=true↔x∈l:=by
 unfold hasB;rw[za8];constructor
 ·rintro⟨y,hy,h⟩
  have:y=x:=by simpa using h
  rw[←this];exact hy
 ·intro h;exact⟨x,h,by simp⟩
theorem qEm {l:List Int} {x:Int} (h:hasB l x=false):x∉l:=fun hm=>by
 rw[qBR.2 hm] at h;cases h
theorem qMp (o:List Int) (e:EdD):(qCu o e).length≤o.length+2:=by
 unfold qCu;have h1:(if e.1∈o then insF cmpI o e.2.2 else o).length≤o.length+1:=by
  split
  ·exact qEJ _ _
  ·omega
 generalize (if e.1∈o then insF cmpI o e.2.2 else o)=o1 at h1⊢;split
 ·have:=qEJ (c:=cmpI) o1 e.1
  omega
 ·omega
theorem qIM (es:List EdD) (o:List Int):(es.foldl qCu o).length≤o.length+2*es.length:=by
 induction es generalizing o with
 | nil=>simp
 | cons e es ih=>
   have h1:=ih (qCu o e);have h2:=qMp o e;simp only[zaX,zaI];omega
theorem qGF (es:List EdD) (v:Int) (i:Nat) (hl:es.length≤120):(qCh es v i).length≤1+240*i:=by
 induction i with
 | zero=>simp[qCh]
 | succ i ih=>
   have:=qIM es (qCh es v i)
   show(qDu es (qCh es v i)).length≤_
   unfold qDu;omega
def rsL (es:List EdD) (v:Int) (i k:Nat):List Int:=(es.take k).foldl qCu (qCh es v i)
theorem qOr (es:List EdD) (v:Int) (i k:Nat) (h:k<es.length):rsL es v i (k+1)=qCu (rsL es v i k) es[k]:=by
 unfold rsL;rw[zaf h,zar];rfl
theorem qPq (es:List EdD) (v:Int) (i k:Nat) (hl:es.length≤120) (hi:i≤121) (hk:k≤120):(rsL es v i k).length≤100000:=by
 have h1:=qGF es v i hl;have h2:=qIM (es.take k) (qCh es v i);have h3:(es.take k).length≤k:=zaw _ _;unfold rsL;omega
theorem qON {o:List Int} {e:EdD} (h1:hasB o e.1=false) (h2:hasB o e.2.2=false):qCu o e=o:=by
 unfold qCu;rw[if_neg (qEm h1),if_neg (qEm h2)]
theorem qOR {o:List Int} {e:EdD} (h1:hasB o e.1=false) (h2:hasB o e.2.2=true):qCu o e=insF cmpI o e.1:=by
 unfold qCu;rw[if_neg (qEm h1),if_pos (qBR.1 h2)]
theorem qPa {o:List Int} {e:EdD} (h1:hasB o e.1=true):qCu o e=insF cmpI (insF cmpI o e.2.2) e.1:=by
 unfold qCu;rw[if_pos (qBR.1 h1),if_pos (qDZ.2 (.inl rfl))]
theorem qGR (v:Value) (g:GrD) (u:Int) (w:World) (h:ArgG w v g) (hg:grB g=true) (hu:inB u 0 (wrap64 (g.2.1-1))=true) (hu64:I64 u):
  Calls Tryz.prog 199 #[v, .int .i64 u] w fun e w'=> ∃r,e= .returned r∧OwI w' w.heap.size r (qBj g.2.2 u)∧Below w.heap.size w w':=by
 have HG:=qA h;obtain⟨_,aJ,aO,_⟩:=qR hg;have aL:wrap64 (g.2.1-1)=g.2.1-1:=IntWalk.wrap64_in _ ⟨tO,tO⟩;rw[aL] at hu;clear aL;have HU:=qA hu64;clear hu64;obtain⟨s,rfl,_,_,ha⟩:=h;have H:=qA ha;obtain⟨A,cap,rfl,aj,hm,_,hr,_⟩:=ha;have HR:=qA hr;unfold maxLen at hm;have bx:Below w.heap.size w (w.alloc (.cells #[.int .i64 g.1,.int .i64 g.2.1, .slice A g.2.2.length cap] 82)):=(by repeat(first | exact .refl _ _ | (refine BxS ?_ _) | (refine qB ?_ _) | (refine zak ?_) | (refine BxA ?_ _)));have Da:(w.alloc (.cells #[.int .i64 g.1,.int .i64 g.2.1, .slice A g.2.2.length cap] 82)).cell? ⟨w.heap.size,1,none⟩=some (.int .i64 g.2.1):=by simp[go_sem]
 have kx:(w.alloc (.cells #[.int .i64 g.1,.int .i64 g.2.1, .slice A g.2.2.length cap] 82)).cell? ⟨w.heap.size,2,none⟩=some (.slice A g.2.2.length cap):=by simp[go_sem]
 have sx:w.heap.size<(w.alloc (.cells #[.int .i64 g.1,.int .i64 g.2.1, .slice A g.2.2.length cap] 82)).heap.size:=by simp
 have BX:=qA bx;have KX:=qA kx;have GB:=qA Da;clear bx kx Da hr;go_enter Tryz.func199,Tryz.ntmps199
 go_wp2_with fail;have bF:=qt _ g _ (HG.out.below BX.out);rw[hg] at bF;have aD:=qA bF;clear bF;refine aD.out.mono ?_;rintro e w0 ⟨rfl,b1⟩;have B0:=qA (BX.out.trans (b1.mono BX.out.size));have k2:=(b1.cell (p:=⟨w.heap.size,2,none⟩) sx).trans KX.out;have k1:=(b1.cell (p:=⟨w.heap.size,1,none⟩) sx).trans GB.out;have aW:w.heap.size<w0.heap.size:=by have:=b1.size;omega
 clear b1 sx aD;go_wp2_with fail;have bQ:=qI u 0 (g.2.1-1) w0;rw[hu] at bQ;have cM:=qA bQ;clear bQ;refine cM.out.mono ?_;rintro e w' ⟨rfl,rfl⟩;clear cM;go_wp2;have hb:Below w0.heap.size w0 (w0.alloc (.cells #[.int .i64 u] 3)):=(zab _ _).alloc (zaa _) _;have o0:OwI (w0.alloc (.cells #[.int .i64 u] 3)) w0.heap.size (.slice (some ⟨w0.heap.size,0,none⟩) 1 1) [u]:=qW w0 [u] (fun x hx=>by simp at hx;subst hx;exact HU.out) (by simp) (zaa _);have aA:w0.heap.size<(w0.alloc (.cells #[.int .i64 u] 3)).heap.size:=by simp
 generalize w0.alloc (.cells #[.int .i64 u] 3)=w1 at hb o0 aA⊢;have HB:=qA (B0.out.trans (hb.mono B0.out.size));have K2:=qA ((hb.cell (p:=⟨w.heap.size,2,none⟩) aW).trans k2);have O0:=qA (o0.mono (base':=w.heap.size+1) tO);clear hb k1 k2 o0;go_loopw [5,6] (fun out i wo=> ∃k:Nat,k≤g.2.2.length+1∧i= .int .i64 k∧OwI wo (w.heap.size+1) out (qCh g.2.2 u k)∧Below (w.heap.size+1) w1 wo) (fun _ i _=>g.2.2.length+1-(intOf i).toNat)
 case atStart=>exact⟨0,zae _,rfl,O0.out,zab _ _⟩
 case round=>
  obtain⟨k,hk,rfl,ab,aa⟩:=hrel;obtain⟨wo,rfl⟩: ∃wo:World,wo=wr:=⟨_,rfl⟩;have au:=qA aa;have ax:=qA (HB.out.trans (aa.mono tO));have ak:=aa.size;have p2:=(aa.cell (p:=⟨w.heap.size,2,none⟩) (show w.heap.size<w.heap.size+1 by omega)).trans K2.out;have iI:w.heap.size<wo.heap.size:=tO;have jj:=qGF g.2.2 u k aO;have HO:=qA ab;obtain⟨A1,ah,rfl,_⟩:=ab.form;clear ab aa;by_cases ac:k<g.2.2.length+1
  ·have an:(k:Int)<(g.2.2.length:Int)+1:=tO;go_wp2;go_loopw [5,7] (fun out j wr=> ∃m:Nat,m≤g.2.2.length∧j= .int .i64 m∧OwI wr (w.heap.size+1) out (rsL g.2.2 u k m)∧Below (w.heap.size+1) wo wr) (fun _ j _=>g.2.2.length-(intOf j).toNat)
   case atStart=>exact⟨0,zae _,rfl,HO.out,zab _ _⟩
   case round=>
    obtain⟨m,cJ,rfl,ab,cZ⟩:=hrel;have wK:=cZ.size;have p2:=(cZ.cell (p:=⟨w.heap.size,2,none⟩) (show w.heap.size<w.heap.size+1 by omega)).trans p2;have iz:=qA cZ;have eO:=qA (ax.out.trans (cZ.mono tO));have nN:w.heap.size<wr.heap.size:=tO;have tW:=qPq g.2.2 u k m aO tO tO;clear cZ;by_cases aK:m<g.2.2.length
    ·obtain⟨b,off,rfl,aM,c0,c1,c2,_⟩:=(H.out.below eO.out).at aK;have HX:=qA (HR.out g.2.2[m] (by simp));have HS:=qA (qOr g.2.2 u k m aK);generalize g.2.2[m]=e at*;generalize rsL g.2.2 u k m=o at*;have aw:=qA ab;obtain⟨A2,am,rfl,_⟩:=ab.form;clear ab;go_wp2_with fail;obtain⟨W,hW⟩: ∃W,W=zaE wr (.cells #[.int .i64 e.1,.int .i64 e.2.1,.int .i64 e.2.2] 154):=⟨_,rfl⟩;rw[←hW];have bW:Below wr.heap.size wr W:=by rw[hW];exact(zab _ _).alloc (zaa _) _
     have sW:wr.heap.size<W.heap.size:=by rw[hW];simp
     have l0:W.cell? ⟨wr.heap.size,0,none⟩=some (.int .i64 e.1):=by rw[hW];simp[go_sem]
     have l2:W.cell? ⟨wr.heap.size,2,none⟩=some (.int .i64 e.2.2):=by rw[hW];simp[go_sem]
     have OW:=qA (aw.out.below bW);have BW:=qA (iz.out.trans (bW.mono tO));clear hW bW p2 c0 c1 c2;refine(qBK _ o e.1 _ OW.out.rd.arg tO).mono ?_
     rintro e' w' ⟨rfl,rfl⟩;rcases h1:hasB o e.1 with _ | _
     ·go_wp2_with fail;refine(qBK _ o e.2.2 _ OW.out.rd.arg tO).mono ?_
      rintro e' w' ⟨rfl,rfl⟩;rcases h2:hasB o e.2.2 with _ | _
      ·have F:=qA (qON h1 h2);go_wp2;go_roundw
       case rel=>exact⟨m+1,tO,by go_num,by rw[HS.out,F.out];exact OW.out,BW.out⟩
       case measure=>simp[intOf];omega
      ·have F:=qA (qOR h1 h2);go_wp2_with fail;refine(qDJ _ o e.1 _ OW.out.rd HX.out.1 tO).mono ?_
       rintro e' w2 ⟨r2,rfl,o2,b2⟩;have O2:=qA o2;have B2:=qA b2;obtain⟨A3,aU,rfl,_⟩:=o2.form;clear o2 b2;go_wp2;go_roundw
       case rel=>exact⟨m+1,tO,by go_num,by rw[HS.out,F.out];exact O2.out.mono tO,BW.out.trans (B2.out.mono tO)⟩
       case measure=>simp[intOf];omega
     ·have F:=qA (qPa h1);go_wp2_with fail;refine(qDJ _ o e.2.2 _ OW.out.rd HX.out.2.2 tO).mono ?_
      rintro e' w2 ⟨r2,rfl,o2,b2⟩;have O2:=qA o2;have B2:=qA b2;have s2:=b2.size;have d5:=(b2.cell (p:=⟨wr.heap.size,0,none⟩) sW).trans l0;have pu:=(b2.cell (p:=⟨wr.heap.size,2,none⟩) sW).trans l2;obtain⟨A3,aU,rfl,_⟩:=o2.form;have wS:=qEJ (c:=cmpI) o e.2.2;have dQ:hasB (insF cmpI o e.2.2) e.2.2=true:=qBR.2 (qDZ.2 (.inl rfl));have mc:=qA dQ;clear o2 b2 l0 l2 dQ;generalize insF cmpI o e.2.2=o1 at*;go_wp2_with fail;refine(qBK _ o1 e.2.2 _ O2.out.rd.arg tO).mono ?_
      rintro e' w' ⟨rfl,rfl⟩;rw[mc.out];go_wp2_with fail;refine(qDJ _ o1 e.1 _ O2.out.rd HX.out.1 tO).mono ?_
      rintro e' w3 ⟨r3,rfl,o3,b3⟩;have O3:=qA o3;have B3:=qA b3;obtain⟨A4,jm,rfl,_⟩:=o3.form;clear o3 b3;go_wp2;go_roundw
      case rel=>exact⟨m+1,tO,by go_num,by rw[HS.out,F.out];exact O3.out.mono tO,(BW.out.trans (B2.out.mono tO)).trans (B3.out.mono tO)⟩
      case measure=>simp[intOf];omega
    ·obtain rfl:m=g.2.2.length:=tO
     have F:Hid (rsL g.2.2 u k g.2.2.length=qCh g.2.2 u (k+1)):=qA (by unfold rsL;rw[zan];rfl);have aw:=qA ab;obtain⟨A2,am,rfl,_⟩:=ab.form;clear ab;go_wp2;go_roundw
     case rel=>exact⟨k+1,tO,by go_num,by rw[←F.out];exact aw.out,au.out.trans iz.out⟩
     case measure=>simp[intOf];omega
  ·obtain rfl:k=g.2.2.length+1:=tO
   have vW: ¬((g.2.2.length:Int)+1<(g.2.2.length:Int)+1):=tO;go_wp2;go_ret;exact⟨_,rfl,HO.out.mono tO,ax.out⟩
theorem qOL {v x y y':Int} {e e':EdD} (h:mt v x e=some y) (h':mt v x e'=some y'):qBY e e'=true:=by
 unfold mt at h h';by_cases hp:0<x
 ·rw[if_pos hp] at h h';split at h
  ·rename_i a
   split at h'
   ·rename_i b
    unfold qBY;simp[a.1,a.2,b.1,b.2]
   ·cases h'
  ·cases h
 ·rw[if_neg hp] at h h';by_cases hn:x<0
  ·rw[if_pos hn] at h h';split at h
   ·rename_i a
    split at h'
    ·rename_i b
     unfold qBY;simp[a.1,a.2,b.1,b.2]
    ·cases h'
   ·cases h
  ·rw[if_neg hn] at h;cases h
theorem qIW {es:List EdD} (h:Fol es) (v x:Int):(qAE es v x).length≤1:=by
 unfold qAE;unfold Fol at h;induction es with
 | nil=>simp
 | cons e es ih=>
   have p:=List.pairwise_cons.1 h;rw[List.filterMap_cons];cases hm:mt v x e with
   | none=>exact ih p.2
   | some y=>
     have:es.filterMap (mt v x)= []:=by
      rw[List.filterMap_eq_nil_iff];intro e' he';cases ch:mt v x e' with
      | none=>rfl
      | some y'=>
        have:=qOL hm ch
        rw[p.1 e' he'] at this;cases this
     simp[this]
theorem qAM {g:GrD} (h:grB g=true) {e:EdD} (he:e∈g.2.2):(0≤e.1∧e.1<g.2.1)∧(1≤e.2.1∧e.2.1≤g.1)∧(0≤e.2.2∧e.2.2<g.2.1):=by
 obtain⟨h1,h2,_,h4⟩:=qR h;obtain⟨k,hk,rfl⟩:=zaN he;have:=h4 k hk
 have ho:qAq g.1 g.2.1 g.2.2[k]=true:=by
  rcases zaD k with rfl | h0
  ·rw[qFx hk] at this;exact this
  ·rw[qGr h0 hk,zaj] at this;exact this.1
 unfold qAq at ho;rw[IntWalk.wrap64_in (g.2.1-1) ⟨tO,tO⟩] at ho;simp only[zaj,qP] at ho;omega
theorem qDx {g:GrD} (h:grB g=true) (v x:Int):qAY g.2.2 v x= -1∨(0≤qAY g.2.2 v x∧qAY g.2.2 v x<g.2.1):=by
 unfold qAY qAE;cases hs:g.2.2.filterMap (mt v x) with
 | nil=>exact .inl rfl
 | cons y l=>
   right
   have hy:y∈g.2.2.filterMap (mt v x):=by rw[hs];simp
   obtain⟨e,he,hm⟩:=List.mem_filterMap.1 hy;obtain⟨a,_,b⟩:=qAM h he;show 0≤y∧y<g.2.1
   unfold mt at hm;split at hm
   ·split at hm
    ·injection hm with hm;subst hm;exact b
    ·cases hm
   ·split at hm
    ·split at hm
     ·injection hm with hm;subst hm;exact a
     ·cases hm
    ·cases hm
theorem qNq {g:GrD} (h:grB g=true): ∀e∈g.2.2,1≤e.2.1:=fun _ he=>(qAM h he).2.1.1
def qAX (es:List EdD) (u:Int) (o:List Int) (x:Int):List Int:=
 if 0≤qAY es u x then(if hasB o (qAY es u x) then o else o++ [qAY es u x]) else o
def canF (es:List EdD) (ls:List Int):Nat→Nat→List Int→List Int
 | 0,_,o=>o
 | f+1,i,o=>match o[i]? with
   | none=>o
   | some u=>canF es ls f (i+1) (ls.foldl (qAX es u) o)
def canO (g:GrD):List Int:=canF g.2.2 (qD g.1.toNat) 41 0 [0]
def qAd (n:Int) (o:List Int):Prop:=o.Nodup∧(∀y∈o,0≤y∧y<n)∧o[0]? =some 0
theorem qBc: ∀(n:Nat) (o:List Int),o.Nodup→(∀y∈o,0≤y∧y<n)→o.length≤n
 | 0,[],_,_=>zaa _
 | 0,y::o,_,h=>by have:=h y (by simp);omega
 | n+1,o,hd,h=>by
   by_cases hm:(n:Int)∈o
   ·have h1:=List.length_erase_of_mem hm;have h2:=qBc n (o.erase n) (hd.erase _) fun y hy=>by
     have iL:=(hd.mem_erase_iff).1 hy;have:=h y iL.2
     have:y≠(n:Int):=iL.1
     omega
    have:0<o.length:=List.length_pos_of_mem hm
    omega
   ·have:=qBc n o hd fun y hy=>by
     have:=h y hy
     have:y≠(n:Int):=fun e=>hm (e▸hy)
     omega
    omega
def OrdN (n:Int) (o:List Int):Prop:=o.Nodup∧(∀y∈o,0≤y∧y<n)∧1≤o.length
theorem qAd.toN {n:Int} {o:List Int} (h:qAd n o):OrdN n o:=by
 refine⟨h.1,h.2.1,?_⟩;have:=h.2.2
 cases o with
 | nil=>cases this
 | cons _ _=>simp
theorem qAd.len {n:Int} {o:List Int} (h:qAd n o) (hn:n≤40) (fZ:0≤n):o.length≤40:=by
 have:=qBc n.toNat o h.1 fun y hy=>by have:=h.2.1 y hy;omega
 omega
theorem qOl {g:GrD} (hg:grB g=true) {u:Int} {o:List Int} (x:Int) (h:qAd g.2.1 o):qAd g.2.1 (qAX g.2.2 u o x):=by
 unfold qAX;split
 ·rename_i h0
  split
  ·exact h
  ·rename_i hb
   have aE:qAY g.2.2 u x∉o:=qEm (by simpa using hb);refine⟨zam.2 ⟨h.1,by simp,fun a ha b hb e=> ?_⟩,fun y hy=> ?_,?_⟩
   ·simp at hb
    subst hb e;exact aE ha
   ·rcases zac.1 hy with hy | hy
    ·exact h.2.1 y hy
    ·simp at hy
     subst hy;rcases qDx hg u x with e | e
     ·omega
     ·exact e
   ·have:0<o.length:=by
     have:=h.2.2
     cases o with
     | nil=>cases this
     | cons _ _=>simp
    rw[zas this];exact h.2.2
 ·exact h
theorem qKc {g:GrD} (hg:grB g=true) {u:Int} (ls:List Int) {o:List Int} (h:qAd g.2.1 o):qAd g.2.1 (ls.foldl (qAX g.2.2 u) o):=by
 induction ls generalizing o with
 | nil=>exact h
 | cons x ls ih=>exact ih (qOl hg x h)
theorem qFU (es:List EdD) (u:Int) (ls:List Int) (o:List Int) (i:Nat) (y:Int) (h:o[i]? =some y):(ls.foldl (qAX es u) o)[i]? =some y:=by
 induction ls generalizing o with
 | nil=>exact h
 | cons x ls ih=>
   refine ih _ ?_;unfold qAX;split
   ·split
    ·exact h
    ·rw[zas (List.getElem?_eq_some_iff.1 h).1];exact h
   ·exact h
theorem qHF (es:List EdD) (u:Int) (ls o:List Int) (k:Nat) (h:k<ls.length):(ls.take (k+1)).foldl (qAX es u) o=qAX es u ((ls.take k).foldl (qAX es u) o) ls[k]:=by
 rw[zaf h,zar];rfl
theorem qAd.one {n:Int} (h:1≤n):qAd n [0]:=⟨by simp,fun y hy=>by simp at hy;omega,rfl⟩
theorem qLG (es:List EdD) (ls:List Int) (f:Nat) (o:List Int):canF es ls f o.length o=o:=by
 cases f with
 | zero=>rfl
 | succ f=>unfold canF;rw[List.getElem?_eq_none (zaa _)]
theorem qIP (es:List EdD) (ls:List Int) (f i:Nat) (o:List Int) (h:i<o.length):canF es ls (f+1) i o=canF es ls f (i+1) (ls.foldl (qAX es o[i]) o):=by
 rw[canF,zal h]
theorem qPz {g:GrD} (hg:grB g=true) (ls:List Int) (f i:Nat) {o:List Int} (h:qAd g.2.1 o):qAd g.2.1 (canF g.2.2 ls f i o):=by
 induction f generalizing i o with
 | zero=>exact h
 | succ f ih=>
   unfold canF;split
   ·exact h
   ·exact ih _ (qKc hg ls h)
theorem qNQ {g:GrD} (hg:grB g=true):qAd g.2.1 (canO g):=qPz hg _ _ _ (qAd.one (qR hg).2.1.1)
def qOO (es:List EdD):Int→List Int→Int
 | v,[]=>v
 | v,x::w=>if qAY es v x<0 then-1 else qOO es (qAY es v x) w
def okAt (r:Int) (xs:List Int) (i:Nat):Bool:=letB r (xs.getD i 0)&& !(decide (0<i)&&invB (xs.getD (i-1) 0) (xs.getD i 0))
def qY (r:Int) (xs:List Int):Bool:=inB r 1 3&&decide (xs.length≤24)&&(List.range xs.length).all (okAt r xs)
theorem qCV {r:Int} {xs:List Int} (h1:inB r 1 3=true) (h2:xs.length≤24) (h: ∀i,i<xs.length→okAt r xs i=true):qY r xs=true:=by
 unfold qY;rw[h1];simp[h2]
 exact h
theorem qAp {r:Int} {xs:List Int} (i:Nat) (hi:i<xs.length) (h:inB r 1 3=true→okAt r xs i=false):qY r xs=false:=by
 unfold qY;rcases h1:inB r 1 3 with _ | _
 ·rfl
 ·have h2:=h h1;simp
  intro _;exact⟨i,hi,h2⟩
theorem qDc {r:Int} {xs:List Int} (h:qY r xs=true):1≤r∧r≤3:=by
 unfold qY at h;simp only[zaj] at h;exact qP.1 h.1.1
theorem qCW {r:Int} {xs:List Int} (h:qY r xs=true):xs.length≤24:=by
 unfold qY at h;simp only[zaj,decide_eq_true_eq] at h;exact h.1.2
theorem qKk {r:Int} {xs:List Int} (h:qY r xs=true) (i:Nat) (hi:i<xs.length):okAt r xs i=true:=by
 unfold qY at h;simp only[zaj,List.all_eq_true,List.mem_range] at h;exact h.2 i hi
theorem qGE {r:Int} {xs:List Int} (h:qY r xs=true) (i:Nat) (hi:i<xs.length):xs[i]≠0∧ -r≤xs[i]∧xs[i]≤r:=by
 have h1:=qKk h i hi;unfold okAt at h1;simp only[zaj] at h1;have h2:=h1.1;rw[qAB (qP.2 (qDc h))] at h2;simpa[zah,hi] using h2
theorem qIi {r:Int} {xs:List Int} (h:0<xs.length):okAt r xs 0=letB r xs[0]:=by
 simp[okAt,zah,h]
theorem qLO {r:Int} {xs:List Int} {k:Nat} (h0:0<k) (h:k<xs.length):okAt r xs k=(letB r xs[k]&& !invB xs[k-1] xs[k]):=by
 have:k-1<xs.length:=tO
 simp[okAt,zah,h,h0,this]
theorem qLs {a b:Int} (ha:a≠0) (h1: -3≤a) (h2:a≤3):invB a b=(b==wrap64 (-a)):=by
 have:wrap64 (-a)= -a:=IntWalk.wrap64_in _ ⟨tO,tO⟩
 rw[this];unfold invB;rw[zax];simp
 omega
theorem qc (r:Int) (v:Value) (xs:List Int) (w:World) (h:ArgI w v xs) (hl:xs.length≤1073741824):
  Calls Tryz.prog 25 #[.int .i64 r,v] w fun e w'=>e= .returned (.bool (qY r xs))∧ ∃n,w'=w.drewN n:=by
 obtain⟨A,cap,rfl,aj,hm,hr,hb⟩:=h;have HR:=qA hr;have HB:=qA hb;clear hr hb;go_enter Tryz.func25,Tryz.ntmps25
 go_wp2;go_loopw [5] (fun i wr=> ∃k:Nat,k≤xs.length∧i= .int .i64 k∧(inB r 1 3=true→ ∀j,j<k→okAt r xs j=true)∧ ∃n,wr=w.drewN n) (fun i _=>xs.length-(intOf i).toNat)
 case atStart=>exact⟨0,zae _,rfl,fun _ j hj=>absurd hj tO,0,rfl⟩
 case round=>
  obtain⟨k,hk,rfl,ar,n,rfl⟩:=hrel;have bG:=qA ar;clear ar;by_cases ac:k<xs.length
  ·obtain⟨b,off,rfl,hc⟩:=HB.out tO;have ae:=hc k ac;by_cases h0:0<k
   ·have aN:=hc (k-1) tO;have HZ:=qA (qLO (r:=r) h0 ac);have HP:Hid (inB r 1 3=true→xs[k-1]≠0∧ -3≤xs[k-1]∧xs[k-1]≤3):=fun cS=>by
     have h1:=bG.out cS (k-1) tO;unfold okAt at h1;simp only[zaj] at h1;have h2:=h1.1;rw[qAB cS] at h2;have h3:=qP.1 cS;have h4:xs.getD (k-1) 0=xs[k-1]:=by simp[zah,show k-1<xs.length by omega]
     rw[h4] at h2;omega
    have nA:decide ((0:Int)<(k:Int))=true:=by simp;omega
    clear hc;generalize xs[k-1]=y at aN HZ HP;generalize hx:xs[k]=x at ae HZ;clear hx;have key:Hid (∀(b:Bool),(letB r x&& !(x==wrap64 (-y)))=b→inB r 1 3=true→okAt r xs k=b):=fun b hb cS=>by
     rw[HZ.out,qLs (HP.out cS).1 (HP.out cS).2.1 (HP.out cS).2.2];exact hb
    rcases e1:(x==0) with _ | _
    ·have dU:(x != 0)=true:=by simpa using e1
     rcases e2:inB x (wrap64 (-r)) r with _ | _
     ·have F:=qA (key.out false (by unfold letB;rw[dU,e2];rfl));clear dU;go_wp2;go_quiet ((go_at_call 64;first | exact qJ (qI _ _ _ _) | exact qF (qI _ _ _ _)))
      go_wp2;go_ret;exact⟨qC (qAp k ac F.out).symm,_,zay _ _ _⟩
     ·rcases e3:(x==wrap64 (-y)) with _ | _
      ·have F:=qA (key.out true (by unfold letB;rw[dU,e2,e3];rfl));clear dU;go_wp2;go_quiet ((go_at_call 64;first | exact qJ (qI _ _ _ _) | exact qF (qI _ _ _ _)))
       go_wp2;go_roundw
       case rel=>exact⟨k+1,tO,by go_num,fun cS j hj=>by
        rcases zad (zag hj) with hj | rfl
        ·exact bG.out cS j hj
        ·exact F.out cS,_,rfl⟩
       case measure=>simp[intOf];omega
      ·have F:=qA (key.out false (by rw[e3];simp));clear dU;go_wp2;go_quiet ((go_at_call 64;first | exact qJ (qI _ _ _ _) | exact qF (qI _ _ _ _)))
       go_wp2;go_ret;exact⟨qC (qAp k ac F.out).symm,_,zay _ _ _⟩
    ·have dU:(x != 0)=false:=by simpa using e1
     have F:=qA (key.out false (by unfold letB;rw[dU];rfl));clear dU;go_wp2;go_quiet (fail)
     go_wp2;go_ret;exact⟨qC (qAp k ac F.out).symm,_,zay _ _ _⟩
   ·obtain rfl:k=0:=tO
    rw[zaC] at ae;have HZ:=qA (qIi (r:=r) ac);clear hc;generalize hx:xs[0]=x at ae HZ;clear hx;rcases e1:(x==0) with _ | _
    ·have dU:(x != 0)=true:=by simpa using e1
     rcases e2:inB x (wrap64 (-r)) r with _ | _
     ·have F:Hid (okAt r xs 0=false):=qA (by rw[HZ.out];unfold letB;rw[e2,zbb]);clear dU;go_wp2;go_quiet ((go_at_call 64;first | exact qJ (qI _ _ _ _) | exact qF (qI _ _ _ _)))
      go_wp2;go_ret;exact⟨qC (qAp 0 ac fun _=>F.out).symm,_,zay _ _ _⟩
     ·have F:Hid (okAt r xs 0=true):=qA (by rw[HZ.out];unfold letB;rw[dU,e2];rfl);clear dU;go_wp2;go_quiet ((go_at_call 64;first | exact qJ (qI _ _ _ _) | exact qF (qI _ _ _ _)))
      go_wp2;go_roundw
      case rel=>exact⟨1,tO,by go_num,fun cS j hj=>by
       obtain rfl:j=0:=tO
       exact F.out,_,rfl⟩
      case measure=>simp[intOf];omega
    ·have dU:(x != 0)=false:=by simpa using e1
     have F:Hid (okAt r xs 0=false):=qA (by rw[HZ.out];unfold letB;rw[dU];rfl);clear dU;go_wp2;go_quiet (fail)
     go_wp2;go_ret;exact⟨qC (qAp 0 ac fun _=>F.out).symm,_,zay _ _ _⟩
  ·obtain rfl:k=xs.length:=tO
   rcases e1:inB r 1 3 with _ | _
   ·have F:Hid (qY r xs=false):=qA (by unfold qY;rw[e1];rfl);go_wp2_with (go_at_call 64;refine(qI _ _ _ _).mono ?_;rintro e w' ⟨rfl,rfl⟩)
    go_ret;exact⟨qC F.out.symm,n,rfl⟩
   ·by_cases h24:xs.length≤24
    ·have F:=qA (qCV e1 h24 (bG.out e1));go_wp2_with (go_at_call 64;refine(qI _ _ _ _).mono ?_;rintro e w' ⟨rfl,rfl⟩)
     go_ret;exact⟨qC (by rw[F.out];simp;omega),n,rfl⟩
    ·have F:Hid (qY r xs=false):=qA (by unfold qY;rw[decide_eq_false h24];simp);go_wp2_with (go_at_call 64;refine(qI _ _ _ _).mono ?_;rintro e w' ⟨rfl,rfl⟩)
     go_ret;exact⟨qC (by rw[F.out];simp;omega),n,rfl⟩
theorem qz (r:Int) (v:Value) (xs:List Int) (w:World) (h:ArgI w v xs) (hl:xs.length≤1073741824):
  Calls Tryz.prog 72 #[.int .i64 r,v] w fun e w'=>e= .returned (.bool (qY r xs))∧w=w':=by
 obtain⟨A,cap,rfl,aj,hm,hr,hb⟩:=h;have HR:=qA hr;have HB:=qA hb;clear hr hb;rcases e1:inB r 1 3 with _ | _
 ·have F:Hid (qY r xs=false):=qA (by unfold qY;rw[e1];rfl);go_enter Tryz.func72,Tryz.ntmps72
  go_wp2_with (go_at_call 56;refine(qX _ _ _ _).mono ?_;rintro e w' ⟨rfl,rfl⟩)
  go_ret;exact⟨qC F.out.symm,rfl⟩
 ·by_cases h24:xs.length≤24
  ·go_enter Tryz.func72,Tryz.ntmps72
   go_wp2_with (go_at_call 56;refine(qX _ _ _ _).mono ?_;rintro e w' ⟨rfl,rfl⟩)
   go_loop [17] (fun i=> ∃k:Nat,k≤xs.length∧i= .int .i64 k∧(∀j,j<k→okAt r xs j=true)) (fun i=>xs.length-(intOf i).toNat)
   case atStart=>exact⟨0,zae _,rfl,fun j hj=>absurd hj tO⟩
   case round=>
    obtain⟨k,hk,rfl,ar⟩:=hrel;have bG:=qA ar;clear ar;by_cases ac:k<xs.length
    ·obtain⟨b,off,rfl,hc⟩:=HB.out tO;have ae:=hc k ac;have step: ∀(F:okAt r xs k=true),∀j,j<k+1→okAt r xs j=true:=fun F j hj=>by
      rcases zad (zag hj) with hj | rfl
      ·exact bG.out j hj
      ·exact F
     have ST:=qA step;clear step;by_cases h0:0<k
     ·have aN:=hc (k-1) tO;have HZ:=qA (qLO (r:=r) h0 ac);have HY:=qA (HR.out xs[k-1] (by simp));clear hc;generalize xs[k-1]=y at aN HZ HY;generalize hx:xs[k]=x at ae HZ;clear hx;rcases e2:letB r x with _ | _
      ·have F:Hid (okAt r xs k=false):=qA (by rw[HZ.out,e2];rfl);go_wp2_with (go_at_call 57;refine(qd _ _ _).mono ?_;rintro e w' ⟨rfl,rfl⟩)
       go_ret;exact⟨qC (qAp k ac fun _=>F.out).symm,rfl⟩
      ·rcases e3:invB y x with _ | _
       ·have F:Hid (okAt r xs k=true):=qA (by rw[HZ.out,e2,e3];rfl);go_wp2_with (first | (go_at_call 57;refine(qd _ _ _).mono ?_;rintro e w' ⟨rfl,rfl⟩) | (go_at_call 111;refine(qAZ _ _ _ HY.out).mono ?_;rintro e w' ⟨rfl,rfl⟩))
        go_round
        case rel=>exact⟨k+1,tO,by go_num,ST.out F.out⟩
        case measure=>simp[intOf];omega
       ·have F:Hid (okAt r xs k=false):=qA (by rw[HZ.out,e2,e3];rfl);go_wp2_with (first | (go_at_call 57;refine(qd _ _ _).mono ?_;rintro e w' ⟨rfl,rfl⟩) | (go_at_call 111;refine(qAZ _ _ _ HY.out).mono ?_;rintro e w' ⟨rfl,rfl⟩))
        go_ret;exact⟨qC (qAp k ac fun _=>F.out).symm,rfl⟩
     ·obtain rfl:k=0:=tO
      rw[zaC] at ae;have HZ:=qA (qIi (r:=r) ac);clear hc;generalize hx:xs[0]=x at ae HZ;clear hx;rcases e2:letB r x with _ | _
      ·have F:Hid (okAt r xs 0=false):=qA (by rw[HZ.out,e2]);go_wp2_with (go_at_call 57;refine(qd _ _ _).mono ?_;rintro e w' ⟨rfl,rfl⟩)
       go_ret;exact⟨qC (qAp 0 ac fun _=>F.out).symm,rfl⟩
      ·have F:Hid (okAt r xs 0=true):=qA (by rw[HZ.out,e2]);go_wp2_with (go_at_call 57;refine(qd _ _ _).mono ?_;rintro e w' ⟨rfl,rfl⟩)
       go_round
       case rel=>exact⟨1,tO,by go_num,ST.out F.out⟩
       case measure=>simp[intOf];omega
    ·obtain rfl:k=xs.length:=tO
     have F:=qA (qCV e1 h24 bG.out);go_wp2;go_ret;exact⟨qC F.out.symm,rfl⟩
  ·have F:Hid (qY r xs=false):=qA (by unfold qY;rw[decide_eq_false h24];simp);go_enter Tryz.func72,Tryz.ntmps72
   go_wp2_with (go_at_call 56;refine(qX _ _ _ _).mono ?_;rintro e w' ⟨rfl,rfl⟩)
   go_ret;exact⟨qC F.out.symm,rfl⟩
def okW (w:List Int) (x:Int):Bool:=decide (w.length=0)||decide (x≠ -(w.getD (w.length-1) 0))
def nxtW (ls:List Int) (w:List Int):List (List Int):=(ls.filter (okW w)).map fun x=>w++ [x]
def layW (ls:List Int):Nat→List (List Int)
 | 0=> [[]]
 | n+1=>(layW ls n).flatMap (nxtW ls)
def uptW (ls:List Int):Nat→List (List Int)
 | 0=> [[]]
 | n+1=>uptW ls n++layW ls (n+1)
def Ow3 (lo:Nat) (w:World) (v1:Value) (L1:List (List Int)) (v2:Value) (L2:List (List Int)) (v3:Value) (L3:List (List Int)):Prop:=
 ∃F1 F2 F3,OwLf EI 24 1 w v1 L1 F1∧OwLf EI 24 1 w v2 L2 F2∧OwLf EI 24 1 w v3 L3 F3∧(F1++(F2++F3)).Nodup∧ ∀b∈F1++(F2++F3),lo≤b∧b<w.heap.size
section
variable {lo:Nat} {w w' w0:World} {v1 v2 v3:Value} {L1 L2 L3:List (List Int)}
end
theorem qFf (n:Int) (w:World) (hn:I64 n):
  Calls Tryz.prog 164 #[.int .i64 n] w fun x w'=>x= .returned (.tuple #[if inB n 1 3=true then .agg #[.int .i64 n, .int .i64 1, .slice none 0 0] else .agg #[.int .i64 0, .int .i64 0, .slice none 0 0], .bool (inB n 1 3)])∧Below w.heap.size w w':=by
 rcases e1:inB n 1 3 with _ | _
 ·go_enter Tryz.func164,Tryz.ntmps164
  go_wp2_with (go_at_call 64;refine(qI _ _ _ _).mono ?_;rintro e w' ⟨rfl,rfl⟩)
  exact bodyPost_ret (v:= .tuple #[.agg #[.int .i64 0, .int .i64 0, .slice none 0 0], .bool false]) (by simp[results,Tryz.results164,go_sem]) rfl ⟨rfl,(by repeat(first | exact .refl _ _ | (refine BxS ?_ _) | (refine qB ?_ _) | (refine zak ?_) | (refine BxA ?_ _)))⟩
 ·go_enter Tryz.func164,Tryz.ntmps164
  go_wp2_with (go_at_call 64;refine(qI _ _ _ _).mono ?_;rintro e w' ⟨rfl,rfl⟩)
  exact bodyPost_ret (v:= .tuple #[.agg #[.int .i64 n, .int .i64 1, .slice none 0 0], .bool true]) (by simp[results,Tryz.results164,go_sem]) rfl ⟨rfl,(by repeat(first | exact .refl _ _ | (refine BxS ?_ _) | (refine qB ?_ _) | (refine zak ?_) | (refine BxA ?_ _)))⟩
structure LwI (lo gl rk cl:Nat) (ls:List Int) (W wr:World) (out:Value) (L1:List (List Int)) (next:Value) (L2:List (List Int)) (layer:Value) (L3:List (List Int)):Prop where
 o:Ow3 lo wr out L1 next L2 layer L3
 l:OwI wr 0 (.slice (some ⟨gl,0,none⟩) (2*rk) cl) ls
 b:Below lo W wr
 g:gl<wr.heap.size
 a1:out.ownBlock≠some gl
 a2:next.ownBlock≠some gl
 lo_le:lo≤wr.heap.size
section
variable {lo gl rk cl:Nat} {ls:List Int} {W wr w' w0:World} {out next layer v':Value} {L1 L2 L3 L':List (List Int)}
end
theorem qAC (v:Value) (xs:List Int) (w:World) (h:RdI w v xs) (hl:xs.length≤1073741824):
  Calls Tryz.prog 63 #[v] w fun e w'=> ∃r,e= .returned r∧OwI w' w.heap.size r xs∧Below w.heap.size w w':=by
 have H:=qA h;obtain⟨A,cap,rfl,_⟩:=h.arg;clear h;go_enter Tryz.func63,Tryz.ntmps63
 go_wp2_with (at_builtin;refine qi rfl (.tmp 3) (.tmp 4) rfl w.heap.size _ [] (qW _ [] qS (by simp) (zaa _)) rfl _ _ (H.out.alloc _) rfl (by simp;omega) (by simp) ?_;intro v1 w1 o1 g1 p1)
 go_ret;exact⟨_,rfl,by simpa using o1,((zab _ _).alloc (zaa _) _).grown g1 (by simp) (fun k hk=>by simp[zau] at hk;omega)⟩
section
variable {α:Type} {E:El α} {t:TypeId} {width:Nat} {w w' w1 w2:World} {vs vo vo':Value} {ds:List α} {lo hi:Nat} {p:α→Bool} {k:Nat}
end
def SegI (N g off:Nat) (w:World) (hs:List Value) (L:List (List Int)):Prop:=
 hs.length=L.length∧ ∀i (h:i<hs.length) (h':i<L.length),w.cell? ⟨g,off+i,none⟩=some hs[i]∧RdI w hs[i] L[i]∧ ∀b,hs[i].ownBlock=some b→b<N∧b≠g
structure Up2 (lo N g off:Nat) (W wr:World) (hs:List Value) (LK:List (List Int)) (v:Value) (L:List (List Int)):Prop where
 o:OwII lo wr.heap.size v L wr
 s:SegI N g off wr hs LK
 b:Below lo W wr
 v:v.ownBlock=some g∨ ∃b,v.ownBlock=some b∧N≤b∧b≠g
 n:off+hs.length≤L.length
 hN:N≤wr.heap.size
 ee:lo≤N
 hg:g<N
section
variable {lo N g off:Nat} {W wr w0 w':World} {hs:List Value} {LK L:List (List Int)} {v v':Value} {d:List Int}
end
def negL (xs:List Int):List Int:=xs.map fun x=>wrap64 (-x)
def invL (xs:List Int):List Int:=(negL xs).reverse
theorem qLS (x:Int):I64 (wrap64 x):=by
 unfold I64 wrap64;omega
theorem qId (xs:List Int) (k:Nat) (hk:k<xs.length):(invL xs).take (k+1)=(invL xs).take k++ [wrap64 (-xs[xs.length-1-k])]:=by
 have h:k<(invL xs).length:=by simpa[invL,negL] using hk
 rw[zaf h];congr 2
 simp[invL,negL]
theorem qAg (v:Value) (xs:List Int) (w:World) (h:RdI w v xs) (hl:xs.length≤1073741824):
  Calls Tryz.prog 107 #[v] w fun e w'=> ∃r,e= .returned r∧OwI w' w.heap.size r (invL xs)∧Below w.heap.size w w':=by
 have H:=qA h;obtain⟨A,cap,rfl,aj,hm,hr,hb⟩:=h.arg;clear h hb;go_enter Tryz.func107,Tryz.ntmps107
 go_wp2;go_loopw [3,4] (fun out i wr=> ∃k:Nat,k≤xs.length∧i= .int .i64 ((xs.length:Int)-1-(k:Int))∧OwI wr w.heap.size out ((invL xs).take k)∧Below w.heap.size w wr)
  (fun _ i _=>(intOf i+1).toNat)
 case atStart=>exact⟨0,zae _,by simp,qW _ [] qS (by simp) (zaa _),(zab _ _).alloc (zaa _) _⟩
 case round=>
  obtain⟨k,hk,rfl,ab,aa⟩:=hrel;have ak:=aa.size;have jg:((invL xs).take k).length≤k:=zaw _ _;by_cases ac:k<xs.length
  ·obtain⟨b,off,rfl,aM,hc⟩:=(H.out.below aa).at tO;have ae:=hc (xs.length-1-k) tO;have HS:=qA (qId xs k ac);have HO:=qA ab;clear hc ab;go_wp2_with (at_builtin;refine qN rfl (.tmp 13) (.tmp 19) rfl _ _ _ (OwI.alloc HO.out _) rfl _ _ rfl (qG _ _ _) (qLS _) (by first | omega | (simp<;>omega)) (by first | omega | (simp<;>omega)) ?_;intro v1 eq o1 g1 p1)
   go_roundw
   case rel=>exact⟨k+1,tO,by go_num,by rw[HS.out];exact o1,qQ aa ak HO.out.1 (zaa _) g1⟩
   case measure=>simp[intOf];omega
  ·obtain rfl:k=xs.length:=tO
   go_wp2;go_ret;exact⟨_,rfl,by rw[za1 (by simp[invL,negL])] at ab;exact ab,aa⟩
theorem qEF (v:Value) (xs:List Int) (w:World) (h:RdI w v xs) (hl:xs.length≤1073741824):
  Calls Tryz.prog 102 #[v] w fun e w'=> ∃r,e= .returned r∧OwI w' w.heap.size r (invL xs)∧Below w.heap.size w w':=by
 have H:=qA h;obtain⟨A,cap,rfl,aj,hm,hr,hb⟩:=h.arg;clear h hb;go_enter Tryz.func102,Tryz.ntmps102
 obtain⟨i0,a7,aS,ao,aP⟩:=info_parts qEa;go_wp2_with (at_make;refine wpList_make_own _ rfl _ _ 24 rfl w.heap.size 3 i0 (.int .i64 0) 1 Tryz.underlying24 a7 aS ao _ _ _ xs.length rfl rfl rfl (by rw[aP];omega) (by unfold maxLen;omega) (zaa _) ?_)
 intro w0 hown0 hgrow0;go_wp2;go_loopw [3,4] (fun out i wr=> ∃k:Nat,k≤xs.length∧i= .int .i64 ((xs.length:Int)-1-(k:Int))∧OwI wr w.heap.size out ((invL xs).take k)∧Below w.heap.size w wr)
  (fun _ i _=>(intOf i+1).toNat)
 case atStart=>exact⟨0,zae _,by simp,⟨hown0,qS⟩,(zab _ _).grown hgrow0 (zaa _) (fun k h=>by cases h)⟩
 case round=>
  obtain⟨k,hk,rfl,ab,aa⟩:=hrel;have ak:=aa.size;have jg:((invL xs).take k).length≤k:=zaw _ _;by_cases ac:k<xs.length
  ·obtain⟨b,off,rfl,aM,hc⟩:=(H.out.below aa).at tO;have ae:=hc (xs.length-1-k) tO;have HS:=qA (qId xs k ac);have HO:=qA ab;clear hc ab;go_wp2_with (at_builtin;refine qN rfl (.tmp 15) (.tmp 21) rfl _ _ _ (OwI.alloc HO.out _) rfl _ _ rfl (qG _ _ _) (qLS _) (by first | omega | (simp<;>omega)) (by first | omega | (simp<;>omega)) ?_;intro v1 eq o1 g1 p1)
   go_roundw
   case rel=>exact⟨k+1,tO,by go_num,by rw[HS.out];exact o1,qQ aa ak HO.out.1 (zaa _) g1⟩
   case measure=>simp[intOf];omega
  ·obtain rfl:k=xs.length:=tO
   go_wp2;go_ret;exact⟨_,rfl,by rw[za1 (by simp[invL,negL])] at ab;exact ab,aa⟩
def red1 (acc:List Int) (x:Int):List Int:=if 0<acc.length∧invB (acc.getLastD 0) x=true then acc.dropLast else acc++ [x]
def redL (acc xs:List Int):List Int:=xs.foldl red1 acc
theorem qPA (acc:List Int) (x:Int):(red1 acc x).length≤acc.length+1:=by
 unfold red1;split<;>simp;omega
theorem qCn (acc xs:List Int):(redL acc xs).length≤acc.length+xs.length:=by
 unfold redL;induction xs generalizing acc with
 | nil=>simp
 | cons x xs ih=>have:=ih (red1 acc x);have:=qPA acc x;simp only[zaX,zaI];omega
theorem qJQ (acc xs:List Int) (k:Nat) (h:k<xs.length):redL acc (xs.take (k+1))=red1 (redL acc (xs.take k)) xs[k]:=by
 unfold redL;rw[zaf h,zar];rfl
theorem qOn {acc:List Int} {x:Int} (h:I64s acc) (hx:I64 x):I64s (red1 acc x):=by
 unfold red1;split
 ·exact fun y hy=>h y (zaL _ hy)
 ·intro y hy;rcases zac.1 hy with hy | hy
  ·exact h y hy
  ·simp at hy;subst hy;exact hx
theorem qOi {acc xs:List Int} (h:I64s acc) (hx:I64s xs):I64s (redL acc xs):=by
 unfold redL;induction xs generalizing acc with
 | nil=>exact h
 | cons x xs ih=>exact ih (qOn h (hx x (by simp))) fun y hy=>hx y (by simp[hy])
theorem qCo (x:Int):red1 [] x= [x]:=by simp[red1]
theorem qFw {acc:List Int} (h:0<acc.length):acc.getLastD 0=acc[acc.length-1]:=by
 cases acc with
 | nil=>simp at h
 | cons a l=>simp[List.getLastD,List.getLast_eq_getElem]
theorem qLU {acc:List Int} {x:Int} (h:0<acc.length) (hi:invB acc[acc.length-1] x=true):red1 acc x=acc.take (acc.length-1):=by
 rw[←qFw h] at hi;rw[red1,if_pos ⟨h,hi⟩,za3]
theorem qIj {acc:List Int} {x:Int} (h:0<acc.length) (hi:invB acc[acc.length-1] x=false):red1 acc x=acc++ [x]:=by
 rw[←qFw h] at hi;rw[red1,if_neg];intro hh;rw[hi] at hh;exact absurd hh.2 (by simp)
theorem qNn {l x:Int} (hl:I64 l) (hx:I64 x):invB l x=(x != 0&&l==wrap64 (-x)&&l != x):=by
 have iO:=hl.1;have wS:=hl.2;unfold invB;by_cases h:x= -9223372036854775808
 ·subst h;have:wrap64 (- -9223372036854775808)= -9223372036854775808:=by decide+kernel
  rw[this,zax];simp
  omega
 ·rw[I64.neg hx h,zax];have aQ:=hx.1;simp
  constructor
  ·rintro⟨⟨h1,h2⟩,h3⟩
   exact⟨⟨fun hh=>h1 tO,by rw[h3,Int.neg_neg]⟩,fun hh=>h1 tO⟩
  ·rintro⟨⟨h1,h2⟩,h3⟩
   exact⟨⟨fun hh=>h1 tO,fun hh=>by have:=hx.2;omega⟩,by rw[h2,Int.neg_neg]⟩
theorem qAO (v:Value) (xs:List Int) (w:World) (h:RdI w v xs) (hl:xs.length≤1073741824):
  Calls Tryz.prog 108 #[v] w fun e w'=> ∃r,e= .returned r∧OwI w' w.heap.size r (redL [] xs)∧Below w.heap.size w w':=by
 have H:=qA h;obtain⟨A,cap,rfl,aj,hm,hr,hb⟩:=h.arg;have HR:=qA hr;clear h hb hr;go_enter Tryz.func108,Tryz.ntmps108
 go_wp2;go_loopw [3,4] (fun out i wr=> ∃k:Nat,k≤xs.length∧i= .int .i64 k∧OwI wr w.heap.size out (redL [] (xs.take k))∧Below w.heap.size w wr)
  (fun _ i _=>xs.length-(intOf i).toNat)
 case atStart=>exact⟨0,zae _,rfl,qW _ [] qS (by simp) (zaa _),(zab _ _).alloc (zaa _) _⟩
 case round=>
  obtain⟨k,hk,rfl,ab,aa⟩:=hrel;have ak:=aa.size;have jg:(redL [] (xs.take k)).length≤k:=by have:=qCn [] (xs.take k);have:=zaw k xs;simp at*;omega
  by_cases ac:k<xs.length
  ·obtain⟨b,off,rfl,aM,hc⟩:=(H.out.below aa).at tO;have ae:=hc k ac;have HS:=qA (qJQ [] xs k ac);have HX:=qA (HR.out xs[k] (by simp));generalize hg:redL [] (xs.take k)=acc at ab jg HS;clear hg hc;generalize na:xs[k]=x at ae HS HX;clear na;have HO:=qA ab;obtain⟨A1,ah,rfl,aX,cJ,_,dx⟩:=ab.form;by_cases h0:0<acc.length
   ·obtain⟨g,rfl,fd,dC⟩:=dx h0;obtain⟨b1,oJ,pZ,_,aC⟩:=ab.rd.at h0;obtain⟨rfl,rfl⟩:g=b1∧0=oJ:=by simpa using pZ
    have bV:=aC (acc.length-1) tO;rw[Nat.zero_add] at bV;have jS:=qA (ab.2 acc[acc.length-1] (by simp));have HC:=qA (qLU (x:=x) h0);have HP:=qA (qIj (x:=x) h0);generalize acc[acc.length-1]=last at bV jS HC HP;have HT:=qA (qNn jS.out HX.out);have nA:decide ((0:Int)<(acc.length:Int))=true:=by simp;omega
    clear aC dx ab pZ;have push: ∀(hf:invB last x=false),red1 acc x=acc++ [x]:=fun hf=>HP.out hf;have PU:=qA push;clear push;by_cases e1:x=0
    ·subst e1;have PF:=qA (PU.out (by rw[HT.out];simp));go_wp2;go_quiet (fail)
     go_wp2_with (at_builtin;refine qN rfl (.tmp 53) (.tmp 58) rfl _ _ _ (OwI.alloc (OwI.drewN HO.out _) _) rfl _ _ rfl (qG _ _ _) HX.out (by first | omega | (simp<;>omega)) (by first | omega | (simp<;>omega)) ?_;intro v1 eq o1 g1 p1)
     go_roundw
     case rel=>exact⟨k+1,tO,by go_num,by rw[HS.out,PF.out];exact o1,qQ (qB aa _) ak (OwI.drewN HO.out _).1 (zaa _) g1⟩
     case measure=>simp[intOf];omega
    ·have dU:(x != 0)=true:=by simp[e1]
     by_cases e2:last=wrap64 (-x)
     ·have rD:(last==wrap64 (-x))=true:=by simp[e2]
      have E2:=qA e2;clear e2;by_cases e3:last=x
      ·have Ab:(last != x)=false:=by simp[e3]
       have PF:=qA (PU.out (by rw[HT.out,Ab];simp));have E3:=qA e3;clear e3 e1;go_wp2;go_quiet (fail)
       go_wp2_with (at_builtin;refine qN rfl (.tmp 53) (.tmp 58) rfl _ _ _ (OwI.alloc (OwI.drewN HO.out _) _) rfl _ _ rfl (qG _ _ _) HX.out (by first | omega | (simp<;>omega)) (by first | omega | (simp<;>omega)) ?_;intro v1 eq o1 g1 p1)
       go_roundw
       case rel=>exact⟨k+1,tO,by go_num,by rw[HS.out,PF.out];exact o1,qQ (qB aa _) ak (OwI.drewN HO.out _).1 (zaa _) g1⟩
       case measure=>simp[intOf];omega
      ·have Ab:(last != x)=true:=by simp[e3]
       have PF:=qA (HC.out (by rw[HT.out,dU,rD,Ab];rfl));clear e3 e1;go_wp2;go_quiet (fail)
       go_wp2;go_roundw
       case rel=>exact⟨k+1,tO,by go_num,by rw[HS.out,PF.out];exact qKB (OwI.drewN HO.out _) tO,qB aa _⟩
       case measure=>simp[intOf];omega
     ·have rD:(last==wrap64 (-x))=false:=by simp[e2]
      have PF:=qA (PU.out (by rw[HT.out,rD];simp));clear e2 e1;go_wp2;go_quiet (fail)
      go_wp2_with (at_builtin;refine qN rfl (.tmp 53) (.tmp 58) rfl _ _ _ (OwI.alloc (OwI.drewN HO.out _) _) rfl _ _ rfl (qG _ _ _) HX.out (by first | omega | (simp<;>omega)) (by first | omega | (simp<;>omega)) ?_;intro v1 eq o1 g1 p1)
      go_roundw
      case rel=>exact⟨k+1,tO,by go_num,by rw[HS.out,PF.out];exact o1,qQ (qB aa _) ak (OwI.drewN HO.out _).1 (zaa _) g1⟩
      case measure=>simp[intOf];omega
   ·obtain rfl:acc= []:=zai tO
    clear dx ab;go_wp2;go_quiet (fail)
    go_wp2_with (at_builtin;refine qN rfl (.tmp 53) (.tmp 58) rfl _ _ _ (OwI.alloc (OwI.drewN HO.out _) _) rfl _ _ rfl (qG _ _ _) HX.out (by first | omega | (simp<;>omega)) (by first | omega | (simp<;>omega)) ?_;intro v1 eq o1 g1 p1)
    go_roundw
    case rel=>exact⟨k+1,tO,by go_num,by rw[HS.out];exact o1,qQ (qB aa _) ak (OwI.drewN HO.out _).1 (zaa _) g1⟩
    case measure=>simp[intOf];omega
  ·obtain rfl:k=xs.length:=tO
   rw[zan] at ab jg;have HO:=qA ab;obtain⟨A1,ah,rfl,aX,cJ,_,dx⟩:=ab.form;clear ab dx;go_wp2_with (at_builtin;refine qi rfl (.tmp 60) (.tmp 61) rfl w.heap.size _ [] (qW _ [] qS (by simp) ak) rfl _ _ (HO.out.alloc _).rd rfl (by first | omega | (simp<;>omega)) (by first | omega | (simp<;>omega)) ?_;intro v1 w1 o1 g1 p1)
   go_ret;exact⟨_,rfl,by simpa using o1,(aa.alloc ak _).grown g1 (by simp;omega) (fun k hk=>by simp[zau] at hk;omega)⟩
theorem qBV (u v:Value) (xs ys:List Int) (w:World) (h:RdI w u xs) (h':RdI w v ys) (hl:xs.length≤536870912) (fC:ys.length≤536870912):
  Calls Tryz.prog 117 #[u,v] w fun e w'=> ∃r,e= .returned r∧OwI w' w.heap.size r (redL [] (xs++ys))∧Below w.heap.size w w':=by
 have H:=qA h;have H':=qA h';clear h h';go_enter Tryz.func117,Tryz.ntmps117
 go_wp2_with (first
  | (at_builtin;refine qi rfl (.tmp 5) (.tmp 6) rfl w.heap.size _ [] (qW w [] qS (by simp) (zaa _)) rfl _ _ (H.out.alloc _) rfl (by simp only[zaB];omega) (by simp) ?_;intro v1 w1 o1 g1 p1;have O1:=qA o1;have cL:Hid (Below w.heap.size w w1):=qA (((zab _ _).alloc (zaa _) _).grown g1 (by simp) (fun k hk=>by simp[zau] at hk;omega));clear o1 g1 p1)
  | (at_builtin;have aA:=cL.out.size;refine qi rfl (.tmp 7) (.tmp 8) rfl w.heap.size _ _ O1.out rfl _ _ (H'.out.below cL.out) rfl (by simp only[zao,zaB];omega) aA ?_;intro v2 w2 o2 g2 p2;have O2:=qA o2;have bD:Hid (Below w.heap.size w w2):=qA (cL.out.grown g2 aA (fun k hk=>(O1.out.1.lt k hk).1));clear o2 g2 p2))
 have bK:=bD.out.size;refine(qAO _ _ _ O2.out.rd (by simp only[zao,zaB];omega)).mono ?_
 rintro e w3 ⟨r3,rfl,o3,b3⟩;have O3:=qA o3;have B3:=qA b3;clear o3 b3;go_wp2;go_ret;exact⟨_,rfl,by have:=O3.out.mono bK;simpa using this,bD.out.trans (B3.out.mono bK)⟩
def qEX (L:List (List Int)):List Int:=redL [] L.flatten
def qu (L:List (List Int)):Nat:=(L.map List.length).sum
theorem qLm (L:List (List Int)) (k:Nat) (h:k<L.length):qEX (L.take (k+1))=redL (qEX (L.take k)) L[k]:=by
 unfold qEX redL;rw[zaf h,zaO,zar];simp
theorem qLt (L:List (List Int)) (k:Nat) (h:k<L.length):qu (L.take k)+L[k].length≤qu L:=by
 unfold qu;have:L=L.take k++L[k]::L.drop (k+1):=by rw[←zat h,zaK]
 have e:=congrArg (fun l=>(l.map List.length).sum) this;simp only[zaM,zaG,List.sum_append,List.sum_cons] at e;omega
theorem qIU (L:List (List Int)):(qEX L).length≤qu L:=by
 have:=qCn [] L.flatten
 simp only[qEX,qu,List.length_flatten,zaB] at*;omega
theorem qGt (v:Value) (L:List (List Int)) (w:World) (h:RdII w v L) (hl:qu L≤1073741824) (hn:L.length≤1073741824):
  Calls Tryz.prog 103 #[v] w fun e w'=> ∃r,e= .returned r∧OwI w' w.heap.size r (qEX L)∧Below w.heap.size w w':=by
 have H:=qA h;obtain⟨A,cap,rfl,aj,hm,hA⟩:=h.form;have HA:=qA hA;clear h hA;unfold maxLen at hm;go_enter Tryz.func103,Tryz.ntmps103
 go_wp2;go_loopw [3,11] (fun out i wr=> ∃k:Nat,k≤L.length∧i= .int .i64 k∧OwI wr w.heap.size out (qEX (L.take k))∧Below w.heap.size w wr)
  (fun _ i _=>L.length-(intOf i).toNat)
 case atStart=>exact⟨0,zae _,rfl,qW _ [] qS (by simp) (zaa _),(zab _ _).alloc (zaa _) _⟩
 case round=>
  obtain⟨k,hk,rfl,ab,aa⟩:=hrel;have ak:=aa.size;by_cases ac:k<L.length
  ·have mh:=qLt L k ac;have jg:=qIU (L.take k);obtain⟨b,off,A1,ah,rfl,aM,kb,aC,cJ,d8⟩:=H.out.at ac;have ae:=(aa.cell aM).trans kb;clear kb;have HS:=qA (qLm L k ac);generalize qEX (L.take k)=acc0 at ab jg HS;have HR:=qA d8;clear d8;generalize L[k]=ys at ae aC HR mh HS;have HO:=qA ab;have HB:=qA aa;clear ab aa;unfold maxLen at cJ;obtain⟨wo,rfl⟩: ∃wo:World,wo=wr:=⟨_,rfl⟩;go_wp2;go_loopw [3,17] (fun out j wi=> ∃m:Nat,m≤ys.length∧j= .int .i64 m∧OwI wi w.heap.size out (redL acc0 (ys.take m))∧Below w.heap.size w wi)
    (fun _ j _=>ys.length-(intOf j).toNat)
   case atStart=>exact⟨0,zae _,rfl,HO.out,HB.out⟩
   case round=>
    obtain⟨m,ch,rfl,ab,aa⟩:=hrel;have ir:=aa.size;have du:(redL acc0 (ys.take m)).length≤acc0.length+m:=by have:=qCn acc0 (ys.take m);have:=zaw m ys;omega
    by_cases an:m<ys.length
    ·obtain⟨b',off',rfl,sO,cH⟩:=(HR.out.below aa).at tO;have aB:=cH m an;have gK:=qA (qJQ acc0 ys m an);have HX:=qA (HR.out.2 ys[m] (by simp));clear cH;generalize redL acc0 (ys.take m)=acc at ab du gK;generalize ys[m]=x at aB gK HX;have gh:=qA ab;obtain⟨A1,ey,rfl,aX,yN,_,dx⟩:=ab.form;unfold maxLen at yN;by_cases h0:0<acc.length
     ·obtain⟨g,rfl,fd,dC⟩:=dx h0;obtain⟨b1,oJ,pZ,_,aC⟩:=ab.rd.at h0;obtain⟨rfl,rfl⟩:g=b1∧0=oJ:=by simpa using pZ
      have bV:=aC (acc.length-1) tO;rw[Nat.zero_add] at bV;have jS:=qA (ab.2 acc[acc.length-1] (by simp));have HC:=qA (qLU (x:=x) h0);have HP:=qA (qIj (x:=x) h0);generalize acc[acc.length-1]=last at bV jS HC HP;have nA:decide ((0:Int)<(acc.length:Int))=true:=by simp;omega
      clear aC dx ab pZ;rcases hi:invB last x with _ | _
      ·have PF:=qA (HP.out hi);have db:=qAZ last x;rw[hi] at db;have HI:=qA db;clear hi db;go_wp2_with (first | (go_at_call 111;refine(HI.out _ jS.out).mono ?_;rintro e w' ⟨rfl,rfl⟩) | (at_builtin;refine qN rfl (.tmp 39) (.tmp 41) rfl _ _ _ (OwI.alloc gh.out _) rfl _ _ rfl (qG _ _ _) HX.out (by first | omega | (simp<;>omega)) (by first | omega | (simp<;>omega)) ?_;intro v1 eq o1 g1 p1))
       go_roundw
       case rel=>exact⟨m+1,tO,by go_num,by rw[gK.out,PF.out];exact o1,qQ aa ir gh.out.1 (zaa _) g1⟩
       case measure=>simp[intOf];omega
      ·have PF:=qA (HC.out hi);have db:=qAZ last x;rw[hi] at db;have HI:=qA db;clear hi db;go_wp2_with (go_at_call 111;refine(HI.out _ jS.out).mono ?_;rintro e w' ⟨rfl,rfl⟩)
       go_roundw
       case rel=>exact⟨m+1,tO,by go_num,by rw[gK.out,PF.out];exact qKB gh.out tO,aa⟩
       case measure=>simp[intOf];omega
     ·obtain rfl:acc= []:=zai tO
      clear dx ab;go_wp2_with (at_builtin;refine qN rfl (.tmp 39) (.tmp 41) rfl _ _ _ (OwI.alloc gh.out _) rfl _ _ rfl (qG _ _ _) HX.out (by first | omega | (simp<;>omega)) (by first | omega | (simp<;>omega)) ?_;intro v1 eq o1 g1 p1)
      go_roundw
      case rel=>exact⟨m+1,tO,by go_num,by rw[gK.out];exact o1,qQ aa ir gh.out.1 (zaa _) g1⟩
      case measure=>simp[intOf];omega
    ·obtain rfl:m=ys.length:=tO
     rw[zan] at ab;have gh:=qA ab;have ns:=qA aa;clear ab aa;go_wp2;go_roundw
     case rel=>exact⟨k+1,tO,by go_num,by rw[HS.out];exact gh.out,ns.out⟩
     case measure=>simp[intOf];omega
  ·obtain rfl:k=L.length:=tO
   rw[zan] at ab;go_wp2;go_ret;exact⟨_,rfl,ab,aa⟩
section
variable {α:Type} (c:α→Nat) (m:Int→α→α)
def cntL (ds:List α):Nat:=(ds.map c).sum
variable {c m}
theorem qMR (d:α) (ds:List α):cntL c (d::ds)=c d+cntL c ds:=by simp[cntL]
end
section
variable {α:Type} {E:El α} {t:TypeId} {width:Nat} {w w' w1 w2:World} {v v':Value} {ds:List α} {lo hi:Nat}
theorem qLq (l:List (List Value×α×List Nat)) (hl: ∀e∈l,e.1.length=width):((l.map (·.1)).flatten).length=l.length*width:=by
 induction l with
 | nil=>simp
 | cons e l ih=>
   simp only[zaG,zaR,zao,zaI,ih fun e he=>hl e (by simp[he]),hl e (by simp),Nat.add_mul];omega
theorem OwnL.put {A:Option Addr} {m cap:Nat} (h:OwnL E t width lo hi w (.slice A m cap) ds) (hE:qDL E) {k:Nat} (hk:k<ds.length)
  (aa:Below w.heap.size w w1) (hhi:hi≤w.heap.size):
  ∃g,A=some ⟨g,0,none⟩∧lo≤g∧g<hi∧(∀j,w1.frozen? ⟨g,j,none⟩=false)∧(∃cs:List Value,cs.length=width∧ ∀j (hj:j<cs.length),w1.cell? ⟨g,k*width+j,none⟩=some cs[j])∧
   ∀w2 cs' d' Fe',cs'.length=width→E w1 cs' d' Fe'→Fe'.Nodup→(∀b∈Fe',w.heap.size≤b∧b<w1.heap.size)→
    (∀pre cs post,pre.length=k*width→cs.length=width→w1.ownsRow 0 t width (.slice A m cap) ds.length (pre++cs++post)→w2.ownsRow 0 t width (.slice A m cap) ds.length (pre++cs'++post))→
    w1.grownBy w2 (some g)→OwnL E t width lo w2.heap.size w2 (.slice A m cap) (ds.set k d'):=by
 obtain⟨F,⟨es,h1,h2,h3,rfl⟩,cF,hF⟩:=h;have hl:es.length=ds.length:=by rw[←h1];simp
 rw[hl] at h3;obtain⟨p,x,q,rfl,hp⟩: ∃p x q,es=p++x::q∧p.length=k:=⟨es.take k,es[k],es.drop (k+1),by rw[←zat tO,zaK],by simp;omega⟩;obtain⟨A',cap',hv,_,_,_,hg⟩:=qr h3;obtain⟨g,hA,vW,_⟩:=hg tO;injection hv with e1 e2 e3
 subst e1 e2 e3 hA;obtain⟨cs,d,Fe⟩:=x;have nJ:=hF g (by simp[zau]);have hx:=h2 (cs,d,Fe) (by simp);have aQ:cs.length=width:=hx.1;have h4:=qZ h3 (w':=w1) fun b hb=>aa.block b (by simp[zau] at hb;omega);simp only[zaM,zaG,zaO,zaR,zau,Option.toList_some] at h4 cF hF;have dD:((p.map (·.1)).flatten).length=k*width:=by
  rw[qLq p fun e he=>(h2 e (by simp[he])).1,hp]
 have vP:=(zam.1 cF).2.2 g (by simp);have Ap:=(zam.1 cF).2.1;obtain⟨np,nq,npq⟩:=zam.1 Ap;obtain⟨nF,Ct,nFq⟩:=zam.1 nq;have aH:=h4.1;simp only[zao,dD,aQ] at aH;refine⟨g,rfl,nJ.1,nJ.2,fun j=>h4.frozenAt j,⟨cs,aQ,fun j hj=> ?_⟩,?_⟩
 ·have eP:k*width+j<ds.length*width:=tO;rw[h4.cellAt _ eP,zap tO,dD,Nat.add_sub_cancel_left,zas hj,zal hj]
 ·intro w2 cs' d' Fe' hcs' l5 iY hFe' aG dC;have ak:=aa.size;have dM:=dC.size;have bS: ∀e,e∈p∨e∈q→ ∀b∈e.2.2,lo≤b∧b<hi∧b≠g:=by
   intro e he b hb;have ep:b∈(p.map (·.2.2)).flatten∨b∈(q.map (·.2.2)).flatten:=by
    rcases he with he | he
    ·exact .inl (zav.2 ⟨e.2.2,zaz.2 ⟨e,he,rfl⟩,hb⟩)
    ·exact .inr (zav.2 ⟨e.2.2,zaz.2 ⟨e,he,rfl⟩,hb⟩)
   have hm:b∈(p.map (·.2.2)).flatten++(Fe++(q.map (·.2.2)).flatten):=by
    rcases ep with ep | ep
    ·exact zac.2 (.inl ep)
    ·exact zac.2 (.inr (zac.2 (.inr ep)))
   have:=hF b (zac.2 (.inr hm))
   exact⟨this.1,this.2,fun e'=>vP b hm e'.symm⟩
  have keep: ∀e,e∈p∨e∈q→E w2 e.1 e.2.1 e.2.2:=by
   intro e he;have h0:E w e.1 e.2.1 e.2.2:=by
    rcases he with he | he
    ·exact(h2 e (by simp[he])).2
    ·exact(h2 e (by simp[he])).2
   refine hE _ _ _ _ _ h0 fun b hb=> ?_;have:=bS e he b hb
   rw[dC.block b tO (fun e=>this.2.2 (by injection e)),aa.block b tO]
  refine⟨g::((p.map (·.2.2)).flatten++(Fe'++(q.map (·.2.2)).flatten)),⟨p++(cs',d',Fe')::q,?_,?_,?_,?_⟩,?_,?_⟩
  ·rw[←h1];simp only[zaM,zaG];rw[List.set_append_right _ _ (by simp[hp]),zaY,hp,za6,List.set_cons_zero]
  ·intro e he;simp only[zac,zaF] at he;rcases he with he | rfl | he
   ·exact⟨(h2 e (by simp[he])).1,keep e (.inl he)⟩
   ·exact⟨hcs',hE _ _ _ _ _ l5 fun b hb=>dC.block b (hFe' b hb).2 fun e=>by injection e with e;have:=hFe' b hb;omega⟩
   ·exact⟨(h2 e (by simp[he])).1,keep e (.inr he)⟩
  ·have:=aG (p.map (·.1)).flatten cs (q.map (·.1)).flatten dD aQ (by simpa using h4)
   simp only[zaM,zaG,zaO,zaR,zao,zaI,zaS] at this hl⊢;rw[hl];exact this
  ·simp[zau]
  ·have CR: ∀b∈(p.map (·.2.2)).flatten,b<hi∧b≠g:=fun b hb=>by
    obtain⟨l,fC,aM⟩:=zav.1 hb;obtain⟨e,he,rfl⟩:=zaz.1 fC;exact(bS e (.inl he) b aM).2
   have DN: ∀b∈(q.map (·.2.2)).flatten,b<hi∧b≠g:=fun b hb=>by
    obtain⟨l,fC,aM⟩:=zav.1 hb;obtain⟨e,he,rfl⟩:=zaz.1 fC;exact(bS e (.inr he) b aM).2
   rw[List.nodup_cons];refine⟨fun hm=> ?_,zam.2 ⟨np,zam.2 ⟨iY,Ct,fun a ha b hb hab=> ?_⟩,fun a ha b hb hab=> ?_⟩⟩
   ·rcases zac.1 hm with hm | hm
    ·exact(CR g hm).2 rfl
    ·rcases zac.1 hm with hm | hm
     ·have:=hFe' g hm;omega
     ·exact(DN g hm).2 rfl
   ·have:=hFe' a ha;have:=DN b hb;omega
   ·rcases zac.1 hb with hb | hb
    ·have:=hFe' b hb;have:=CR a ha;omega
    ·exact npq a ha b (zac.2 (.inr hb)) hab
  ·intro b hb;rcases zaF.1 hb with rfl | hb
   ·omega
   ·rcases zac.1 hb with hb | hb
    ·obtain⟨l,fC,aM⟩:=zav.1 hb;obtain⟨e,he,rfl⟩:=zaz.1 fC;have:=bS e (.inl he) b aM
     omega
    ·rcases zac.1 hb with hb | hb
     ·have:=hFe' b hb;omega
     ·obtain⟨l,fC,aM⟩:=zav.1 hb;obtain⟨e,he,rfl⟩:=zaz.1 fC;have:=bS e (.inr he) b aM
      omega
theorem qDC (w:World) (g j:Nat) (u:Value):w.grownBy (w.setCell ⟨g,j,none⟩ u) (some g):=
 ⟨rfl,rfl,rfl,by simp,fun b _ hb=>Below.heap_setCell w _ u b (fun e=>hb (by rw[e]))⟩
end
abbrev OIIs (lo hi:Nat) (v:Value) (L:List (List Int)) (w:World):Prop:=OwII lo hi v L w
section
variable {w w':World} {v:Value} {ds:List (List Int)} {lo hi:Nat}
end
def lt (x:Int):List UInt8:=
 if x=1 then [97] else if x=2 then [98] else if x=3 then [99] else if x= -1 then [65] else if x= -2 then [66] else if x= -3 then [67] else []
def str (l:List UInt8):Value:= .string ⟨l.toArray⟩
theorem qOC (t:List UInt8) (c:UInt8):Value.string (({data:=t.toArray}:ByteArray)++ {data:= #[c]})= .string ⟨(t++ [c]).toArray⟩:=by
 rw[ByteArray.mk_append_mk]
theorem qDY (x:Int):(x=1∧lt x= [97])∨(x=2∧lt x= [98])∨(x=3∧lt x= [99])∨(x= -1∧lt x= [65])∨(x= -2∧lt x= [66])∨(x= -3∧lt x= [67])∨((x=0∨x< -3∨3<x)∧lt x= []):=by
 unfold lt;repeat' split
 all_goals simp_all
 omega
theorem qHC (x:Int) (w:World) (hx:I64 x):
  Calls Tryz.prog 59 #[.int .i64 x] w fun e w'=>e= .returned (str (lt x))∧w=w':=by
 have h1:=hx.1;have h2:=hx.2;unfold str;rcases qDY x with ⟨rfl,h⟩ | ⟨rfl,h⟩ | ⟨rfl,h⟩ | ⟨rfl,h⟩ | ⟨rfl,h⟩ | ⟨rfl,h⟩ | ⟨hc,h⟩
 all_goals rw[h];clear h
 iterate 6
  ·go_enter Tryz.func59,Tryz.ntmps59
   go_wp2;go_ret;exact⟨by rfl,rfl⟩
 rcases e1:inB x 1 3 with _ | _
 ·rcases e2:inB x (-3) (-1) with _ | _
  ·clear hc;go_enter Tryz.func59,Tryz.ntmps59
   go_wp2_with (go_at_call 56;refine(qX _ _ _ _).mono ?_;rintro e w' ⟨rfl,rfl⟩)
   go_ret;exact⟨rfl,rfl⟩
  ·have:=qP.1 e2;omega
 ·have:=qP.1 e1;omega
def qAx (base:Nat) (w:World) (v:Value) (L:List (List Int)):Prop:=
 ∃vs:List Value,vs.length=L.length∧w.ownsRow base 24 1 v L.length vs∧ ∀i (h:i<L.length) (h':i<vs.length),RdI w vs[i] L[i]
theorem qAx.rd {base:Nat} {w:World} {v:Value} {L:List (List Int)} (h:qAx base w v L):RdII w v L:=by
 obtain⟨vs,h1,h2,h3⟩:=h;exact⟨vs,h1,RdV.of_own h2,h3⟩
theorem qAx.form {base:Nat} {w:World} {v:Value} {L:List (List Int)} (h:qAx base w v L): ∃A cap,v= .slice A L.length cap∧L.length≤cap∧cap≤maxLen:=by
 obtain⟨vs,h1,h2,h3⟩:=h;obtain⟨A,cap,hv,hc,hm,_⟩:=qr h2;exact⟨A,cap,hv,hc,hm⟩
theorem qAx.lt {base:Nat} {w:World} {v:Value} {L:List (List Int)} (h:qAx base w v L) (b:Nat) (hb:v.ownBlock=some b):base≤b∧b<w.heap.size:=by
 obtain⟨vs,h1,h2,h3⟩:=h;exact h2.lt b hb
theorem qAx.below {base:Nat} {w w':World} {v:Value} {L:List (List Int)} (h:qAx base w v L) (hb:Below w.heap.size w w'):qAx base w' v L:=by
 obtain⟨vs,h1,h2,h3⟩:=h;exact⟨vs,h1,ql h2 hb,fun i hi db=>(h3 i hi db).below hb⟩
theorem qAx.alloc {base:Nat} {w:World} {v:Value} {L:List (List Int)} (h:qAx base w v L) (o:Obj):qAx base (w.alloc o) v L:=h.below ((zab _ _).alloc (zaa _) _)
theorem qAx.nil (w:World) {base:Nat} (hb:base≤w.heap.size):qAx base (w.alloc (.cells #[] 24)) (.slice (some ⟨w.heap.size,0,none⟩) 0 0) []:=
 ⟨[],rfl,qDf w [] (by simp) hb,fun i h=>absurd h (by simp)⟩
theorem qAx.lit (w:World) (vs:List Value) (L:List (List Int)) (hl:vs.length=L.length) (h: ∀i (h:i<L.length) (h':i<vs.length),RdI w vs[i] L[i]) (hm:L.length≤1099511627776) {base:Nat} (hb:base≤w.heap.size):
  qAx base (w.alloc (.cells vs.toArray 24)) (.slice (some ⟨w.heap.size,0,none⟩) L.length L.length) L:=
 ⟨vs,hl,by have:=qDf w vs tO hb;rw[hl] at this;exact this,fun i h1 h2=>(h i h1 h2).alloc _⟩
theorem qJe {w:World} {ops:Array Oper} {rest:List Oper} {o:Oper} {a:Act} {Q:Exit→Act→World→Prop} (bO:o.guard=none) (s x:Operand)
  (ho:o.op= .call {callee:= .builtin .append,args:= #[s,x],argTypes:= #[29,29]})
  (base:Nat) (v:Value) (L:List (List Int)) (ab:qAx base w v L) (hs:a.eval s=v) (b:Nat) (z:Value) (d:List Int) (hx:a.eval x= .slice (some ⟨b,0,none⟩) 1 1)
  (hd:RdI w z d) (hc:w.cell? ⟨b,0,none⟩=some z) (hl:L.length≤1073741824) (aq:base≤w.heap.size)
  (h: ∀v' w',qAx base w' v' (L++ [d])→w.grownBy w' v.ownBlock→(∀u xs,RdI w u xs→RdI w' u xs)→wpList Tryz.prog ops Q rest (a.put o.dst v') w'):
  wpList Tryz.prog ops Q (o::rest) a w:=by
 obtain⟨vs,h1,h2,h3⟩:=ab;have hz:z.oneCell'=true:=by obtain⟨A,cap,hv,_⟩:=hd.1.cell;rw[hv];rfl
 refine qCc bO s x ho base v L.length vs h2 hs b z hx hc hz tO aq fun v' w' o2 g2 _=> ?_;have keep: ∀u xs,RdI w u xs→RdI w' u xs:=fun u xs hu=>⟨hu.1.grown_ty h2 (by decide) g2,hu.2⟩;refine h v' w' ⟨vs++ [z],by simp[h1],by simpa using o2,fun i hi db=> ?_⟩ g2 keep;by_cases hj:i<vs.length
 ·rw[zaW hj,zaW tO];exact keep _ _ (h3 i tO hj)
 ·have bH:i=L.length:=by simp at hi;omega
  subst bH;rw[zaU tO,zaU tO];simp only[h1,za6,za0];exact keep _ _ hd
def keyL (x:Int):Int:=if x= -9223372036854775808 then 100000000000000000000 else if x<0 then-2*x+1 else 2*x
theorem qKh {a b:Int} (ha:I64 a) (hb:I64 b):cmpL a b=cmpI (keyL a) (keyL b):=by
 unfold I64 at ha hb;unfold cmpL keyL cmpI;repeat' split
 all_goals omega
theorem qKb {a b:Int} (ha:I64 a) (hb:I64 b) (h:keyL a=keyL b):a=b:=by
 unfold I64 at ha hb;unfold keyL at h;repeat' split at h
 all_goals omega
def cmpZ:List Int→List Int→Int
 | x::xs,y::ys=>if cmpL x y≠0 then cmpL x y else cmpZ xs ys
 | _,_=>0
def cmpW (a b:List Int):Int:=if a.length=b.length then cmpZ a b else cmpI a.length b.length
theorem qJK (a b:List Int) (k:Nat) (h:k<a.length) (h':k<b.length):cmpZ (a.drop k) (b.drop k)=if cmpL a[k] b[k]≠0 then cmpL a[k] b[k] else cmpZ (a.drop (k+1)) (b.drop (k+1)):=by
 rw[zat h,zat h'];rfl
theorem qLQ (a b:List Int):cmpZ (a.drop a.length) b=0:=by simp[cmpZ]
def ltW:List Int→List Int→Prop
 | x::xs,y::ys=>keyL x<keyL y∨(x=y∧ltW xs ys)
 | _,_=>False
theorem qJi {a b:List Int} (ha:I64s a) (hb:I64s b):cmpZ a b<0↔ltW a b:=by
 induction a generalizing b with
 | nil=>simp[cmpZ,ltW]
 | cons x a ih=>
   cases b with
   | nil=>simp[cmpZ,ltW]
   | cons y b=>
     have hx:=ha x (by simp);have hy:=hb y (by simp);have:=ih (b:=b) (fun z hz=>ha z (by simp[hz])) (fun z hz=>hb z (by simp[hz]))
     unfold cmpZ ltW;rw[qKh hx hy];unfold cmpI;by_cases h1:keyL x<keyL y
     ·simp[h1]
     ·by_cases h2:keyL y<keyL x
      ·rw[if_neg h1,if_pos h2];have:x≠y:=by rintro rfl;omega
       simp[h1,this]
      ·have e:x=y:=qKb hx hy tO;subst e;simp[this]
theorem qAb (a b:List Int) (i:Nat) (h:i<a.length):(a++b).getD i 0=a.getD i 0:=by
 simp only[zah];rw[zas h]
theorem qBA (a b:List Int) (i:Nat) (h:a.length≤i):(a++b).getD i 0=b.getD (i-a.length) 0:=by
 simp only[zah];rw[zap h]
theorem qHH (a:List Int): ¬ltW a a:=by
 induction a with
 | nil=>simp[ltW]
 | cons x a ih=>unfold ltW;intro h;rcases h with h | ⟨_,h⟩;omega;exact ih h
theorem qMf {a b c:List Int} (h1:ltW a b) (h2:ltW b c):ltW a c:=by
 induction a generalizing b c with
 | nil=>cases b<;>simp[ltW] at h1
 | cons x a ih=>
   cases b with
   | nil=>simp[ltW] at h1
   | cons y b=>
     cases c with
     | nil=>simp[ltW] at h2
     | cons z c=>
       unfold ltW at h1 h2⊢;rcases h1 with h1 | ⟨rfl,h1⟩<;>rcases h2 with h2 | ⟨rfl,h2⟩
       ·left;omega
       ·left;exact h1
       ·left;exact h2
       ·right;exact⟨rfl,ih (b:=b) (c:=c) h1 h2⟩
theorem qQI {a b:List Int} (ha:I64s a) (hb:I64s b) (hl:a.length=b.length):ltW a b∨a=b∨ltW b a:=by
 induction a generalizing b with
 | nil=>cases b with
   | nil=>simp
   | cons y b=>simp at hl
 | cons x a ih=>
   cases b with
   | nil=>simp at hl
   | cons y b=>
     have hx:=ha x (by simp);have hy:=hb y (by simp);have:=ih (b:=b) (fun z hz=>ha z (by simp[hz])) (fun z hz=>hb z (by simp[hz])) (by simpa using hl)
     unfold ltW;rcases Int.lt_trichotomy (keyL x) (keyL y) with h | h | h
     ·exact .inl (.inl h)
     ·have e:=qKb hx hy h;subst e;rcases this with h | rfl | h
      ·exact .inl (.inr ⟨rfl,h⟩)
      ·exact .inr (.inl rfl)
      ·exact .inr (.inr (.inr ⟨rfl,h⟩))
     ·exact .inr (.inr (.inl h))
def rotF (w:List Int) (k:Nat):List Int:=w.drop k++w.take k
theorem qAK (w:List Int) (k:Nat):(rotF w k).length=w.length:=by simp[rotF];omega
theorem qKr {w:List Int} {k:Nat} {x:Int} (h:x∈rotF w k):x∈w:=by
 rcases zac.1 h with h | h
 ·exact za4 h
 ·exact za5 h
theorem qCj {w:List Int} (h:I64s w) (k:Nat):I64s (rotF w k):=fun x hx=>h x (qKr hx)
theorem qCR (w:List Int):rotF w 0=w:=by simp[rotF]
theorem qBb (w:List Int) (k i:Nat) (hk:k≤w.length) (hi:i<w.length):(rotF w k).getD i 0=w.getD ((k+i)%w.length) 0:=by
 unfold rotF;by_cases h:i<w.length-k
 ·rw[qAb _ _ _ (by simpa using h),zaJ tO];simp[zah,zaP]
 ·rw[qBA _ _ _ (by simp;omega),za9,show(k+i)%w.length=i-(w.length-k) by rw[Nat.mod_eq_sub_mod tO,zaJ tO];omega];simp only[zah,zaQ];rw[if_pos tO]
theorem qEp {a b:List Int} (hl:a.length=b.length) (h: ∀i,i<a.length→a.getD i 0=b.getD i 0):a=b:=by
 refine List.ext_getElem hl fun i h1 h2=> ?_;have:=h i h1
 simpa[zah,h1,h2] using this
theorem qGK (w:List Int) (j k:Nat) (hj:j≤w.length) (hk:k≤w.length) (hn:0<w.length):rotF (rotF w j) k=rotF w ((j+k)%w.length):=by
 refine qEp (by simp[qAK]) fun i hi=> ?_;have db:i<w.length:=by simpa[qAK] using hi
 rw[qBb _ _ _ (by rw[qAK];exact hk) (by rw[qAK];exact db),qAK,qBb _ _ _ hj (zaV _ hn),qBb _ _ _ (Nat.le_of_lt (zaV _ hn)) db];congr 1
 rw[Nat.add_mod_mod,zaZ];congr 1
 omega
def lrS (w:List Int) (b:List Int×Nat) (k:Nat):List Int×Nat:=if cmpW (rotF w k) b.1<0 then(rotF w k,k) else b
def lrAt (w:List Int):Nat→List Int×Nat
 | 0=>(w,0)
 | 1=>(w,0)
 | k+2=>lrS w (lrAt w (k+1)) (k+1)
def lrF (w:List Int):List Int×Nat:=lrAt w w.length
theorem qDV (w:List Int) (k:Nat) (h:1≤k):lrAt w (k+1)=lrS w (lrAt w k) k:=by
 obtain⟨j,rfl⟩: ∃j,k=j+1:=⟨k-1,tO⟩;rfl
theorem qIG (w:List Int) (k:Nat):(lrAt w k).1=rotF w (lrAt w k).2∧((lrAt w k).2=0∨(lrAt w k).2<k):=by
 induction k with
 | zero=>exact⟨by simp[lrAt,qCR], .inl rfl⟩
 | succ k ih=>
   match k,ih with
   | 0,_=>exact⟨by simp[lrAt,qCR], .inl rfl⟩
   | j+1,ih=>
     rw[qDV _ _ tO];unfold lrS;split
     ·exact⟨rfl, .inr (by simp)⟩
     ·exact⟨ih.1,by have:=ih.2;omega⟩
theorem qDQ (w:List Int):(lrF w).1=rotF w (lrF w).2∧(lrF w).2≤w.length:=by
 have:=qIG w w.length
 exact⟨this.1,by unfold lrF;omega⟩
theorem qFs (w:List Int) (k:Nat):(lrAt w k).1.length=w.length:=by rw[(qIG w k).1,qAK]
theorem qHe {w:List Int} (h:I64s w) (k:Nat):I64s (lrAt w k).1:=by rw[(qIG w k).1];exact qCj h _
theorem qLb (w:List Int) (k j:Nat):cmpW (rotF w k) (lrAt w j).1=cmpZ (rotF w k) (lrAt w j).1:=by
 unfold cmpW;rw[if_pos (by rw[qAK,qFs])]
theorem qFA {w:List Int} (h:I64s w) (k j:Nat) (hj:j<k): ¬ltW (rotF w j) (lrAt w k).1:=by
 induction k with
 | zero=>omega
 | succ k ih=>
   match k,ih with
   | 0,_=>
     obtain rfl:j=0:=tO
     rw[qCR];exact qHH _
   | m+1,ih=>
     rw[qDV _ _ tO];unfold lrS;split
     ·rename_i ac
      rw[qLb,qJi (qCj h _) (qHe h _)] at ac;rcases zad (zag hj) with hj | rfl
      ·exact fun hh=>ih hj (qMf hh ac)
      ·exact qHH _
     ·rename_i hn
      rw[qLb,qJi (qCj h _) (qHe h _)] at hn;rcases zad (zag hj) with hj | rfl
      ·exact ih hj
      ·exact hn
theorem qOB {w:List Int} (h:I64s w) (hn: ∀j,j<w.length→ ¬ltW (rotF w j) w) (k:Nat) (hk:k≤w.length):lrAt w k=(w,0):=by
 induction k with
 | zero=>rfl
 | succ k ih=>
   match k,ih with
   | 0,_=>rfl
   | m+1,ih=>
     rw[qDV _ _ tO,ih tO];unfold lrS;rw[if_neg];unfold cmpW;rw[if_pos (by rw[qAK]),qJi (qCj h _) h];exact hn _ tO
theorem qPy {w:List Int} (h:I64s w):(lrF (lrF w).1).1=(lrF w).1:=by
 rcases zaD w.length with h0 | h0
 ·obtain rfl:=zai h0;rfl
 have hl:=qFs w w.length;have hr:=qDQ w;unfold lrF at hl hr⊢;rw[hl,qOB (qHe h _) (fun j hj=> ?_) _ (by rw[hl];exact zaa _)];rw[hl] at hj;rw[hr.1,qGK _ _ _ hr.2 tO h0,←hr.1];exact qFA h _ _ (zaV _ h0)
def redP (xs:List Int):Prop:= ∀i,i+1<xs.length→invB (xs.getD i 0) (xs.getD (i+1) 0)=false
theorem qEW {xs:List Int} (h:redP xs) (k:Nat):redP (xs.take k):=by
 intro i hi;simp only[List.length_take] at hi;have e1: ∀j,j<k→(xs.take k).getD j 0=xs.getD j 0:=fun j hj=>by simp only[zah,zaQ];rw[if_pos hj]
 rw[e1 i tO,e1 (i+1) tO];exact h i tO
theorem qJh {xs:List Int} (h:redP xs) (k:Nat):redP (xs.drop k):=by
 intro i hi;simp only[za9] at hi;have e1: ∀j,(xs.drop k).getD j 0=xs.getD (k+j) 0:=fun j=>by simp[zah,zaP]
 rw[e1,e1,←Nat.add_assoc];exact h (k+i) tO
theorem qIa {xs:List Int} {x:Int} (h:redP xs) (hx:0<xs.length→invB (xs.getLastD 0) x=false):redP (xs++ [x]):=by
 intro i hi;simp only[zao,List.length_singleton] at hi;rcases zad (zag (show i+1<xs.length+1 by omega)) with h1 | h1
 ·rw[qAb _ _ _ tO,qAb _ _ _ h1];exact h i h1
 ·rw[qAb _ _ _ tO,qBA _ _ _ tO,h1,za6];have:=hx tO
  rw[qFw tO] at this;have e:i=xs.length-1:=tO;subst e;simpa[zah,show xs.length-1<xs.length by omega] using this
theorem qLf {acc:List Int} {x:Int} (h:redP acc):redP (red1 acc x):=by
 unfold red1;split
 ·rw[za3];exact qEW h _
 ·rename_i hn
  refine qIa h fun h0=> ?_;cases hb:invB (acc.getLastD 0) x with
  | false=>rfl
  | true=>exact absurd ⟨h0,hb⟩ hn
theorem qBQ {acc xs:List Int} (h:redP acc):redP (redL acc xs):=by
 unfold redL;induction xs generalizing acc with
 | nil=>exact h
 | cons x xs ih=>exact ih (qLf h)
theorem qBm:redP []:=fun i hi=>by simp at hi
theorem qNf {acc xs:List Int} (h:redP (acc++xs)):redL acc xs=acc++xs:=by
 unfold redL;induction xs generalizing acc with
 | nil=>simp
 | cons x xs ih=>
   have e:red1 acc x=acc++ [x]:=by
    unfold red1;rw[if_neg];rintro⟨h0,hb⟩
    have:=h (acc.length-1) (by simp;omega)
    rw[qAb _ _ _ tO,qBA _ _ _ tO,show acc.length-1+1-acc.length=0 by omega] at this;rw[qFw h0] at hb;have e2:acc.getD (acc.length-1) 0=acc[acc.length-1]:=by simp[zah,show acc.length-1<acc.length by omega]
    rw[e2] at this;simp only[List.getD_cons_zero] at this;rw[this] at hb;cases hb
   rw[zaX,e,ih (by simpa using h)];simp
def qAS (c:List Int):Nat→Nat→Nat
 | 0,f=>f
 | n+1,f=>if 2*f+2≤c.length∧invB (c.getD f 0) (c.getD (c.length-1-f) 0)=true then qAS c n (f+1) else f
def qk (c:List Int):Nat:=qAS c c.length 0
theorem qEy (c:List Int) (n f:Nat):qAS c (n+1) f=if 2*f+2≤c.length∧invB (c.getD f 0) (c.getD (c.length-1-f) 0)=true then qAS c n (f+1) else f:=rfl
theorem qNv (c:List Int) (n f:Nat) (h:2*f≤c.length):2*qAS c n f≤c.length:=by
 induction n generalizing f with
 | zero=>exact h
 | succ n ih=>
   unfold qAS;split
   ·exact ih _ tO
   ·exact h
theorem qNo (c:List Int) (n f:Nat) (hn:c.length≤2*f+2*n): ¬(2*qAS c n f+2≤c.length∧invB (c.getD (qAS c n f) 0) (c.getD (c.length-1-qAS c n f) 0)=true):=by
 induction n generalizing f with
 | zero=>unfold qAS;rintro⟨h,_⟩;omega
 | succ n ih=>
   unfold qAS;split
   ·exact ih _ tO
   ·assumption
theorem qHd {c:List Int} {f:Nat} (h:qAS c (c.length-f) f=qk c) (hc:2*f+2≤c.length) (hi:invB (c.getD f 0) (c.getD (c.length-1-f) 0)=true):qAS c (c.length-(f+1)) (f+1)=qk c:=by
 rw[show c.length-f=(c.length-(f+1))+1 by omega,qEy,if_pos ⟨hc,hi⟩] at h;exact h
theorem qBo {c:List Int} {f:Nat} (h:qAS c (c.length-f) f=qk c) (hn: ¬(2*f+2≤c.length∧invB (c.getD f 0) (c.getD (c.length-1-f) 0)=true)):qk c=f:=by
 rcases zaD (c.length-f) with h0 | h0
 ·rw[h0] at h;exact h.symm
 ·rw[show c.length-f=(c.length-f-1)+1 by omega,qEy,if_neg hn] at h;exact h.symm
def qBt (c:List Int):List Int:=(c.take (c.length-qk c)).drop (qk c)
def qAL (w:List Int):List Int:=qBt (redL [] w)
def qPC (w:List Int):List Int:=(redL [] w).take (qk (redL [] w))
def cycF (w:List Int):List Int:=(lrF (qAL w)).1
theorem qEO (c:List Int):2*qk c≤c.length:=qNv c _ 0 tO
theorem qEo (c:List Int):(qBt c).length=c.length-2*qk c:=by
 have:=qEO c
 simp[qBt];omega
theorem qFF (c:List Int) (i:Nat) (h:i<c.length-2*qk c):(qBt c).getD i 0=c.getD (qk c+i) 0:=by
 have:=qEO c
 unfold qBt;simp only[zah,zaP,zaQ];rw[if_pos tO]
def cycP (r:List Int):Prop:=redP r∧(2≤r.length→invB (r.getD 0 0) (r.getD (r.length-1) 0)=false)
theorem qIe {c:List Int} (h:redP c):cycP (qBt c):=by
 refine⟨qJh (qEW h _) _,fun h2=> ?_⟩;have hl:=qEo c;have hs:=qEO c;rw[qFF _ _ tO,qFF _ _ tO,hl,zaC];have:=qNo c c.length 0 tO
 cases hb:invB (c.getD (qk c) 0) (c.getD (qk c+(c.length-2*qk c-1)) 0) with
 | false=>rfl
 | true=>
   refine absurd ⟨?_,?_⟩ this
   ·show 2*qk c+2≤c.length;omega
   ·show invB (c.getD (qk c) 0) (c.getD (c.length-1-qk c) 0)=true
    rw[←hb];congr 2;omega
theorem qGg {r:List Int} (h:cycP r):qBt r=r:=by
 have e:qk r=0:=by
  refine qBo (f:=0) (by simp[qk]) ?_;rintro⟨h2,hb⟩
  rw[Nat.sub_zero] at hb;rw[h.2 tO] at hb;cases hb
 unfold qBt;rw[e];simp
theorem qIv {a b:Int} (ha:I64 a) (hb:I64 b):invB a b=invB b a:=by
 unfold I64 at ha hb;unfold invB;rw[zax];simp
 omega
theorem qFr {xs:List Int} (h:I64s xs) (i:Nat):I64 (xs.getD i 0):=by
 by_cases hi:i<xs.length
 ·have:xs.getD i 0=xs[i]:=by simp[zah,hi]
  rw[this];exact h _ (by simp)
 ·have:xs.getD i 0=0:=by simp[zah,Nat.not_lt.1 hi]
  rw[this];unfold I64;omega
theorem qJo {r:List Int} (h:cycP r) (hx:I64s r) (k:Nat) (hk:k≤r.length):cycP (rotF r k):=by
 have pair: ∀i,2≤r.length→i<r.length→invB (r.getD (i%r.length) 0) (r.getD ((i+1)%r.length) 0)=false:=by
  intro i h2 hi;rw[zaJ hi];rcases zad (show i+1≤r.length by omega) with h1 | h1
  ·rw[zaJ h1];exact h.1 i h1
  ·rw[h1,Nat.mod_self,qIv (qFr hx _) (qFr hx _)];have:=h.2 h2
   rw[show i=r.length-1 by omega];exact this
 refine⟨fun i hi=> ?_,fun h2=> ?_⟩
 ·rw[qAK] at hi;rw[qBb _ _ _ hk tO,qBb _ _ _ hk hi];have:=pair ((k+i)%r.length) tO (zaV _ tO)
  rw[Nat.mod_mod,zaZ] at this;exact this
 ·rw[qAK] at h2⊢;rw[qBb _ _ _ hk tO,qBb _ _ _ hk tO];have:=pair ((k+(r.length-1))%r.length) h2 (zaV _ tO)
  rw[Nat.mod_mod,zaZ,show k+(r.length-1)+1=k+r.length by omega,Nat.add_mod_right] at this;rw[qIv (qFr hx _) (qFr hx _)];exact this
theorem qIq {w:List Int} {x:Int} (h:x∈qAL w):x∈redL [] w:=za5 (za4 h)
theorem qIC {acc xs:List Int} {x:Int} (h:x∈redL acc xs):x∈acc∨x∈xs:=by
 unfold redL at h;induction xs generalizing acc with
 | nil=>exact .inl h
 | cons y xs ih=>
   rcases ih h with h | h
   ·unfold red1 at h;split at h
    ·exact .inl (zaL _ h)
    ·rcases zac.1 h with h | h
     ·exact .inl h
     ·right;simp at h;simp[h]
   ·right;simp[h]
theorem qFu {w:List Int} {x:Int} (h:x∈cycF w):x∈w:=by
 unfold cycF at h;rw[(qDQ _).1] at h;rcases qIC (qIq (qKr h)) with h | h
 ·cases h
 ·exact h
theorem qJI (w:List Int):(qAL w).length≤w.length:=by
 have h1:=qEo (redL [] w);have h2:=qCn [] w;simp only[zaB] at h2;unfold qAL;omega
theorem qGp (w:List Int):(cycF w).length=(qAL w).length:=by
 unfold cycF;rw[(qDQ _).1,qAK]
theorem qFp (w:List Int):(cycF w).length≤w.length:=by rw[qGp];exact qJI w
theorem qIQ {w:List Int} (h:I64s w):I64s (qAL w):=fun x hx=>qOi qS h x (qIq hx)
theorem qKp {w:List Int} (h:I64s w):cycP (cycF w):=by
 unfold cycF;rw[(qDQ _).1];exact qJo (qIe (qBQ qBm)) (qIQ h) _ (qDQ _).2
theorem qIw {w:List Int} (h:I64s w):cycF (cycF w)=cycF w:=by
 have hc:=qKp h;have e1:redL [] (cycF w)=cycF w:=by have:=qNf (acc:= []) (xs:=cycF w) (by simpa using hc.1);simpa using this
 have e2:qAL (cycF w)=cycF w:=by unfold qAL;rw[e1];exact qGg hc
 have e3:cycF (cycF w)=(lrF (qAL (cycF w))).1:=rfl;rw[e3,e2];unfold cycF;exact qPy (qIQ h)
theorem qIH {r:Int} {xs:List Int} (h:redP xs) (hx: ∀x∈xs,letB r x=true) (i:Nat) (hi:i<xs.length):okAt r xs i=true:=by
 unfold okAt;have e:xs.getD i 0=xs[i]:=by simp[zah,hi]
 rw[e,hx _ (by simp),←e];by_cases h0:0<i
 ·have:=h (i-1) tO
  rw[show i-1+1=i by omega] at this;rw[this];simp
 ·simp[h0]
theorem qGh {r:Int} {xs:List Int} (h:qY r xs=true) {x:Int} (hx:x∈xs):letB r x=true:=by
 obtain⟨i,hi,rfl⟩:=zaN hx;have:=qKk h i hi
 unfold okAt at this;have e:xs.getD i 0=xs[i]:=by simp[zah,hi]
 rw[e] at this;simp only[zaj] at this;exact this.1
theorem qNl {r:Int} {w:List Int} (hr:inB r 1 3=true) (hx: ∀x∈w,letB r x=true) (hI:I64s w) (hl:(cycF w).length≤24):qY r (cycF w)=true:=
 qCV hr hl fun i hi=>qIH (qKp hI).1 (fun x iU=>hx x (qFu iU)) i hi
def gL (w:List Int):Prop:= ∀x∈w,x≠0∧ -3≤x∧x≤3
theorem qBE {a b:Int} (h:a≠0∧ -3≤a∧a≤3):invB a b=decide (b= -a):=by
 unfold invB;rw[zax];simp
 omega
theorem qJu {acc:List Int} {x:Int} (h:gL acc) (hx:x≠0∧ -3≤x∧x≤3):gL (red1 acc x):=by
 unfold red1;split
 ·exact fun y hy=>h y (zaL _ hy)
 ·intro y hy;rcases zac.1 hy with hy | hy
  ·exact h y hy
  ·rw[za7] at hy;subst hy;exact hx
theorem qGB {acc w:List Int} (h:gL acc) (hw:gL w):gL (redL acc w):=by
 unfold redL;induction w generalizing acc with
 | nil=>exact h
 | cons x w ih=>exact ih (qJu h (hw x (by simp))) fun y hy=>hw y (by simp[hy])
theorem qBB (acc:List Int):acc= []∨ ∃p l,acc=p++ [l]:=by
 rcases zaD acc.length with h | h
 ·exact .inl (zai h)
 ·exact .inr ⟨acc.dropLast,acc.getLast (by intro e;rw[e] at h;simp at h),(List.dropLast_concat_getLast _).symm⟩
theorem qBL (p:List Int) (l x:Int):red1 (p++ [l]) x=if invB l x=true then p else p++ [l]++ [x]:=by
 unfold red1;simp
theorem qEQ {acc:List Int} {x:Int} (h:redP acc) (hg:gL acc) (hx:x≠0∧ -3≤x∧x≤3):red1 (red1 acc x) (-x)=acc:=by
 rcases qBB acc with rfl | ⟨p,l,rfl⟩
 ·rw[qCo];have:=qBL [] x (-x)
  simp only[List.nil_append] at this;rw[this,if_pos (by rw[qBE hx];simp)]
 ·have hl:=hg l (by simp);rw[qBL];by_cases e:x= -l
  ·rw[if_pos (by rw[qBE hl];simp[e])];rcases qBB p with rfl | ⟨q,m,rfl⟩
   ·rw[qCo,e];simp
   ·rw[qBL];have hm:=hg m (by simp);have ai: ¬invB m (-x)=true:=by
     intro hb;rw[qBE hm,decide_eq_true_eq] at hb;have hr:=h q.length (by simp);simp only[zaS,List.singleton_append,zah] at hr;rw[zap (zaa _),zap tO] at hr;simp at hr
     rw[qBE hm] at hr;have:=of_decide_eq_false hr
     omega
    rw[if_neg ai,e];simp
  ·rw[if_neg (by rw[qBE hl];simp[e]),qBL,if_pos (by rw[qBE hx];simp)]
theorem qAA (acc a b:List Int):redL acc (a++b)=redL (redL acc a) b:=by unfold redL;rw[zar]
theorem qAs (acc:List Int) (x:Int):redL acc [x]=red1 acc x:=rfl
theorem qLW {w:List Int} (h:gL w):invL w=(w.map fun x=> -x).reverse:=by
 unfold invL negL;congr 1
 refine List.map_congr_left fun x hx=> ?_;have:=h x hx
 exact IntWalk.wrap64_in (-x) ⟨tO,tO⟩
theorem qMt {x:Int} {w:List Int} (hx:x≠0∧ -3≤x∧x≤3):invL (x::w)=invL w++ [-x]:=by
 unfold invL negL;have:wrap64 (-x)= -x:=IntWalk.wrap64_in (-x) ⟨tO,tO⟩
 simp[this]
theorem qQM {w:List Int} (h:gL w):gL (invL w):=by
 rw[qLW h];intro y hy;simp only[List.mem_reverse,zaz] at hy;obtain⟨x,hx,rfl⟩:=hy;have:=h x hx
 omega
theorem qGs {w:List Int}: ∀ {acc:List Int},redP acc→gL acc→gL w→redL acc (w++invL w)=acc:=by
 induction w with
 | nil=>intro acc _ _ _;rfl
 | cons x w ih=>
   intro acc h1 h2 h3;have hx:=h3 x (by simp);rw[qMt hx,←zaS,qAA,qAs];show red1 (redL (red1 acc x) (w++invL w)) (-x)=acc
   rw[ih (qLf h1) (qJu h2 hx) fun y hy=>h3 y (by simp[hy])];exact qEQ h1 h2 hx
theorem qNR {acc:List Int} (h1:redP acc) (h2:gL acc): ∀ {w:List Int},gL w→redL acc (redL [] w)=redL acc w:=by
 have key: ∀(n:Nat) (w:List Int),w.length=n→gL w→redL acc (redL [] w)=redL acc w:=by
  intro n;induction n with
  | zero=>intro w hw _;rw[zai hw];rfl
  | succ n ih=>
    intro w hw hg;rcases qBB w with rfl | ⟨p,x,rfl⟩
    ·simp at hw
    ·have Cs:gL p:=fun y hy=>hg y (by simp[hy]);have hx:=hg x (by simp);have hp:=ih p (by simpa using hw) Cs;have Ka:redP (redL [] p):=qBQ qBm;have CM:gL (redL [] p):=qGB (fun y hy=>by cases hy) Cs;rw[qAA,qAA,qAs,qAs,←hp];generalize redL [] p=r at*;rcases qBB r with rfl | ⟨q,l,rfl⟩
     ·rw[qCo];rfl
     ·have hl:=CM l (by simp);rw[qBL];by_cases e:x= -l
      ·rw[if_pos (by rw[qBE hl];simp[e]),qAA,qAs];have dN:redP (redL acc q):=qBQ h1;have pu:gL (redL acc q):=qGB h2 fun y hy=>CM y (by simp[hy]);rw[e];exact(qEQ dN pu hl).symm
      ·rw[if_neg (by rw[qBE hl];simp[e]),qAA _ _ [x],qAs]
 intro w;exact key w.length w rfl
theorem qCf {w:List Int} (h:redP w):redL [] w=w:=by
 have:=qNf (acc:= []) (xs:=w) (by simpa using h)
 simpa using this
theorem qOa {w:List Int} (hg:gL w) (h:redP w):redP (invL w):=by
 rw[qLW hg];intro i hi;rw[List.length_reverse,zaY] at hi;have e: ∀j (hj:j<w.length),((w.map fun x=> -x).reverse).getD j 0= -(w.getD (w.length-1-j) 0):=fun j hj=>by
  rw[zaq,List.getElem?_reverse (by simpa using hj),zaq];simp only[zaY,List.getElem?_map];rw[zal tO];rfl
 rw[e i tO,e (i+1) hi];have hr:=h (w.length-1-(i+1)) tO;rw[show w.length-1-(i+1)+1=w.length-1-i by omega] at hr;have g1:=hg (w.getD (w.length-1-i) 0) (by rw[zaq,zal tO];exact zba _);have g2:=hg (w.getD (w.length-1-(i+1)) 0) (by rw[zaq,zal tO];exact zba _);rw[qBE g2] at hr;rw[qBE tO];have:=of_decide_eq_false hr
 rw[decide_eq_false_iff_not];omega
def letR (r:Int) (w:List Int):Prop:= ∀x∈w,x≠0∧ -r≤x∧x≤r
theorem qJW {r:Int} {w:List Int} (h:letR r w):letR r (redL [] w):=fun x hx=>by
 rcases qIC hx with h' | h'
 ·cases h'
 ·exact h x h'
theorem qLc (p:Nat) (A:Option Addr) (cap:Nat) (cs:List Int) (r m:Int) (w:World) (h:Cur p A cap cs w) (gQ:1≤r) (cS:r≤3) (tE:0≤m) (hm:m≤100):
  Calls Tryz.prog 121 #[.pointer (some ⟨p,0,none⟩), .int .i64 r, .int .i64 m] w fun e w'=> ∃v xs,e= .returned v∧OwI w' w.heap.size v xs∧(xs.length≤m∧letR r xs∧redP xs)∧Cur p A cap cs w'∧Tr p (p+1) w w':=by
 have H:=qA h;have hp:=h.lt;clear h;have HA:Hid (Cur p A cap cs (w.alloc (.cells #[] 3))):=qA (H.out.below ((zab _ _).alloc (zaa _) _));have HO:Hid (OwI (w.alloc (.cells #[] 3)) w.heap.size (.slice (some ⟨w.heap.size,0,none⟩) 0 0) []):=qA (qW w [] qS (by simp) (zaa _));have HT:Hid (Tr p (p+1) w (w.alloc (.cells #[] 3))):=qA ⟨rfl,rfl,rfl,by simp,fun k hk _=>Below.heap_alloc w _ k hk⟩;have aL:IntKind.i64.wrap (m+1)=m+1:=by rw[IntKind.wrap_i64];omega
 go_enter Tryz.func121,Tryz.ntmps121
 go_wp2_with fail;refine(qAJ p A cap cs (m+1) _ HA.out tO tO).mono ?_
 rintro e w1 ⟨n0,rfl,⟨n1,n2⟩,c1,t1⟩;have C1:=qA c1;have O1:=qA (HO.out.trP t1 hp);have T1:Hid (Tr p (p+1) w w1):=qA (HT.out.trans t1);clear c1 t1 HA HO HT;go_wp2;go_loopw [7,8] (fun wv nv wr=> ∃(k:Int) (ws:List Int),nv= .int .i64 k∧0≤k∧k+ws.length≤m∧letR r ws∧OwI wr w.heap.size wv ws∧Cur p A cap cs wr∧Tr p (p+1) w wr)
  (fun _ nv _=>(intOf nv).toNat)
 case atStart=>exact⟨n0,[],rfl,n1,by simp;omega,fun x hx=>(by cases hx),O1.out,C1.out,T1.out⟩
 case round=>
  obtain⟨k,ws,rfl,rF,lE,iq,hO,hC,hT⟩:=hrel;have HO:=qA hO;have HC:=qA hC;have HT:=qA hT;have gE:=qA iq;have ak:=hT.size;obtain⟨Aw,cw,rfl,_⟩:=hO.form;clear hO hC hT iq;by_cases ac:0<k
  ·go_wp2_with (first
    | (go_at_call 80;(with_reducible refine(qAJ p A cap cs r _ HC.out tO tO).mono ?_);rintro e w2 ⟨x,rfl,⟨x0,x1⟩,c2,t2⟩;have C2:=qA c2;have O2:=qA (HO.out.trP t2 hp);have T2:=qA (HT.out.trans t2);clear c2 t2)
    | (go_at_call 92;(with_reducible refine(qDe p A cap cs 2 _ C2.out tO tO).mono ?_);rintro e w3 ⟨bb,rfl,c3,t3⟩;have C3:=qA c3;have O3:=qA (O2.out.trP t3 hp);have T3:=qA (T2.out.trans t3);have dd:=T3.out.size;clear c3 t3;have DF:IntKind.i64.wrap (1+x)=1+x:=(by rw[IntKind.wrap_i64];omega);have lu:IntKind.i64.wrap (-(1+x))= -(1+x):=(by rw[IntKind.wrap_i64];omega);have ei:Hid (I64 (1+x)):=qA ⟨tO,tO⟩;have fI:Hid (I64 (-(1+x))):=qA ⟨tO,tO⟩)
    | ((at_builtin;refine qN rfl (.tmp 27) (.tmp 29) rfl _ _ _ (OwI.alloc O3.out _) rfl _ _ rfl (qG _ _ _) ei.out (by first | omega | (simp<;>omega)) (by first | omega | (simp<;>omega)) ?_;intro v4 wv4 o4 g4 p4);have G4:=qA g4;have O4:=qA o4;obtain⟨A4,m4,c4,rfl⟩:=o4.any2;clear o4 g4 p4)
    | ((at_builtin;refine qN rfl (.tmp 27) (.tmp 29) rfl _ _ _ (OwI.alloc O3.out _) rfl _ _ rfl (qG _ _ _) fI.out (by first | omega | (simp<;>omega)) (by first | omega | (simp<;>omega)) ?_;intro v4 wv4 o4 g4 p4);have G4:=qA g4;have O4:=qA o4;obtain⟨A4,m4,c4,rfl⟩:=o4.any2;clear o4 g4 p4))
   all_goals (
    have C4:=qA ((C3.out.below ((zab _ _).alloc (zaa _) _)).new H.out G4.out (fun b hb=>(O3.out.1.lt b hb).1));have T4:=qA ((T3.out.bel2 ((zab _ _).alloc (zaa _) _)).grow2 G4.out (fun b hb=>(O3.out.1.lt b hb).1));have jp:IntKind.i64.wrap (k-1)=k-1:=by rw[IntKind.wrap_i64];omega
    go_roundw
    case rel=>
     refine⟨k-1,_,by go_num,tO,by simp;omega,fun y hy=> ?_,O4.out,C4.out,T4.out⟩;rcases zac.1 hy with hy | hy
     ·exact gE.out y hy
     ·rw[za7] at hy;subst hy;omega
    case measure=>(simp[intOf];omega))
  ·have Fi:Hid (redP (redL [] ws)):=qA (qBQ qBm);have jX:(redL [] ws).length≤m:=by have:=qCn [] ws;simp at this;omega
   have rI:ws.length≤1073741824:=tO;go_wp2_with (go_at_call 108;(with_reducible refine(qAO _ ws _ HO.out.rd rI).mono ?_);rintro e w5 ⟨r5,rfl,o5,b5⟩;have O5:=qA o5;have B5:=qA b5;obtain⟨A5,m5,c5,rfl⟩:=o5.any2;clear o5 b5)
   exact bodyPost_ret (v:= .slice A5 m5 c5) (by simp[results,Tryz.results121,go_sem]) rfl ⟨_,_,rfl,O5.out.mono ak,⟨jX,qJW gE.out,Fi.out⟩,HC.out.below B5.out,HT.out.bel2 B5.out⟩
abbrev WhD:=Int×List Int
def qCv (w:World) (v:Value) (d:WhD):Prop:= ∃s,v= .agg #[.int .i64 d.1,s]∧I64 d.1∧ArgI w s d.2
def OwWh (w:World) (base:Nat) (v:Value) (d:WhD):Prop:= ∃s,v= .agg #[.int .i64 d.1,s]∧I64 d.1∧OwI w base s d.2
theorem qCv.below {w w':World} {v:Value} {d:WhD} (h:qCv w v d) (hb:Below w.heap.size w w'):qCv w' v d:=by
 obtain⟨s,hv,hd,ha⟩:=h;exact⟨s,hv,hd,ha.below hb⟩
end Go.Proofs.YtlgcflpaekbopaaGreat
