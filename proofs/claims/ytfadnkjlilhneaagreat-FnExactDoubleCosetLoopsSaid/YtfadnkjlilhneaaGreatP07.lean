/- Parts of the proof: AddS, AddI, Sch, AddF, PowI, Dcl, DclI. -/
import Derived.Test.YtfadnkjlilhneaaGreatP02
import Derived.Test.YtfadnkjlilhneaaGreatP06
import Derived.Test.YtfadnkjlilhneaaGreatP03
import Derived.Test.YtfadnkjlilhneaaGreatP05
import Derived.Test.YtfadnkjlilhneaaGreatP04
namespace Go.Proofs.YtfadnkjlilhneaaGreat
set_option maxRecDepth 20000
set_option linter.unusedVariables false
set_option linter.unusedSimpArgs false
open Go.RowKit
theorem GBx.sz {w:World} {p base:Nat} {A:Option Addr} {c:Nat} {g:GrD} (h:GBx w p base A c g) {z:Int} (hz:I64 z):GBx (w.setCell ⟨p,1,none⟩ (.int .i64 z)) p base A c (g.1,z,g.2.2):=
 ⟨(World.cell?_setCell_other _ _ _ _ (by simp)).trans h.c0,World.cell?_setCell_same _ _ _ h.c1,(World.cell?_setCell_other _ _ _ _ (by simp)).trans h.c2,fun j=>by rw[World.frozen?_setCell];exact h.fz j,h.ow.keep fun b hb=>Below.heap_setCell _ _ _ b (h.ne b hb),h.ne,h.i1,hz,by simpa using h.lt⟩
theorem put_e {v:Value} {es:List EdD} {w:World} (e:EdD) (x y z:Int) (h:ArgE w v es) (he:E64 e) (hl:es.length≤268435456) (hq:e=(x,y,z)):
  Calls Tryz.prog 59 #[v, .agg #[.int .i64 x, .int .i64 y, .int .i64 z]] w fun e' w'=> ∃r,e'= .returned r∧OwE w' w.heap.size r (insF cmpE es e)∧Below w.heap.size w w':=by
 subst hq
 exact l4Put_any v es (x,y,z) w h he hl
set_option maxHeartbeats 4000000 in
theorem specAddPath_any (v y:Value) (g:GrD) (a b:Int) (t:List Int) (w:World) (h:ArgG w v g) (ht:RdI w y t) (hg:grB g=true) (ha:0≤a∧a<g.2.1) (hb:0≤b∧b<g.2.1) (hw:wordB g.1 t=true) (h0:t.length≠0) (hl:t.length≤1073741824):
  Calls Tryz.prog 116 #[v, .int .i64 a,y, .int .i64 b] w fun x w'=> ∃r,x= .returned (.tuple #[r, .bool (addOk g t)])∧OwG w' w.heap.size r (if addOk g t=true then addG g a b t else g)∧Below w.heap.size w w':=by
 have HG:=hD h
 have HY:=hD ht
 have HGR:=hD hg
 have HW:=hD hw
 have HA:=hD ha
 have HBV:=hD hb
 obtain⟨h13,h40,h120,_⟩:=grB_parts hg
 obtain⟨s,rfl,hi1,hi2,hga⟩:=h
 obtain⟨A,cap,rfl⟩:=hga.form
 obtain⟨T,tc,rfl,_⟩:=ht.arg
 obtain⟨g1,N,es⟩:=g
 simp only at*
 clear hga hg hw ha hb
 obtain⟨OK,hOK⟩: ∃o,o=addOk (g1,N,es) t:=⟨_,rfl⟩
 rw[←hOK]
 obtain⟨RES,hRES⟩: ∃R,R=(if OK=true then addG (g1,N,es) a b t else(g1,N,es)):=⟨_,rfl⟩
 rw[←hRES]
 have HOK:=hD hOK
 have HRES:=hD hRES
 clear hRES hOK
 go_enter Tryz.func116,Tryz.ntmps116
 go_wp2_with fail
 obtain⟨W1,hW1⟩: ∃W,W=w.alloc (Obj.cells #[Value.int IntKind.i64 g1,Value.int IntKind.i64 N, .slice A es.length cap] 31):=⟨_,rfl⟩
 rw[←hW1]
 obtain⟨hs1,b1,hc1,_⟩:=gbox hW1
 obtain⟨W,hW⟩: ∃W,W=W1.alloc (Obj.cells #[Value.int IntKind.i64 0,Value.int IntKind.i64 0, .slice none 0 0] 31):=⟨_,rfl⟩
 rw[←hW]
 obtain⟨hs2,b2,hc2,hf2⟩:=gbox hW
 have hsW:W.heap.size=w.heap.size+2:=by omega
 have HC1:=hD hc1
 have HC2:=hD hc2
 have HF2:=hD hf2
 have BX1:=hD b1
 have BX2:=hD b2
 have BX:Hid (Below w.heap.size w W):=hD (b1.trans (b2.mono (by omega)))
 have HCL:Hid (∀w',Below (w.heap.size+2) W w'→w'.cell? ⟨w.heap.size,0,none⟩=some (.int .i64 g1)∧w'.cell? ⟨w.heap.size,1,none⟩=some (.int .i64 N)∧w'.cell? ⟨w.heap.size,2,none⟩=some (.slice A es.length cap)):=hD fun w' hb=>HC1.out w' ((BX2.out.mono (by omega)).trans (hb.mono (by omega)))
 have HRC:Hid (∀w',Below (w.heap.size+2) W w'→(w'.cell? ⟨w.heap.size+1,0,none⟩=some (.int .i64 0)∧w'.cell? ⟨w.heap.size+1,1,none⟩=some (.int .i64 0)∧w'.cell? ⟨w.heap.size+1,2,none⟩=some (.slice none 0 0))∧ ∀j,w'.frozen? ⟨w.heap.size+1,j,none⟩=false):=hD fun w' hb=>by
  have e:Below (W1.heap.size+1) W w':=hb.mono (by omega)
  have h1:=HC2.out w' e
  have h2:=fun j=>HF2.out j w' e
  rw[hs1] at h1 h2
  exact⟨h1,h2⟩
 have HAG:Hid (∀w',Below (w.heap.size+2) W w'→ArgG w' (.agg #[.int .i64 g1, .int .i64 N, .slice A es.length cap]) (g1,N,es)):=hD fun w' hb=>HG.out.below (BX.out.trans (hb.mono (by omega)))
 have HAT:Hid (∀w',Below (w.heap.size+2) W w'→RdI w' (.slice T t.length tc) t):=hD fun w' hb=>HY.out.below (BX.out.trans (hb.mono (by omega)))
 clear hW1 hW hc1 hc2 hf2 b1 b2 HC1 HC2 HF2 BX1 BX2 hs1 hs2
 obtain⟨q0,q1,q2⟩:=HCL.out W ((Below.refl W.heap.size W).mono (by omega))
 refine(l4Copy_any _ (g1,N,es) W (HAG.out W ((Below.refl W.heap.size W).mono (by omega))) (by simp only;omega)).mono ?_
 clear q0 q1 q2
 rintro e w5 ⟨r,rfl,o5,b5⟩
 have hs5:=b5.size
 have B5:Hid (Below (w.heap.size+2) W w5):=hD (b5.mono (by omega))
 obtain⟨s1,rfl,_,_,oe5⟩:=o5
 obtain⟨A1,c1,rfl,_⟩:=oe5.form
 simp only at*
 clear b5
 have b6':Below w5.heap.size w5 (w5.alloc (Obj.cells #[Value.int IntKind.i64 g1,Value.int IntKind.i64 N, .slice A1 es.length c1] 31)):=(Below.refl _ _).alloc (Nat.le_refl _) _
 obtain⟨q0,q1,q2⟩:=HCL.out _ (B5.out.trans (b6'.mono (by omega)))
 clear b6'
 go_wp2_with fail
 clear q0 q1 q2
 obtain⟨W6,hW6⟩: ∃W,W=w5.alloc (Obj.cells #[Value.int IntKind.i64 g1,Value.int IntKind.i64 N, .slice A1 es.length c1] 31):=⟨_,rfl⟩
 have GB6:=hD (GBx.new (m:=(g1,N,es)) oe5 hi1 hi2 hW6)
 obtain⟨hs6,b6,_,_⟩:=gbox hW6
 rw[←hW6]
 have B6:Hid (Below (w.heap.size+2) W W6):=hD (B5.out.trans (b6.mono (by omega)))
 clear hW6 b6 oe5
 obtain⟨p,hp⟩: ∃p,p=w5.heap.size:=⟨_,rfl⟩
 rw[←hp] at GB6⊢
 have hpw:w.heap.size+2≤p:=by omega
 have hp6:p<W6.heap.size:=by omega
 clear hp hs6 hs5
 have HIG:=hD (specIsGraph_any _ (g1,N,es) W6 (HAG.out W6 B6.out))
 rw[HGR.out] at HIG
 refine HIG.out.mono ?_
 clear HIG
 rintro e w7 ⟨rfl,b7⟩
 have B7:=hD (B6.out.trans (b7.mono (by have:=B6.out.size;omega)))
 have GB7:=hD (GB6.out.below b7)
 clear b7
 obtain⟨q0,q1,q2⟩:=HCL.out w7 B7.out
 have E1:inB a 0 (N-1)=true:=by unfold inB;simp;have:=HA.out;omega
 have E2:inB b 0 (N-1)=true:=by unfold inB;simp;have:=HBV.out;omega
 have EW:=hD (specIsWord_any g1 _ t w7 (HAT.out w7 B7.out).arg (by omega))
 rw[HW.out] at EW
 go_wp2_with (go_at_call 57;refine(l1In_any _ _ _ _).mono ?_;rintro e w' ⟨rfl,rfl⟩)
 refine EW.out.mono ?_
 clear EW E1 E2 q0 q1 q2
 rintro e w8 ⟨rfl,nd,rfl⟩
 obtain⟨w8,hw8⟩: ∃W,W=w7.drewN nd:=⟨_,rfl⟩
 rw[←hw8]
 have B8:Hid (Below (w.heap.size+2) W w8):=hD (by rw[hw8];exact bel_drewN B7.out _)
 have GB8:Hid (GBx w8 p W.heap.size A1 c1 (g1,N,es)):=hD (by rw[hw8];exact GB7.out.below (bel_drewN (Below.refl _ _) _))
 clear hw8
 obtain⟨q0,q1,q2⟩:=HCL.out w8 B8.out
 have z0:=GB8.out.c0
 have z1:=GB8.out.c1
 have z2:=GB8.out.c2
 simp only at z0 z1 z2
 obtain⟨⟨r0,r1,r2⟩,hrf⟩:=HRC.out w8 B8.out
 have rf0:=hrf 0
 have rf1:=hrf 1
 have rf2:=hrf 2
 have h0I: ¬(t.length:Int)=0:=by omega
 have h0N: ¬t= []:=fun q=>h0 (by rw[q];rfl)
 clear hrf
 by_cases hA:N+t.length-1≤40
 ·by_cases hE:(es.length:Int)+t.length≤120
  ·have hok:addOk (g1,N,es) t=true:=decide_eq_true ⟨hA,hE⟩
   have HK:Hid (OK=true∧RES=addG (g1,N,es) a b t):=hD (by have:=HOK.out.trans hok;exact⟨this,by rw[HRES.out,this];rfl⟩)
   clear hok
   obtain⟨n,rfl⟩: ∃n:Nat,N=(n:Int):=⟨N.toNat,by omega⟩
   have hes0:srt cmpE es=es:=srt_self (gr_srt HGR.out)
   have HS0:=hD hes0
   clear hes0
   have h0B:((t.length:Int)==0)=false:=beq_eq_false_iff_ne.2 h0I
   have hA': ¬40<(n:Int)+t.length-1:=by omega
   have hE': ¬120<(es.length:Int)+t.length:=by omega
   go_wp2_with fail
   clear q0 q1 q2 r0 r1 r2 rf0 rf1 rf2 z0 z1 z2 h0I h0N h0B hA' hE'
   go_loopw [11,12] (fun q i wr=> ∃(k:Nat) (L:List EdD) (A2:Option Addr) (c2:Nat),k≤t.length∧i= .int .i64 k∧q= .int .i64 (atP n t.length a b k)∧Hid (L=srt cmpE (es++pthL n a b t k))∧L.length≤es.length+k∧GBx wr p (w.heap.size+2) A2 c2 (g1,((szP n t.length k:Nat):Int),L)∧Below (w.heap.size+2) W wr) (fun _ i _=>t.length-(intOf i).toNat)
   case atStart=>
    refine⟨0,es,A1,c1,Nat.zero_le _,rfl,rfl,hD ?_,Nat.le_refl _,?_,B8.out⟩
    ·show es=srt cmpE (es++ [])
     rw[List.append_nil,HS0.out]
    ·exact GB8.out.mono (by omega)
   case round=>
    obtain⟨k,L,A2,c2,hk,rfl,rfl,hL,hLl,hgb,hbr⟩:=hrel
    obtain⟨wk,rfl⟩: ∃wk:World,wk=wr:=⟨_,rfl⟩
    have HT:=hD (HAT.out wk hbr)
    have HGB:=hD hgb
    have HBR:=hD hbr
    have hwk:=hgb.lt
    have z0:=hgb.c0
    have z1:=hgb.c1
    have z2:=hgb.c2
    have zf1:=hgb.fz 1
    have zf2:=hgb.fz 2
    simp only at z0 z1 z2
    clear hgb hbr
    rcases Nat.lt_or_ge k t.length with hlt | hge
    ·have hzz:=wordB_get HW.out k hlt
     obtain⟨bt,off,rfl,hbt,hct⟩:=HY.out.at (by omega)
     have HTC:Hid (∀W',Below (w.heap.size+2) W W'→W'.cell? ⟨bt,off+k,none⟩=some (.int .i64 t[k])):=hD fun W' hb=>((BX.out.trans (hb.mono (by omega))).cell (p:=⟨bt,off+k,none⟩) hbt).trans (hct k hlt)
     have cz:=HTC.out wk HBR.out
     have HPS:Hid (pthL n a b t (k+1)=pthL n a b t k++ [stpE (atP n t.length a b k) t[k] (nxP n t.length b k)]):=hD (by rw[pthL_succ];unfold pthE;rw[getD_at hlt])
     have har:=atP_range (N:=n) (len:=t.length) (j:=k) HA.out HBV.out
     have hnr:=nxP_range (N:=n) (len:=t.length) (j:=k) HBV.out
     have HSZ:=hD (szP_succ (N:=n) hlt)
     have HSK:=hD (fun q=>szP_at (N:=n) (len:=t.length) (j:=k) q)
     have HNX:Hid (nxP n t.length b k=if k+1<t.length then((n+k:Nat):Int) else b):=hD rfl
     have hso:(srt cmpE (es++pthL n a b t k)).length≤es.length+k:=by rw[←hL];exact hLl
     have HAT1:Hid (atP n t.length a b (k+1)=nxP n t.length b k):=hD rfl
     generalize t[k]=z at*
     generalize atP n t.length a b k=q at*
     generalize nxP n t.length b k=m at*
     have HL:Hid (srt cmpE (es++pthL n a b t (k+1))=insF cmpE L (stpE q z m)):=hD (by rw[HPS.out,←List.append_assoc,srt_snocP,hL.out])
     have HLL:Hid ((insF cmpE L (stpE q z m)).length≤es.length+(k+1)):=hD (by have:=insF_len (c:=cmpE) L (stpE q z m);omega)
     clear hct HT HPS hso
     generalize hs1:szP n t.length k=S1 at*
     have hSb:S1≤n+24:=by rw[←hs1];unfold szP;have:=wordB_len HW.out;omega
     clear hs1
     have hk24:=wordB_len HW.out
     have hpw':p<wk.heap.size:=hwk
     obtain⟨S2,hS2⟩: ∃S,S=szP n t.length (k+1):=⟨_,rfl⟩
     rw[←hS2] at HSZ
     have HS2:=hD hS2
     clear hS2
     have hneg:IntKind.i64.wrap (-z)= -z:=by rw[IntKind.wrap_i64];omega
     have hinc:IntKind.i64.wrap ((S1:Int)+1)=(S1:Int)+1:=by rw[IntKind.wrap_i64];omega
     have HE64:Hid (E64 (stpE q z m)):=hD (by unfold stpE;split<;>exact⟨⟨by simp only;omega,by simp only;omega⟩,⟨by simp only;omega,by simp only;omega⟩,⟨by simp only;omega,by simp only;omega⟩⟩)
     have hLb:L.length≤268435456:=by omega
     have HLN:Hid (L.length≤es.length+k):=hD hLl
     have HLE:=hD hL.out
     have HKL:=hD hk
     have HZZ:=hD (And.intro hzz (And.intro har hnr))
     have hI2:I64 ((S2:Nat):Int):=by
      have:S2≤S1+1:=by rw[HSZ.out];split<;>omega
      exact⟨by omega,by omega⟩
     have HI2:=hD hI2
     clear hL hLl hzz har hnr hI2
     by_cases h1:k+1<t.length<;>by_cases h2:0<z
     all_goals
      have HHH:=hD (And.intro h1 h2)
      go_wp2_with fail
      have hk0:=HKL.out
      first
       | (have h1':k+1<t.length:=HHH.out.1
          obtain⟨wn,hwn⟩: ∃W,W=wk.setCell ⟨p,1,none⟩ (.int .i64 ((S1:Int)+1)):=⟨_,rfl⟩
          rw[←hwn]
          have HM:Hid (m=(S1:Int)):=hD (by rw[HNX.out,if_pos h1'];have:=HSK.out h1';omega)
          have GBN:Hid (GBx wn p (w.heap.size+2) A2 c2 (g1,((S2:Nat):Int),L)):=hD (by
           have e:(S2:Int)=(S1:Int)+1:=by rw[HSZ.out,if_pos h1'];rfl
           have hi:=HI2.out
           rw[e] at hi
           rw[hwn,e]
           exact HGB.out.sz hi)
          have BN:Hid (Below (w.heap.size+2) W wn):=hD (by rw[hwn];exact HBR.out.setCell hpw _)
          clear hwn)
       | (have h1': ¬k+1<t.length:=HHH.out.1
          obtain⟨wn,rfl⟩: ∃W,W=wk:=⟨_,rfl⟩
          have HM:Hid (m=b):=hD (by rw[HNX.out,if_neg h1'])
          have GBN:Hid (GBx wn p (w.heap.size+2) A2 c2 (g1,((S2:Nat):Int),L)):=hD (by rw[show S2=S1 by rw[HSZ.out,if_neg h1']];exact HGB.out)
          have BN:Hid (Below (w.heap.size+2) W wn):=hD HBR.out)
      clear h1 hk0 z0 z1 z2 cz zf1 zf2 hwk
      have z2:=GBN.out.c2
      simp only at z2
      have cz:=HTC.out wn BN.out
      have hpn:=GBN.out.lt
      have hbn:bt<wn.heap.size:=by omega
      have f0:=BelW.cell z2 hpn
      have f1:=BelW.cell cz hbn
      have hnn: ¬((k:Int)<0):=by omega
      have hkl:(k:Int)<(t.length:Int):=by omega
      first | (have h2':0<z:=HHH.out.2;clear h2';(refine wp_region_call3 9 (by kernel_rfl) (by kernel_rfl) (by kernel_rfl) (by kernel_rfl) (by rfl) (by rfl) ?_;dsimp only[dum3,dumO];(repeat(go_big_quiet_step (fail)));refine wpQuiet_nil ?_;refine⟨⟨_,fun _=>by rfl⟩,?_⟩;intro wq hw';obtain⟨pq,hw''⟩:=hw';have bq:=pq.h;rw[←hw''] at bq;clear hw'' pq;refine⟨_,_,by rfl,?_⟩)) | (refine wp_region_call3 10 (by kernel_rfl) (by kernel_rfl) (by kernel_rfl) (by kernel_rfl) (by rfl) (by rfl) ?_;dsimp only[dum3,dumO];(repeat(go_big_quiet_step (fail)));refine wpQuiet_nil ?_;refine⟨⟨_,fun _=>by rfl⟩,?_⟩;intro wq hw';obtain⟨pq,hw''⟩:=hw';have bq:=pq.h;rw[←hw''] at bq;clear hw'' pq;refine⟨_,_,by rfl,?_⟩)
      clear f0 f1
      try simp only[hneg]
      simp only[List.map_toArray,List.map_cons,List.map_nil,Array.empty_append,Array.append_empty]
      refine(show Calls Tryz.prog 59 #[.slice A2 L.length c2, .agg #[.int .i64 _, .int .i64 _, .int .i64 _]] wq _ from ?_)
      refine(put_e (stpE q z m) _ _ _ (GBN.out.ow.below bq).arg HE64.out hLb (by unfold stpE;rw[HM.out];have hh:=HHH.out.2;first | rw[if_pos (by omega)] | rw[if_neg (by omega)])).mono ?_
      rintro e' w9 ⟨r9,rfl,o9,b9⟩
      have B9:=hD (bq.trans (b9.mono bq.size))
      have qx:=(B9.out.cell (p:=⟨p,2,none⟩) hpn).trans z2
      have qf:=(B9.out.frozen (p:=⟨p,2,none⟩) hpn).trans (GBN.out.fz 2)
      have s9:wn.heap.size≤w9.heap.size:=B9.out.size
      have hq9:=bq.size
      have O9:=hD o9
      obtain⟨A9,c9,rfl,_⟩:=o9.form
      clear o9 b9 z2 cz
      refine⟨_,rfl,?_⟩
      simp only[Act.put,List.setIfInBounds_toArray,List.set_cons_zero,List.set_cons_succ]
      go_wp2
      go_roundw
      case rel=>
       exact⟨k+1,insF cmpE L (stpE q z m),A9,c9,by have:=HKL.out;omega,by go_num,by rw[HAT1.out,HM.out],hD HL.out.symm,HLL.out,by rw[←HS2.out];exact(GBN.out.below B9.out).put (O9.out.mono (by omega)) (fun y hy=>by have:=(O9.out.1.lt y hy).1;omega),(BN.out.trans (B9.out.mono (by omega))).setCell hpw _⟩
      case measure=>simp[intOf];omega
    ·have hkt:k=t.length:=by omega
     subst hkt
     obtain⟨⟨r0,r1,r2⟩,hrf⟩:=HRC.out wk HBR.out
     have rf0:=hrf 0
     have rf1:=hrf 1
     have rf2:=hrf 2
     have hpne:w.heap.size+1≠p:=by omega
     clear hrf
     have hR:RES=(g1,((szP n t.length t.length:Nat):Int),L):=by
      rw[HK.out.2,hL.out]
      show(g1,(((n:Int).toNat+(t.length-1):Nat):Int),srt cmpE (es++pthL (n:Int).toNat a b t t.length))=_
      rw[Int.toNat_natCast,show szP n t.length t.length=n+(t.length-1) by unfold szP;omega]
     have HR:=hD hR
     clear hR
     go_wp2
     obtain⟨e0,e1,e2⟩:=cells3F (.int .i64 g1) (.int .i64 ((szP n t.length t.length:Nat):Int)) (.slice A2 L.length c2) r0 r1 r2
     have bw:Below w.heap.size w (((wk.setCell ⟨w.heap.size+1,0,none⟩ (.int .i64 g1)).setCell ⟨w.heap.size+1,1,none⟩ (.int .i64 ((szP n t.length t.length:Nat):Int))).setCell ⟨w.heap.size+1,2,none⟩ (.slice A2 L.length c2)):=set3_below _ _ _ (BX.out.trans (HBR.out.mono (by omega))) (by omega)
     have ow:OwE (((wk.setCell ⟨w.heap.size+1,0,none⟩ (.int .i64 g1)).setCell ⟨w.heap.size+1,1,none⟩ (.int .i64 ((szP n t.length t.length:Nat):Int))).setCell ⟨w.heap.size+1,2,none⟩ (.slice A2 L.length c2)) (w.heap.size+2) (.slice A2 L.length c2) L:=HGB.out.ow.keep fun b hb=>set3_heap _ _ _ _ _ (by have:=(HGB.out.ow.1.lt b hb).1;omega)
     exact bodyPost_ret (v:= .tuple #[.agg #[.int .i64 g1, .int .i64 ((szP n t.length t.length:Nat):Int), .slice A2 L.length c2], .bool true]) (by simp[results,Tryz.results116,go_sem,e0,e1,e2]) rfl ⟨_,by rw[HK.out.1],by rw[HR.out];exact⟨.slice A2 L.length c2,rfl,hi1,HGB.out.i2,ow.mono (by omega)⟩,bw⟩
  ·have hok:addOk (g1,N,es) t=false:=decide_eq_false fun q=>hE q.2
   have HK:Hid (OK=false∧RES=(g1,N,es)):=hD (by have:=HOK.out.trans hok;exact⟨this,by rw[HRES.out,this];rfl⟩)
   clear hok
   go_wp2
   obtain⟨e0,e1,e2⟩:=cells3F (.int .i64 g1) (.int .i64 N) (.slice A1 es.length c1) r0 r1 r2
   have bw:Below w.heap.size w (((w8.setCell ⟨w.heap.size+1,0,none⟩ (.int .i64 g1)).setCell ⟨w.heap.size+1,1,none⟩ (.int .i64 N)).setCell ⟨w.heap.size+1,2,none⟩ (.slice A1 es.length c1)):=set3_below _ _ _ (BX.out.trans (B8.out.mono (by omega))) (by omega)
   have ow:OwE (((w8.setCell ⟨w.heap.size+1,0,none⟩ (.int .i64 g1)).setCell ⟨w.heap.size+1,1,none⟩ (.int .i64 N)).setCell ⟨w.heap.size+1,2,none⟩ (.slice A1 es.length c1)) W.heap.size (.slice A1 es.length c1) es:=GB8.out.ow.keep fun b hb=>set3_heap _ _ _ _ _ (by have:=(GB8.out.ow.1.lt b hb).1;omega)
   exact bodyPost_ret (v:= .tuple #[.agg #[.int .i64 g1, .int .i64 N, .slice A1 es.length c1], .bool false]) (by simp[results,Tryz.results116,go_sem,e0,e1,e2]) rfl ⟨_,by rw[HK.out.1],by rw[HK.out.2];exact⟨.slice A1 es.length c1,rfl,hi1,hi2,ow.mono (by omega)⟩,bw⟩
 ·have hok:addOk (g1,N,es) t=false:=decide_eq_false fun q=>hA q.1
  have HK:Hid (OK=false∧RES=(g1,N,es)):=hD (by have:=HOK.out.trans hok;exact⟨this,by rw[HRES.out,this];rfl⟩)
  clear hok
  go_wp2
  obtain⟨e0,e1,e2⟩:=cells3F (.int .i64 g1) (.int .i64 N) (.slice A1 es.length c1) r0 r1 r2
  have bw:Below w.heap.size w (((w8.setCell ⟨w.heap.size+1,0,none⟩ (.int .i64 g1)).setCell ⟨w.heap.size+1,1,none⟩ (.int .i64 N)).setCell ⟨w.heap.size+1,2,none⟩ (.slice A1 es.length c1)):=set3_below _ _ _ (BX.out.trans (B8.out.mono (by omega))) (by omega)
  have ow:OwE (((w8.setCell ⟨w.heap.size+1,0,none⟩ (.int .i64 g1)).setCell ⟨w.heap.size+1,1,none⟩ (.int .i64 N)).setCell ⟨w.heap.size+1,2,none⟩ (.slice A1 es.length c1)) W.heap.size (.slice A1 es.length c1) es:=GB8.out.ow.keep fun b hb=>set3_heap _ _ _ _ _ (by have:=(GB8.out.ow.1.lt b hb).1;omega)
  exact bodyPost_ret (v:= .tuple #[.agg #[.int .i64 g1, .int .i64 N, .slice A1 es.length c1], .bool false]) (by simp[results,Tryz.results116,go_sem,e0,e1,e2]) rfl ⟨_,by rw[HK.out.1],by rw[HK.out.2];exact⟨.slice A1 es.length c1,rfl,hi1,hi2,ow.mono (by omega)⟩,bw⟩
end Go.Proofs.YtfadnkjlilhneaaGreat
namespace Go.Proofs.YtfadnkjlilhneaaGreat
set_option maxRecDepth 20000
set_option linter.unusedVariables false
set_option linter.unusedSimpArgs false
open Go.RowKit
set_option maxHeartbeats 4000000 in
theorem implAddPath_any (v y:Value) (g:GrD) (a b:Int) (t:List Int) (w:World) (h:ArgG w v g) (ht:RdI w y t) (hg:grB g=true) (ha:0≤a∧a<g.2.1) (hb:0≤b∧b<g.2.1) (hw:wordB g.1 t=true) (h0:t.length≠0) (hl:t.length≤1073741824):
  Calls Tryz.prog 139 #[v, .int .i64 a,y, .int .i64 b] w fun x w'=> ∃r,x= .returned (.tuple #[r, .bool (addOk g t)])∧OwG w' w.heap.size r (if addOk g t=true then addG g a b t else g)∧Below w.heap.size w w':=by
 have HG:=hD h
 have HY:=hD ht
 have HGR:=hD hg
 have HW:=hD hw
 have HA:=hD ha
 have HBV:=hD hb
 obtain⟨h13,h40,h120,_⟩:=grB_parts hg
 obtain⟨s,rfl,hi1,hi2,hga⟩:=h
 obtain⟨A,cap,rfl⟩:=hga.form
 obtain⟨T,tc,rfl,_⟩:=ht.arg
 obtain⟨g1,N,es⟩:=g
 simp only at*
 clear hga hg hw ha hb
 obtain⟨OK,hOK⟩: ∃o,o=addOk (g1,N,es) t:=⟨_,rfl⟩
 rw[←hOK]
 obtain⟨RES,hRES⟩: ∃R,R=(if OK=true then addG (g1,N,es) a b t else(g1,N,es)):=⟨_,rfl⟩
 rw[←hRES]
 have HOK:=hD hOK
 have HRES:=hD hRES
 clear hRES hOK
 go_enter Tryz.func139,Tryz.ntmps139
 go_wp2_with fail
 obtain⟨W1,hW1⟩: ∃W,W=w.alloc (Obj.cells #[Value.int IntKind.i64 g1,Value.int IntKind.i64 N, .slice A es.length cap] 31):=⟨_,rfl⟩
 rw[←hW1]
 obtain⟨hs1,b1,hc1,_⟩:=gbox hW1
 obtain⟨W,hW⟩: ∃W,W=W1.alloc (Obj.cells #[Value.int IntKind.i64 0,Value.int IntKind.i64 0, .slice none 0 0] 31):=⟨_,rfl⟩
 rw[←hW]
 obtain⟨hs2,b2,hc2,hf2⟩:=gbox hW
 have hsW:W.heap.size=w.heap.size+2:=by omega
 have HC1:=hD hc1
 have HC2:=hD hc2
 have HF2:=hD hf2
 have BX1:=hD b1
 have BX2:=hD b2
 have BX:Hid (Below w.heap.size w W):=hD (b1.trans (b2.mono (by omega)))
 have HCL:Hid (∀w',Below (w.heap.size+2) W w'→w'.cell? ⟨w.heap.size,0,none⟩=some (.int .i64 g1)∧w'.cell? ⟨w.heap.size,1,none⟩=some (.int .i64 N)∧w'.cell? ⟨w.heap.size,2,none⟩=some (.slice A es.length cap)):=hD fun w' hb=>HC1.out w' ((BX2.out.mono (by omega)).trans (hb.mono (by omega)))
 have HRC:Hid (∀w',Below (w.heap.size+2) W w'→(w'.cell? ⟨w.heap.size+1,0,none⟩=some (.int .i64 0)∧w'.cell? ⟨w.heap.size+1,1,none⟩=some (.int .i64 0)∧w'.cell? ⟨w.heap.size+1,2,none⟩=some (.slice none 0 0))∧ ∀j,w'.frozen? ⟨w.heap.size+1,j,none⟩=false):=hD fun w' hb=>by
  have e:Below (W1.heap.size+1) W w':=hb.mono (by omega)
  have h1:=HC2.out w' e
  have h2:=fun j=>HF2.out j w' e
  rw[hs1] at h1 h2
  exact⟨h1,h2⟩
 have HAG:Hid (∀w',Below (w.heap.size+2) W w'→ArgG w' (.agg #[.int .i64 g1, .int .i64 N, .slice A es.length cap]) (g1,N,es)):=hD fun w' hb=>HG.out.below (BX.out.trans (hb.mono (by omega)))
 have HAT:Hid (∀w',Below (w.heap.size+2) W w'→RdI w' (.slice T t.length tc) t):=hD fun w' hb=>HY.out.below (BX.out.trans (hb.mono (by omega)))
 clear hW1 hW hc1 hc2 hf2 b1 b2 HC1 HC2 HF2 BX1 BX2 hs1 hs2
 obtain⟨q0,q1,q2⟩:=HCL.out W ((Below.refl W.heap.size W).mono (by omega))
 refine(copyGraph_any _ (g1,N,es) W (HAG.out W ((Below.refl W.heap.size W).mono (by omega))) (by simp only;omega)).mono ?_
 clear q0 q1 q2
 rintro e w5 ⟨r,rfl,o5,b5⟩
 have hs5:=b5.size
 have B5:Hid (Below (w.heap.size+2) W w5):=hD (b5.mono (by omega))
 obtain⟨s1,rfl,_,_,oe5⟩:=o5
 obtain⟨A1,c1,rfl,_⟩:=oe5.form
 simp only at*
 clear b5
 have b6':Below w5.heap.size w5 (w5.alloc (Obj.cells #[Value.int IntKind.i64 g1,Value.int IntKind.i64 N, .slice A1 es.length c1] 31)):=(Below.refl _ _).alloc (Nat.le_refl _) _
 obtain⟨q0,q1,q2⟩:=HCL.out _ (B5.out.trans (b6'.mono (by omega)))
 clear b6'
 go_wp2_with fail
 clear q0 q1 q2
 obtain⟨W6,hW6⟩: ∃W,W=w5.alloc (Obj.cells #[Value.int IntKind.i64 g1,Value.int IntKind.i64 N, .slice A1 es.length c1] 31):=⟨_,rfl⟩
 have GB6:=hD (GBx.new (m:=(g1,N,es)) oe5 hi1 hi2 hW6)
 obtain⟨hs6,b6,_,_⟩:=gbox hW6
 rw[←hW6]
 have B6:Hid (Below (w.heap.size+2) W W6):=hD (B5.out.trans (b6.mono (by omega)))
 clear hW6 b6 oe5
 obtain⟨p,hp⟩: ∃p,p=w5.heap.size:=⟨_,rfl⟩
 rw[←hp] at GB6⊢
 have hpw:w.heap.size+2≤p:=by omega
 have hp6:p<W6.heap.size:=by omega
 clear hp hs6 hs5
 have HIG:=hD (implIsGraph_any _ (g1,N,es) W6 (HAG.out W6 B6.out))
 rw[HGR.out] at HIG
 refine HIG.out.mono ?_
 clear HIG
 rintro e w7 ⟨rfl,b7⟩
 have B7:=hD (B6.out.trans (b7.mono (by have:=B6.out.size;omega)))
 have GB7:=hD (GB6.out.below b7)
 clear b7
 have E1:inB a 0 (wrap64 (N-1))=true:=by rw[IntWalk.wrap64_in _ ⟨by omega,by omega⟩];unfold inB;simp;have:=HA.out;omega
 have E2:inB b 0 (wrap64 (N-1))=true:=by rw[IntWalk.wrap64_in _ ⟨by omega,by omega⟩];unfold inB;simp;have:=HBV.out;omega
 have HE1:=hD E1
 have HE2:=hD E2
 clear E1 E2
 obtain⟨q0,q1,q2⟩:=HCL.out w7 B7.out
 go_wp2_with fail
 clear q0 q1 q2
 refine(grHas_any g1 N A es.length cap a w7).mono ?_
 rintro e wa ⟨rfl,ba⟩
 rw[HE1.out]
 have B7a:=hD (B7.out.trans (ba.mono (by have:=B7.out.size;omega)))
 have GB7a:=hD (GB7.out.below ba)
 clear ba
 obtain⟨q0,q1,q2⟩:=HCL.out wa B7a.out
 go_wp2_with fail
 clear q0 q1 q2
 refine(grHas_any g1 N A es.length cap b wa).mono ?_
 rintro e wb ⟨rfl,bb⟩
 rw[HE2.out]
 have B7b:=hD (B7a.out.trans (bb.mono (by have:=B7a.out.size;omega)))
 have GB7b:=hD (GB7a.out.below bb)
 clear bb
 obtain⟨q0,q1,q2⟩:=HCL.out wb B7b.out
 have h0B:((t.length:Int)==0)=false:=beq_eq_false_iff_ne.2 (by omega)
 have h0N: ¬t= []:=fun q=>h0 (by rw[q];rfl)
 have h0I: ¬(t.length:Int)=0:=by omega
 have EW:=hD (implIsWord_any g1 _ t wb (HAT.out wb B7b.out).arg (by omega))
 rw[HW.out] at EW
 go_wp2_with fail
 refine EW.out.mono ?_
 clear EW q0 q1 q2 h0B h0N h0I
 rintro e w8 ⟨rfl,hw8⟩
 obtain⟨B8,GB8⟩:Hid (Below (w.heap.size+2) W w8)∧Hid (GBx w8 p W.heap.size A1 c1 (g1,N,es)):=by subst hw8;exact⟨B7b,GB7b⟩
 clear hw8 B7b GB7b B7a GB7a B7 GB7
 obtain⟨q0,q1,q2⟩:=HCL.out w8 B8.out
 have z0:=GB8.out.c0
 have z1:=GB8.out.c1
 have z2:=GB8.out.c2
 simp only at z0 z1 z2
 obtain⟨⟨r0,r1,r2⟩,hrf⟩:=HRC.out w8 B8.out
 have rf0:=hrf 0
 have rf1:=hrf 1
 have rf2:=hrf 2
 have h0I: ¬(t.length:Int)=0:=by omega
 have h0N: ¬t= []:=fun q=>h0 (by rw[q];rfl)
 clear hrf
 by_cases hA:N+t.length-1≤40
 ·by_cases hE:(es.length:Int)+t.length≤120
  ·have hok:addOk (g1,N,es) t=true:=decide_eq_true ⟨hA,hE⟩
   have HK:Hid (OK=true∧RES=addG (g1,N,es) a b t):=hD (by have:=HOK.out.trans hok;exact⟨this,by rw[HRES.out,this];rfl⟩)
   clear hok
   obtain⟨n,rfl⟩: ∃n:Nat,N=(n:Int):=⟨N.toNat,by omega⟩
   have hes0:srt cmpE es=es:=srt_self (gr_srt HGR.out)
   have HS0:=hD hes0
   clear hes0
   have h0B:((t.length:Int)==0)=false:=beq_eq_false_iff_ne.2 h0I
   have hA': ¬40<(n:Int)+t.length-1:=by omega
   have hE': ¬120<(es.length:Int)+t.length:=by omega
   go_wp2_with fail
   clear q0 q1 q2 r0 r1 r2 rf0 rf1 rf2 z0 z1 z2 h0I h0N h0B hA' hE'
   go_loopw [11,66] (fun q i wr=> ∃(k:Nat) (L:List EdD) (A2:Option Addr) (c2:Nat),k≤t.length∧i= .int .i64 k∧q= .int .i64 (atP n t.length a b k)∧Hid (L=es++pthL n a b t k)∧L.length=es.length+k∧GBx wr p (w.heap.size+2) A2 c2 (g1,((szP n t.length k:Nat):Int),L)∧Below (w.heap.size+2) W wr) (fun _ i _=>t.length-(intOf i).toNat)
   case atStart=>
    refine⟨0,es,A1,c1,Nat.zero_le _,rfl,rfl,hD ?_,rfl,?_,B8.out⟩
    ·show es=es++ []
     rw[List.append_nil]
    ·exact GB8.out.mono (by omega)
   case round=>
    obtain⟨k,L,A2,c2,hk,rfl,rfl,hL,hLl,hgb,hbr⟩:=hrel
    obtain⟨wk,rfl⟩: ∃wk:World,wk=wr:=⟨_,rfl⟩
    have HGB:=hD hgb
    have HBR:=hD hbr
    have hwk:=hgb.lt
    have z0:=hgb.c0
    have z1:=hgb.c1
    have z2:=hgb.c2
    have zf1:=hgb.fz 1
    have zf2:=hgb.fz 2
    simp only at z0 z1 z2
    clear hgb hbr
    rcases Nat.lt_or_ge k t.length with hlt | hge
    ·have hzz:=wordB_get HW.out k hlt
     obtain⟨bt,off,rfl,hbt,hct⟩:=HY.out.at (by omega)
     have HTC:Hid (∀W',Below (w.heap.size+2) W W'→W'.cell? ⟨bt,off+k,none⟩=some (.int .i64 t[k])):=hD fun W' hb=>((BX.out.trans (hb.mono (by omega))).cell (p:=⟨bt,off+k,none⟩) hbt).trans (hct k hlt)
     have cz:=HTC.out wk HBR.out
     have HPS:Hid (pthL n a b t (k+1)=pthL n a b t k++ [stpE (atP n t.length a b k) t[k] (nxP n t.length b k)]):=hD (by rw[pthL_succ];unfold pthE;rw[getD_at hlt])
     have har:=atP_range (N:=n) (len:=t.length) (j:=k) HA.out HBV.out
     have hnr:=nxP_range (N:=n) (len:=t.length) (j:=k) HBV.out
     have HSZ:=hD (szP_succ (N:=n) hlt)
     have HSK:=hD (fun q=>szP_at (N:=n) (len:=t.length) (j:=k) q)
     have HNX:Hid (nxP n t.length b k=if k+1<t.length then((n+k:Nat):Int) else b):=hD rfl
     have HAT1:Hid (atP n t.length a b (k+1)=nxP n t.length b k):=hD rfl
     generalize t[k]=z at*
     generalize atP n t.length a b k=q at*
     generalize nxP n t.length b k=m at*
     have hz3: -3≤z∧z≤3:=by omega
     obtain⟨e1,e2,e3,hse⟩: ∃e1 e2 e3,stE q z m=(e1,e2,e3):=⟨_,_,_,rfl⟩
     have HSE:Hid (stpE q z m=(e1,e2,e3)):=hD (by rw[←hse];unfold stpE stE;by_cases hh:0<z;rw[if_pos hh,if_neg (by omega)];rw[if_neg hh,if_pos (by omega)])
     have HE64:Hid (E64 (e1,e2,e3)):=hD (by rw[←HSE.out];unfold stpE;split<;>exact⟨⟨by simp only;omega,by simp only;omega⟩,⟨by simp only;omega,by simp only;omega⟩,⟨by simp only;omega,by simp only;omega⟩⟩)
     have HSX:Hid (∀m',m'=m→edV (stE q z m')= .agg #[.int .i64 e1, .int .i64 e2, .int .i64 e3]):=hD fun m' e=>by rw[e,hse];rfl
     have HL:Hid (L++ [(e1,e2,e3)]=es++pthL n a b t (k+1)):=hD (by rw[HPS.out,←List.append_assoc,HSE.out,hL.out])
     clear hct HPS hse
     generalize hs1:szP n t.length k=S1 at*
     have hSb:S1≤n+24:=by rw[←hs1];unfold szP;have:=wordB_len HW.out;omega
     clear hs1
     have hk24:=wordB_len HW.out
     obtain⟨S2,hS2⟩: ∃S,S=szP n t.length (k+1):=⟨_,rfl⟩
     rw[←hS2] at HSZ
     have HS2:=hD hS2
     clear hS2
     have hinc:IntKind.i64.wrap ((S1:Int)+1)=(S1:Int)+1:=by rw[IntKind.wrap_i64];omega
     have hdec:IntKind.i64.wrap ((t.length:Int)-1)=(t.length:Int)-1:=by rw[IntKind.wrap_i64];omega
     have hLb:L.length≤1073741824:=by omega
     have HLN:=hD hLl
     have HKL:=hD hk
     have HZ3:=hD hz3
     have hI2:I64 ((S2:Nat):Int):=by
      have:S2≤S1+1:=by rw[HSZ.out];split<;>omega
      exact⟨by omega,by omega⟩
     have HI2:=hD hI2
     clear hL hLl hzz har hnr hI2 hz3
     have HNX2:Hid ((k+1<t.length→(k:Int)<(t.length:Int)-1)∧(¬k+1<t.length→ ¬(k:Int)<(t.length:Int)-1)):=hD ⟨fun _=>by omega,fun _=>by omega⟩
     by_cases h1:k+1<t.length
     all_goals
      have HHH:=hD h1
      first | (have h1n:=HNX2.out.1 h1) | (have h1n:=HNX2.out.2 h1)
      go_wp2_with fail
      have hk0:=HKL.out
      first
       | (have h1':k+1<t.length:=HHH.out
          obtain⟨wn,hwn⟩: ∃W,W=wk.setCell ⟨p,1,none⟩ (.int .i64 ((S1:Int)+1)):=⟨_,rfl⟩
          rw[←hwn]
          have HM:Hid (m=(S1:Int)):=hD (by rw[HNX.out,if_pos h1'];have:=HSK.out h1';omega)
          have GBN:Hid (GBx wn p (w.heap.size+2) A2 c2 (g1,((S2:Nat):Int),L)):=hD (by
           have e:(S2:Int)=(S1:Int)+1:=by rw[HSZ.out,if_pos h1'];rfl
           have hi:=HI2.out
           rw[e] at hi
           rw[hwn,e]
           exact HGB.out.sz hi)
          have BN:Hid (Below (w.heap.size+2) W wn):=hD (by rw[hwn];exact HBR.out.setCell hpw _)
          clear hwn)
       | (have h1': ¬k+1<t.length:=HHH.out
          obtain⟨wn,rfl⟩: ∃W,W=wk:=⟨_,rfl⟩
          have HM:Hid (m=b):=hD (by rw[HNX.out,if_neg h1'])
          have GBN:Hid (GBx wn p (w.heap.size+2) A2 c2 (g1,((S2:Nat):Int),L)):=hD (by rw[show S2=S1 by rw[HSZ.out,if_neg h1']];exact HGB.out)
          have BN:Hid (Below (w.heap.size+2) W wn):=hD HBR.out)
      clear h1 hk0 z0 z1 z2 cz zf1 zf2 hwk h1n
      have z2:=GBN.out.c2
      simp only at z2
      have hpn:=GBN.out.lt
      refine wp_region_T' (n:=9) (S:=fun w'=>w'.cell? ⟨p,2,none⟩=some (.slice A2 L.length c2)) (by kernel_rfl) (by rfl) z2 (fun hHeld=> ?_)
      (refine wpAnyT_take (n:=9) (i:=0) (v:= ?_) rfl (by kernel_rfl) rfl (by decide) (by kernel_rfl) (by kernel_rfl) (by kernel_rfl) (by kernel_rfl) (fun _ _ _ h=>h) (Or.inl ⟨by rfl,?_⟩) (by assumption) ?_;rotate_left;focus (intro ww hSw;(try dsimp only at hSw);go_simp;try with_reducible rfl);(try simp only[Act.put,List.setIfInBounds_toArray,List.set_cons_zero,List.set_cons_succ]));(refine wpAnyT_take (n:=9) (i:=1) (v:= ?_) rfl (by kernel_rfl) rfl (by decide) (by kernel_rfl) (by kernel_rfl) (by kernel_rfl) (by kernel_rfl) (fun _ _ _ h=>h) (Or.inl ⟨by rfl,?_⟩) (by assumption) ?_;rotate_left;focus (intro ww hSw;(try dsimp only at hSw);go_simp;try with_reducible rfl);(try simp only[Act.put,List.setIfInBounds_toArray,List.set_cons_zero,List.set_cons_succ]));(refine wpAnyT_take (n:=9) (i:=2) (v:= ?_) rfl (by kernel_rfl) rfl (by decide) (by kernel_rfl) (by kernel_rfl) (by kernel_rfl) (by kernel_rfl) (fun _ _ _ h=>h) (Or.inl ⟨by rfl,?_⟩) (by assumption) ?_;rotate_left;focus (intro ww hSw;(try dsimp only at hSw);go_simp;try with_reducible rfl);(try simp only[Act.put,List.setIfInBounds_toArray,List.set_cons_zero,List.set_cons_succ]));(refine wpAnyT_take (n:=9) (i:=3) (v:= ?_) rfl (by kernel_rfl) rfl (by decide) (by kernel_rfl) (by kernel_rfl) (by kernel_rfl) (by kernel_rfl) (fun _ _ _ h=>h) (Or.inl ⟨by rfl,?_⟩) (by assumption) ?_;rotate_left;focus (intro ww hSw;(try dsimp only at hSw);go_simp;try with_reducible rfl);(try simp only[Act.put,List.setIfInBounds_toArray,List.set_cons_zero,List.set_cons_succ]));(refine wpAnyT_take (n:=9) (i:=4) (v:= ?_) rfl (by kernel_rfl) rfl (by decide) (by kernel_rfl) (by kernel_rfl) (by kernel_rfl) (by kernel_rfl) (fun _ _ _ h=>h) (Or.inl ⟨by rfl,?_⟩) (by assumption) ?_;rotate_left;focus (intro ww hSw;(try dsimp only at hSw);go_simp;try with_reducible rfl);(try simp only[Act.put,List.setIfInBounds_toArray,List.set_cons_zero,List.set_cons_succ]))
      refine wpAnyT_step (i:=5) (by kernel_rfl) rfl fun K' hK=> ?_
      go_simp
      refine(step_any _ _ _ _ HZ3.out).mono ?_
      rintro e w10 ⟨rfl,b10⟩
      rw[HSX.out _ HM.out.symm]
      have hw10:wn.heap.size≤w10.heap.size:=b10.size
      have b10':Below wn.heap.size wn w10:=(Below.refl _ _).drew.trans b10
      clear b10
      have z10:w10.cell? ⟨p,2,none⟩=some (.slice A2 L.length c2):=(b10'.cell (p:=⟨p,2,none⟩) hpn).trans z2
      refine hK.out _ _ z10 (fun _=> ?_)
      clear hK hHeld
      refine wpAnyT_step (i:=6) (by kernel_rfl) rfl fun K' hK=> ?_
      go_simp
      have b11:Below w10.heap.size w10 (w10.alloc (Obj.cells #[Value.int IntKind.i64 e1,Value.int IntKind.i64 e2,Value.int IntKind.i64 e3] 54)):=(Below.refl _ _).alloc (Nat.le_refl _) _
      have nE: ∀j u,(edC (e1,e2,e3))[j]? =some u→(w10.alloc (Obj.cells #[Value.int IntKind.i64 e1,Value.int IntKind.i64 e2,Value.int IntKind.i64 e3] 54)).cell? ⟨w10.heap.size,j,none⟩=some u:=fun j u hj=>by
       rcases j with _ | _ | _ | j<;>simp[edC] at hj<;>subst hj<;>simp[go_sem]
      have sV:(w10.alloc (Obj.cells #[Value.int IntKind.i64 e1,Value.int IntKind.i64 e2,Value.int IntKind.i64 e3] 54)).heap.size=w10.heap.size+1:=by simp
      have z11:(w10.alloc (Obj.cells #[Value.int IntKind.i64 e1,Value.int IntKind.i64 e2,Value.int IntKind.i64 e3] 54)).cell? ⟨p,2,none⟩=some (.slice A2 L.length c2):=(b11.cell (p:=⟨p,2,none⟩) (by show p<_;omega)).trans z10
      refine hK.out _ _ z11 (fun _=> ?_)
      clear hK
      generalize w10.alloc (Obj.cells #[Value.int IntKind.i64 e1,Value.int IntKind.i64 e2,Value.int IntKind.i64 e3] 54)=V at b11 nE sV z11⊢
      have bXV:Below wn.heap.size wn V:=b10'.trans (b11.mono hw10)
      have HGV:=hD (GBN.out.below bXV)
      refine wpAnyT_step (i:=7) (by kernel_rfl) rfl fun K' hK=> ?_
      rw[if_pos (by rfl)]
      refine wp_push_edge (.tmp 84) (.tmp 89) rfl (w.heap.size+2) _ L HGV.out.ow rfl w10.heap.size (e1,e2,e3) rfl nE HE64.out hLb (by omega) ?_
      intro v' w' o' g' p'
      obtain⟨A9',c9',rfl,_⟩:=OwE.form o'
      have O9':=hD o'
      have hgs:=g'.size
      clear o'
      have hrow: ∀y,(Value.slice A2 L.length c2).ownBlock=some y→y≠p∧w.heap.size+2≤y:=fun y hy=>⟨GBN.out.ne y hy,(GBN.out.ow.1.lt y hy).1⟩
      have z12:w'.cell? ⟨p,2,none⟩=some (.slice A2 L.length c2):=(World.cell?_of_block (w:=V) (g'.block p (by omega) (fun e=>(hrow p e.symm).1 rfl))).trans z11
      refine hK.out _ _ z12 (fun _=> ?_)
      clear hK
      simp only[Act.put,List.setIfInBounds_toArray,List.set_cons_zero,List.set_cons_succ]
      (refine wpAnyT_take (n:=9) (i:=8) (v:= ?_) rfl (by kernel_rfl) rfl (by decide) (by kernel_rfl) (by kernel_rfl) (by kernel_rfl) (by kernel_rfl) (fun _ _ _ h=>h) (Or.inl ⟨by rfl,?_⟩) (by assumption) ?_;rotate_left;focus (intro ww hSw;(try dsimp only at hSw);go_simp;try with_reducible rfl);(try simp only[Act.put,List.setIfInBounds_toArray,List.set_cons_zero,List.set_cons_succ]))
      have HG12c:=hD (fun j=>((World.frozen?_of_block (w:=V) (g'.block p (by omega) (fun e=>(hrow p e.symm).1 rfl))).trans (HGV.out.fz j):w'.frozen? ⟨p,j,none⟩=false))
      have qf:=HG12c.out 2
      refine wpAnyT_last (n:=9) (by kernel_rfl) rfl (by kernel_rfl) fun K' hK=> ?_
      go_simp
      refine hK.out _ _ ?_
      clear hK
      go_wp2
      have hpV:p<V.heap.size:=by have:=bXV.size;omega
      have hC:CBx w' p (.int .i64 g1) (.int .i64 ((S2:Nat):Int)) (.slice A2 L.length c2):=by
       have hb:=g'.block p hpV (fun e=>(hrow p e.symm).1 rfl)
       exact⟨(World.cell?_of_block (w:=V) hb).trans HGV.out.c0,(World.cell?_of_block (w:=V) hb).trans HGV.out.c1,(World.cell?_of_block (w:=V) hb).trans HGV.out.c2,fun j=>(World.frozen?_of_block (w:=V) hb).trans (HGV.out.fz j),by omega⟩
      have HNE:Hid (∀y,(Value.slice A9' (L++ [(e1,e2,e3)]).length c9').ownBlock=some y→y≠p):=hD fun y hy e=>by
       rcases p' with p' | p'
       ·exact(hrow y (p'.symm.trans hy)).1 e
       ·rw[hy] at p';injection p' with p';omega
      go_roundw
      case rel=>
       exact⟨k+1,L++ [(e1,e2,e3)],A9',c9',by have:=HKL.out;omega,by go_num,by rw[HAT1.out,HM.out],hD HL.out,by rw[List.length_append,HLN.out];rfl,by rw[←HS2.out,show(Value.slice A9' (L.length+1) c9')= .slice A9' (L++ [(e1,e2,e3)]).length c9' by rw[List.length_append];rfl];exact hC.put O9'.out HNE.out HGB.out.i1 HI2.out,((BN.out.trans (bXV.mono (by omega))).grown g' (by omega) fun y hy=>(hrow y hy).2).setCell hpw _⟩
      case measure=>simp[intOf];omega
    ·have hkt:k=t.length:=by omega
     subst hkt
     clear zf1
     have HLN:Hid (L.length≤1073741824):=hD (by omega)
     clear hLl
     go_wp2_with fail
     refine(sortedD_any _ _ _ HGB.out.ow.arg HLN.out).mono ?_
     rintro e' w9 ⟨r9,rfl,o9,b9⟩
     have HG9:=hD (HGB.out.below b9)
     have B9:=hD (HBR.out.trans (b9.mono (by omega)))
     have hs9:=b9.size
     obtain⟨A9,c9,rfl,_⟩:=o9.form
     have O9:=hD o9
     clear o9 b9 z0 z1 z2 zf2
     have HRS:Hid (RES=(g1,((szP n t.length t.length:Nat):Int),srt cmpE L)):=hD (by
      rw[HK.out.2,hL.out]
      show(g1,(((n:Int).toNat+(t.length-1):Nat):Int),srt cmpE (es++pthL (n:Int).toNat a b t t.length))=_
      rw[Int.toNat_natCast,show szP n t.length t.length=n+(t.length-1) by unfold szP;omega])
     generalize srt cmpE L=M at O9 HRS⊢
     generalize szP n t.length t.length=S1 at*
     have HGP:=hD (HG9.out.put O9.out fun y hy=>by have:=(O9.out.1.lt y hy).1;omega)
     have BP:Hid (Below (w.heap.size+2) W (w9.setCell ⟨p,2,none⟩ (.slice A9 M.length c9))):=hD (B9.out.setCell hpw _)
     obtain⟨⟨r0,r1,r2⟩,hrf⟩:=HRC.out w9 B9.out
     have rf0:=hrf 0
     have rf1:=hrf 1
     have rf2:=hrf 2
     have z0:=HG9.out.c0
     have z1:=HG9.out.c1
     have z2:=HG9.out.c2
     have zf2:=HG9.out.fz 2
     simp only at z0 z1 z2
     have hpne:w.heap.size+1≠p:=by omega
     clear hrf
     go_wp2
     clear r0 r1 r2 rf0 rf1 rf2 z0 z1 z2 zf2
     generalize w9.setCell ⟨p,2,none⟩ (.slice A9 M.length c9)=wz at HGP BP⊢
     obtain⟨⟨r0,r1,r2⟩,_⟩:=HRC.out wz BP.out
     obtain⟨e0,e1,e2⟩:=cells3F (.int .i64 g1) (.int .i64 (S1:Int)) (.slice A9 M.length c9) r0 r1 r2
     have bw:=set3_below (.int .i64 g1) (.int .i64 (S1:Int)) (.slice A9 M.length c9) (BX.out.trans (BP.out.mono (by omega))) (show w.heap.size≤w.heap.size+1 by omega)
     have ow:=HGP.out.ow.keep (w':=((wz.setCell ⟨w.heap.size+1,0,none⟩ (.int .i64 g1)).setCell ⟨w.heap.size+1,1,none⟩ (.int .i64 (S1:Int))).setCell ⟨w.heap.size+1,2,none⟩ (.slice A9 M.length c9)) fun y hy=>set3_heap _ _ _ _ _ (by have h1:=(HGP.out.ow.1.lt y hy).1;omega)
     exact bodyPost_ret (v:= .tuple #[.agg #[.int .i64 g1, .int .i64 (S1:Int), .slice A9 M.length c9], .bool true]) (by simp[results,Tryz.results139,go_sem,e0,e1,e2]) rfl ⟨_,by rw[HK.out.1],by rw[HRS.out];exact⟨.slice A9 M.length c9,rfl,hi1,HG9.out.i2,ow.mono (by omega)⟩,bw⟩
  ·have hok:addOk (g1,N,es) t=false:=decide_eq_false fun q=>hE q.2
   have HK:Hid (OK=false∧RES=(g1,N,es)):=hD (by have:=HOK.out.trans hok;exact⟨this,by rw[HRES.out,this];rfl⟩)
   clear hok
   go_wp2
   obtain⟨e0,e1,e2⟩:=cells3F (.int .i64 g1) (.int .i64 N) (.slice A1 es.length c1) r0 r1 r2
   have bw:Below w.heap.size w (((w8.setCell ⟨w.heap.size+1,0,none⟩ (.int .i64 g1)).setCell ⟨w.heap.size+1,1,none⟩ (.int .i64 N)).setCell ⟨w.heap.size+1,2,none⟩ (.slice A1 es.length c1)):=set3_below _ _ _ (BX.out.trans (B8.out.mono (by omega))) (by omega)
   have ow:OwE (((w8.setCell ⟨w.heap.size+1,0,none⟩ (.int .i64 g1)).setCell ⟨w.heap.size+1,1,none⟩ (.int .i64 N)).setCell ⟨w.heap.size+1,2,none⟩ (.slice A1 es.length c1)) W.heap.size (.slice A1 es.length c1) es:=GB8.out.ow.keep fun b hb=>set3_heap _ _ _ _ _ (by have:=(GB8.out.ow.1.lt b hb).1;omega)
   exact bodyPost_ret (v:= .tuple #[.agg #[.int .i64 g1, .int .i64 N, .slice A1 es.length c1], .bool false]) (by simp[results,Tryz.results139,go_sem,e0,e1,e2]) rfl ⟨_,by rw[HK.out.1],by rw[HK.out.2];exact⟨.slice A1 es.length c1,rfl,hi1,hi2,ow.mono (by omega)⟩,bw⟩
 ·have hok:addOk (g1,N,es) t=false:=decide_eq_false fun q=>hA q.1
  have HK:Hid (OK=false∧RES=(g1,N,es)):=hD (by have:=HOK.out.trans hok;exact⟨this,by rw[HRES.out,this];rfl⟩)
  clear hok
  go_wp2
  obtain⟨e0,e1,e2⟩:=cells3F (.int .i64 g1) (.int .i64 N) (.slice A1 es.length c1) r0 r1 r2
  have bw:Below w.heap.size w (((w8.setCell ⟨w.heap.size+1,0,none⟩ (.int .i64 g1)).setCell ⟨w.heap.size+1,1,none⟩ (.int .i64 N)).setCell ⟨w.heap.size+1,2,none⟩ (.slice A1 es.length c1)):=set3_below _ _ _ (BX.out.trans (B8.out.mono (by omega))) (by omega)
  have ow:OwE (((w8.setCell ⟨w.heap.size+1,0,none⟩ (.int .i64 g1)).setCell ⟨w.heap.size+1,1,none⟩ (.int .i64 N)).setCell ⟨w.heap.size+1,2,none⟩ (.slice A1 es.length c1)) W.heap.size (.slice A1 es.length c1) es:=GB8.out.ow.keep fun b hb=>set3_heap _ _ _ _ _ (by have:=(GB8.out.ow.1.lt b hb).1;omega)
  exact bodyPost_ret (v:= .tuple #[.agg #[.int .i64 g1, .int .i64 N, .slice A1 es.length c1], .bool false]) (by simp[results,Tryz.results139,go_sem,e0,e1,e2]) rfl ⟨_,by rw[HK.out.1],by rw[HK.out.2];exact⟨.slice A1 es.length c1,rfl,hi1,hi2,ow.mono (by omega)⟩,bw⟩
end Go.Proofs.YtfadnkjlilhneaaGreat
namespace Go.Proofs.YtfadnkjlilhneaaGreat
set_option maxRecDepth 20000
set_option linter.unusedVariables false
set_option linter.unusedSimpArgs false
open Go.RowKit
def Lt3 (x:Int):Prop:= -3≤x∧x≤3∧x≠0
theorem Lt3.neg {x:Int} (h:Lt3 x):Lt3 (-x):=⟨by have:=h.2.1;omega,by have:=h.1;omega,by have:=h.2.2;omega⟩
theorem Lt3.b3 {x:Int} (h:Lt3 x): -3≤x∧x≤3:=⟨h.1,h.2.1⟩
theorem Lt3.inv {l x:Int} (h:Lt3 l):invB l x=true↔x= -l:=by
 unfold invB
 have:=h.1;have:=h.2.2
 simp
 omega
section
variable {g:GrD} (hg:grB g=true) (hf:Fol g.2.2)
include hg
include hf
omit hf
include hf
end
end Go.Proofs.YtfadnkjlilhneaaGreat
namespace Go.Proofs.YtfadnkjlilhneaaGreat
set_option maxRecDepth 20000
set_option linter.unusedVariables false
set_option linter.unusedSimpArgs false
open Go.RowKit
theorem wordB_lt3 {r:Int} {t:List Int} (h:wordB r t=true): ∀x∈t,Lt3 x:=fun x hx=>by
 obtain⟨i,hi,rfl⟩:=List.mem_iff_getElem.1 hx
 have h1:=wordB_get h i hi
 have h2:=wordB_rank h
 exact⟨by omega,by omega,by omega⟩
theorem wordB_inv {r:Int} {t:List Int} (h:wordB r t=true) {i:Nat} (hi:i+1<t.length):t[i+1]≠ -t[i]:=fun e=>by
 have h1:=wordB_ok h (i+1) hi
 have h2:=wordB_lt3 h t[i] (by simp)
 unfold okAt at h1
 rw[Bool.and_eq_true,Bool.not_eq_true',Bool.and_eq_false_iff] at h1
 rcases h1.2 with q | q
 ·simp at q
 ·rw[show i+1-1=i by omega,getD_at (by omega),getD_at hi,(Lt3.inv h2).2 e] at q
  cases q
theorem wordB_drop {r:Int} {t:List Int} (h:wordB r t=true) (n:Nat):wordB r (t.drop n)=true:=by
 refine wordB_true ?_ (by have:=wordB_len h;simp;omega) fun i hi=> ?_
 ·have:=wordB_rank h
  exact inB_iff.2 this
 ·rw[List.length_drop] at hi
  have h1:=wordB_ok h (n+i) (by omega)
  unfold okAt at h1⊢
  rw[Bool.and_eq_true] at h1⊢
  rw[getD_at (by omega)] at h1
  rw[getD_at (by simp;omega),List.getElem_drop]
  refine⟨h1.1,?_⟩
  rcases Nat.eq_zero_or_pos i with rfl | h0
  ·rfl
  ·rw[getD_at (by simp;omega),List.getElem_drop]
   have h2:=h1.2
   rw[getD_at (by omega)] at h2
   have e:n+(i-1)=n+i-1:=by omega
   simp only[e,decide_eq_true h0,decide_eq_true (show 0<n+i by omega)] at h2⊢
   exact h2
def hE (e:EdD) (p x:Int):Prop:=(e.1=p∧e.2.1=x)∨(e.2.2=p∧e.2.1= -x)
theorem fol_half {L:List EdD} (h: ∀a∈L,∀b∈L,∀p x,hE a p x→hE b p x→a=b):Fol (srt cmpE L):=by
 have hsp:=srt_spec cmpE_ord L
 unfold Fol
 refine hsp.1.imp_of_mem fun {a b} ha hb hab=> ?_
 have hne:a≠b:=fun e=>by
  rw[e,cmpE_zero.2 rfl] at hab
  omega
 rw[Bool.eq_false_iff]
 intro hc
 unfold clash at hc
 simp only[Bool.and_eq_true,Bool.or_eq_true,beq_iff_eq] at hc
 obtain⟨hl,hor⟩:=hc
 rcases hor with q | q
 ·exact hne (h a ((hsp.2 a).1 ha) b ((hsp.2 b).1 hb) a.1 a.2.1 (.inl ⟨rfl,rfl⟩) (.inl ⟨q.symm,hl.symm⟩))
 ·exact hne (h a ((hsp.2 a).1 ha) b ((hsp.2 b).1 hb) a.2.2 (-a.2.1) (.inr ⟨rfl,by omega⟩) (.inr ⟨q.symm,by omega⟩))
theorem half_read {g:GrD} (hf:foldB g=true) {e:EdD} (he:e∈g.2.2) {p x:Int} (h:hE e p x):0≤nextV g.2.2 p x∧(0≤p∧p<g.2.1):=by
 obtain⟨h1,h2⟩:=foldB_parts hf
 have hr:=edge_of_gr h1 he
 rcases h with ⟨rfl,rfl⟩ | ⟨rfl,q⟩
 ·rw[nextV_out h1 h2 he];omega
 ·rw[show x= -e.2.1 by omega,nextV_in h1 h2 he];omega
theorem half_one {g:GrD} (hf:foldB g=true) {a b:EdD} (ha:a∈g.2.2) (hb:b∈g.2.2) {p x:Int} (h:hE a p x) (h':hE b p x):a=b:=by
 obtain⟨h1,h2⟩:=foldB_parts hf
 have hra:=edge_of_gr h1 ha
 have hrb:=edge_of_gr h1 hb
 rcases h with ⟨q1,q2⟩ | ⟨q1,q2⟩<;>rcases h' with ⟨q3,q4⟩ | ⟨q3,q4⟩
 ·have e1:=nextV_out h1 h2 ha
  have e2:=nextV_out h1 h2 hb
  rw[q1,q2] at e1
  rw[q3,q4] at e2
  exact Prod.ext (q1.trans q3.symm) (Prod.ext (q2.trans q4.symm) (e1.symm.trans e2))
 ·omega
 ·omega
 ·have e1:=nextV_in h1 h2 ha
  have e2:=nextV_in h1 h2 hb
  rw[q1,show-a.2.1=x by omega] at e1
  rw[q3,show-b.2.1=x by omega] at e2
  exact Prod.ext (e1.symm.trans e2) (Prod.ext (q2.trans q4.symm) (q1.trans q3.symm))
theorem stp_half {u x v p y:Int} (hx:x≠0):hE (stpE u x v) p y↔(p=u∧y=x)∨(p=v∧y= -x):=by
 unfold hE stpE
 by_cases h:0<x
 ·rw[if_pos h];simp only;omega
 ·rw[if_neg h];simp only;omega
section
variable {g:GrD} {u v:Int} {t:List Int}
theorem pth_mem {N:Nat} {e:EdD}:e∈pthL N u v t t.length↔ ∃j,j<t.length∧e=pthE N u v t j:=by
 unfold pthL
 rw[List.mem_map]
 exact⟨fun ⟨j,h1,h2⟩=>⟨j,List.mem_range.1 h1,h2.symm⟩,fun ⟨j,h1,h2⟩=>⟨j,List.mem_range.2 h1,h2.symm⟩⟩
theorem addOk_parts (h:addOk g t=true):g.2.1+t.length-1≤40∧(g.2.2.length:Int)+t.length≤120:=by
 unfold addOk at h
 exact of_decide_eq_true h
theorem pth_range (hg:grB g=true) (hu:0≤u∧u<g.2.1) (hv:0≤v∧v<g.2.1) (hw:wordB g.1 t=true) (h0:t.length≠0) {e:EdD} (he:e∈pthL g.2.1.toNat u v t t.length):
  (0≤e.1∧e.1<g.2.1+t.length-1)∧(1≤e.2.1∧e.2.1≤g.1)∧(0≤e.2.2∧e.2.2<g.2.1+t.length-1):=by
 obtain⟨j,hj,rfl⟩:=pth_mem.1 he
 have hN:=(grB_parts hg).2.1
 have hx:=wordB_get hw j hj
 have ha:0≤atP g.2.1.toNat t.length u v j∧atP g.2.1.toNat t.length u v j<g.2.1+t.length-1:=by
  cases j with
  | zero=>show 0≤u∧u<_;omega
  | succ j=>rw[atP_succ];unfold nxP;split<;>omega
 have hn:0≤nxP g.2.1.toNat t.length v j∧nxP g.2.1.toNat t.length v j<g.2.1+t.length-1:=by
  unfold nxP;split<;>omega
 unfold pthE stpE
 rw[getD_at hj]
 split<;>(simp only;omega)
theorem addG_gr (hg:grB g=true) (hu:0≤u∧u<g.2.1) (hv:0≤v∧v<g.2.1) (hw:wordB g.1 t=true) (h0:t.length≠0) (hok:addOk g t=true):grB (addG g u v t)=true:=by
 obtain⟨k1,k2⟩:=addOk_parts hok
 obtain⟨h1,h2,h3,_⟩:=grB_parts hg
 have hsp:=srt_spec cmpE_ord (g.2.2++pthL g.2.1.toNat u v t t.length)
 have hs:(addG g u v t).2.1=g.2.1+t.length-1:=by unfold addG;simp only;omega
 refine grB_of h1 (by rw[hs];omega) ?_ hsp.1 fun e he=> ?_
 ·have:=srt_len (c:=cmpE) (g.2.2++pthL g.2.1.toNat u v t t.length)
  rw[List.length_append,pthL_len] at this
  show(srt cmpE (g.2.2++pthL g.2.1.toNat u v t t.length)).length≤120
  omega
 ·rw[hs]
  rcases List.mem_append.1 ((hsp.2 e).1 he) with q | q
  ·have:=edge_of_gr hg q
   exact⟨by omega,this.2.1,by omega⟩
  ·exact pth_range hg hu hv hw h0 q
theorem at_inj (hu:0≤u∧u<g.2.1) {j k:Nat} (hj:j<t.length) (hk:k<t.length) (h:atP g.2.1.toNat t.length u v j=atP g.2.1.toNat t.length u v k):j=k:=by
 cases j with
 | zero=>
   cases k with
   | zero=>rfl
   | succ k=>
     rw[atP_succ,atP_zero,nxP,if_pos hk] at h
     omega
 | succ j=>
   cases k with
   | zero=>
     rw[atP_succ,atP_zero,nxP,if_pos hj] at h
     omega
   | succ k=>
     rw[atP_succ,atP_succ,nxP,nxP,if_pos hj,if_pos hk] at h
     omega
theorem nx_inj (hv:0≤v∧v<g.2.1) {j k:Nat} (hj:j<t.length) (hk:k<t.length) (h:nxP g.2.1.toNat t.length v j=nxP g.2.1.toNat t.length v k):j=k:=by
 unfold nxP at h
 split at h<;>split at h<;>omega
theorem addG_fold (hf:foldB g=true) (hu:0≤u∧u<g.2.1) (hv:0≤v∧v<g.2.1) (hw:wordB g.1 t=true) (h0:t.length≠0) (hok:addOk g t=true)
  (hnu:nextV g.2.2 u (t[0]'(by omega))<0) (hnv:nextV g.2.2 v (-(t[t.length-1]'(by omega)))<0) (huv:u=v→t[0]'(by omega)≠ -(t[t.length-1]'(by omega))):foldB (addG g u v t)=true:=by
 have hg:=(foldB_parts hf).1
 have hN:=(grB_parts hg).2.1
 unfold foldB
 rw[addG_gr hg hu hv hw h0 hok,Bool.true_and,decide_eq_true_eq]
 refine fol_half fun a ha b hb p x h h'=> ?_
 have old: ∀j,(hj:j<t.length)→ ∀e∈g.2.2,hE (pthE g.2.1.toNat u v t j) p x→hE e p x→False:=fun j hj e he h h'=>by
  have hr:=half_read hf he h'
  have hx:=wordB_get hw j hj
  unfold pthE at h
  rw[getD_at hj] at h
  rcases(stp_half hx.1).1 h with ⟨q1,q2⟩ | ⟨q1,q2⟩
  ·cases j with
   | zero=>
     have:atP g.2.1.toNat t.length u v 0=u:=rfl
     rw[q1,q2,this] at hr
     omega
   | succ j=>
     rw[atP_succ,nxP,if_pos hj] at q1
     omega
  ·unfold nxP at q1
   split at q1
   ·omega
   ·obtain rfl:j=t.length-1:=by omega
    rw[q1,q2] at hr
    omega
 have mix: ∀j k,(hj:j<t.length)→(hk:k<t.length)→p=atP g.2.1.toNat t.length u v j→x=t[j]→p=nxP g.2.1.toNat t.length v k→x= -t[k]→False:=fun j k hj hk e1 e2 e3 e4=>by
  cases j with
  | zero=>
    have:atP g.2.1.toNat t.length u v 0=u:=rfl
    rw[this] at e1
    unfold nxP at e3
    split at e3
    ·omega
    ·obtain rfl:k=t.length-1:=by omega
     exact huv (by omega) (by rw[←e2,e4])
  | succ j=>
    rw[atP_succ,nxP,if_pos hj] at e1
    unfold nxP at e3
    split at e3
    ·obtain rfl:k=j:=by omega
     exact wordB_inv hw hj (by rw[←e2,e4])
    ·omega
 rcases List.mem_append.1 ha with qa | qa<;>rcases List.mem_append.1 hb with qb | qb
 ·exact half_one hf qa qb h h'
 ·obtain⟨j,hj,rfl⟩:=pth_mem.1 qb
  exact(old j hj a qa h' h).elim
 ·obtain⟨j,hj,rfl⟩:=pth_mem.1 qa
  exact(old j hj b qb h h').elim
 ·obtain⟨j,hj,rfl⟩:=pth_mem.1 qa
  obtain⟨k,hk,rfl⟩:=pth_mem.1 qb
  have xj:=wordB_get hw j hj
  have xk:=wordB_get hw k hk
  unfold pthE at h h'
  rw[getD_at hj] at h
  rw[getD_at hk] at h'
  rcases(stp_half xj.1).1 h with ⟨q1,q2⟩ | ⟨q1,q2⟩<;>rcases(stp_half xk.1).1 h' with ⟨q3,q4⟩ | ⟨q3,q4⟩
  ·rw[at_inj hu hj hk (q1.symm.trans q3)]
  ·exact(mix j k hj hk q1 q2 q3 q4).elim
  ·exact(mix k j hk hj q3 q4 q1 q2).elim
  ·rw[nx_inj hv hj hk (q1.symm.trans q3)]
end
end Go.Proofs.YtfadnkjlilhneaaGreat
namespace Go.Proofs.YtfadnkjlilhneaaGreat
set_option maxRecDepth 20000
set_option linter.unusedVariables false
set_option linter.unusedSimpArgs false
open Go.RowKit
set_option maxHeartbeats 1000000 in
theorem implRankOf_any (v:Value) (g:GrD) (w:World) (h:ArgG w v g):
  Calls Tryz.prog 46 #[v] w fun e w'=>e= .returned (.int .i64 (rankF g))∧Below w.heap.size w w':=by
 have HG:=hD h
 obtain⟨s,rfl,hi1,hi2,ha⟩:=h
 obtain⟨A,cap,rfl,hcap,hm,_⟩:=ha
 have HP:Hid (coreB g=true→g.2.1≤40∧1≤g.2.1∧g.2.2.length≤120):=hD fun e=>by
  obtain⟨_,h1,h2,_⟩:=grB_parts (coreB_grB e)
  exact⟨h1.2,h1.1,h2⟩
 have HR:Hid (rankF g=if coreB g then(g.2.2.length:Int)-g.2.1+1 else-1):=hD rfl
 generalize rankF g=rk at*
 go_enter Tryz.func46,Tryz.ntmps46
 go_wp2_with fail
 have bx:Below w.heap.size w (w.alloc (Obj.cells #[Value.int IntKind.i64 g.1,Value.int IntKind.i64 g.2.1, .slice A g.2.2.length cap] 31)):=(by repeat(first | exact Below.refl _ _ | (refine Below.setCell ?_ (by first | omega | (simp<;>omega)) _) | (refine bel_drewN ?_ _) | (refine Below.drew ?_) | (refine Below.alloc ?_ (by first | omega | (simp<;>omega)) _)))
 have l1:(w.alloc (Obj.cells #[Value.int IntKind.i64 g.1,Value.int IntKind.i64 g.2.1, .slice A g.2.2.length cap] 31)).cell? ⟨w.heap.size,1,none⟩=some (.int .i64 g.2.1):=by simp[go_sem]
 have l2:(w.alloc (Obj.cells #[Value.int IntKind.i64 g.1,Value.int IntKind.i64 g.2.1, .slice A g.2.2.length cap] 31)).cell? ⟨w.heap.size,2,none⟩=some (.slice A g.2.2.length cap):=by simp[go_sem]
 have sA:w.heap.size<(w.alloc (Obj.cells #[Value.int IntKind.i64 g.1,Value.int IntKind.i64 g.2.1, .slice A g.2.2.length cap] 31)).heap.size:=by simp
 have ax:=HG.out.below bx
 generalize w.alloc (Obj.cells #[Value.int IntKind.i64 g.1,Value.int IntKind.i64 g.2.1, .slice A g.2.2.length cap] 31)=W at bx l1 l2 sA ax⊢
 refine(implIsCore_any _ g _ ax).mono ?_
 rintro e w1 ⟨rfl,b1⟩
 have B2:=hD (bx.trans (b1.mono bx.size))
 have c1:=(b1.cell (p:=⟨w.heap.size,1,none⟩) sA).trans l1
 have c2:=(b1.cell (p:=⟨w.heap.size,2,none⟩) sA).trans l2
 clear b1 bx l1 l2 ax
 rcases e1:coreB g with _ | _
 ·have HR2:Hid (rk= -1):=hD (by rw[HR.out,e1];rfl)
  clear e1
  go_wp2
  exact bodyPost_ret (v:= .int .i64 (-1)) (by simp[results,Tryz.results46]) rfl ⟨by rw[HR2.out],B2.out⟩
 ·obtain⟨p1,p2,p3⟩:=HP.out e1
  have HR2:Hid (rk=(g.2.2.length:Int)-g.2.1+1):=hD (by rw[HR.out,e1,if_pos rfl])
  clear e1
  go_wp2
  exact bodyPost_ret (v:= .int .i64 ((g.2.2.length:Int)-g.2.1+1)) (by simp[results,Tryz.results46];try(go_num)) rfl ⟨by rw[HR2.out],B2.out⟩
end Go.Proofs.YtfadnkjlilhneaaGreat
namespace Go.Proofs.YtfadnkjlilhneaaGreat
set_option maxRecDepth 20000
set_option linter.unusedVariables false
set_option linter.unusedSimpArgs false
open Go.RowKit
section
variable {g:GrD} {t:List Int}
theorem read_take (es:List EdD): ∀(w:List Int) (v:Int),0≤v→walkF es v (w.take (readF es v w).2)=(readF es v w).1∧0≤(readF es v w).1
 | [],v,hv=>⟨rfl,hv⟩
 | x::w,v,hv=>by
   unfold readF
   by_cases h:nextV es v x<0
   ·rw[if_pos h];exact⟨rfl,hv⟩
   ·rw[if_neg h]
    simp only[List.take_succ_cons]
    rw[walkF_cons,if_neg h]
    exact read_take es w _ (by omega)
theorem read_range (hg:grB g=true): ∀(w:List Int) (v:Int),0≤v∧v<g.2.1→0≤(readF g.2.2 v w).1∧(readF g.2.2 v w).1<g.2.1
 | [],v,hv=>hv
 | x::w,v,hv=>by
   unfold readF
   by_cases h:nextV g.2.2 v x<0
   ·rw[if_pos h];exact hv
   ·rw[if_neg h]
    exact read_range hg w _ (by rcases nextV_range hg v x with q | q<;>omega)
theorem read_stop (es:List EdD): ∀(w:List Int) (v:Int) (h:(readF es v w).2<w.length),nextV es (readF es v w).1 w[(readF es v w).2]<0
 | [],v,h=>absurd h (by simp)
 | x::w,v,h=>by
   by_cases q:nextV es v x<0
   ·have e:readF es v (x::w)=(v,0):=by unfold readF;rw[if_pos q]
    simp only[e]
    exact q
   ·have e:readF es v (x::w)=((readF es (nextV es v x) w).1,(readF es (nextV es v x) w).2+1):=by rw[readF,if_neg q]
    rw[e] at h
    simp only[e]
    exact read_stop es w _ (by simpa using h)
def hairX (g:GrD):GrD:=(g.1,g.2.1+1,g.2.2)
theorem hairX_fold (hf:foldB g=true) (h:g.2.1<40):foldB (hairX g)=true:=by
 obtain⟨h1,h2⟩:=foldB_parts hf
 obtain⟨k1,k2,k3,_⟩:=grB_parts h1
 unfold foldB
 rw[grB_of (g:=hairX g) k1 (by show 1≤g.2.1+1∧g.2.1+1≤40;omega) k3 (show Srt cmpE g.2.2 from gr_srt h1) fun e he=>by have:=edge_of_gr h1 he;show(0≤e.1∧e.1<g.2.1+1)∧(1≤e.2.1∧e.2.1≤g.1)∧(0≤e.2.2∧e.2.2<g.2.1+1);omega,Bool.true_and,decide_eq_true_eq]
 exact h2
theorem hairX_no (hf:foldB g=true) (x:Int):nextV g.2.2 g.2.1 x<0:=by
 rcases Int.lt_or_le (nextV g.2.2 g.2.1 x) 0 with h | h
 ·exact h
 ·exfalso
  obtain⟨e,he,hm⟩:=nextV_mem h
  have hr:=edge_of_gr (foldB_parts hf).1 he
  unfold mt at hm
  split at hm
  ·split at hm
   ·rename_i q;omega
   ·cases hm
  ·split at hm
   ·split at hm
    ·rename_i q;omega
    ·cases hm
   ·cases hm
def cjY (g:GrD) (t:List Int):GrD:=addG (hairX g) (readF g.2.2 0 t).1 g.2.1 (t.drop (readF g.2.2 0 t).2)
theorem cjY_fold (hf:foldB g=true) (hw:wordB g.1 t=true) (hn:(readF g.2.2 0 t).2<t.length) (h40:g.2.1<40) (hok:addOk (hairX g) (t.drop (readF g.2.2 0 t).2)=true):foldB (cjY g t)=true:=by
 have hg:=(foldB_parts hf).1
 have hN:=(grB_parts hg).2.1
 have hr:=read_range hg t 0 (by omega)
 refine addG_fold (hairX_fold hf h40) (by show _∧_<g.2.1+1;omega) (by show _∧_<g.2.1+1;omega) (wordB_drop hw _) (by simp;omega) hok ?_ (hairX_no hf _) (fun e=>by omega)
 rw[List.getElem_drop]
 show nextV g.2.2 _ _<0
 simpa using read_stop g.2.2 t 0 hn
theorem cjY_size (h:0≤g.2.1):g.2.1<(cjY g t).2.1:=by
 show g.2.1<(((hairX g).2.1.toNat+((t.drop (readF g.2.2 0 t).2).length-1):Nat):Int)
 have:(hairX g).2.1=g.2.1+1:=rfl
 omega
def conjF (g:GrD) (t:List Int):GrD×Bool:=
 if coreB g=true∧wordB g.1 t=true then
  (if(readF g.2.2 0 t).2=t.length then(movG g (readF g.2.2 0 t).1.toNat,true)
   else if g.2.1<40∧addOk (hairX g) (t.drop (readF g.2.2 0 t).2)=true then(movG (cjY g t) g.2.1.toNat,true) else((0,0,[]),false))
 else((0,0,[]),false)
def dclF (a b:GrD) (t:List Int):Int:=if(conjF b t).2=true∧(intF a (conjF b t).1).2=true then rankF (intF a (conjF b t).1).1 else-1
end
theorem CBx.fin {w wk:World} {B p base:Nat} {x y z a b s:Value} {es:List EdD} (h:CBx wk p x y z) (hb:Below B w wk) (hp:B≤p) (o:OwE wk base s es) (hn: ∀b,s.ownBlock=some b→b≠p):
  (((wk.setCell ⟨p,0,none⟩ a).setCell ⟨p,1,none⟩ b).setCell ⟨p,2,none⟩ s).cell? ⟨p,0,none⟩=some a∧(((wk.setCell ⟨p,0,none⟩ a).setCell ⟨p,1,none⟩ b).setCell ⟨p,2,none⟩ s).cell? ⟨p,1,none⟩=some b∧(((wk.setCell ⟨p,0,none⟩ a).setCell ⟨p,1,none⟩ b).setCell ⟨p,2,none⟩ s).cell? ⟨p,2,none⟩=some s∧
    Below B w (((wk.setCell ⟨p,0,none⟩ a).setCell ⟨p,1,none⟩ b).setCell ⟨p,2,none⟩ s)∧OwE (((wk.setCell ⟨p,0,none⟩ a).setCell ⟨p,1,none⟩ b).setCell ⟨p,2,none⟩ s) base s es:=by
 obtain⟨e0,e1,e2⟩:=cells3F a b s h.c0 h.c1 h.c2
 exact⟨e0,e1,e2,set3_below _ _ _ hb hp,o.keep fun y hy=>set3_heap _ _ _ _ _ (hn y hy)⟩
set_option maxHeartbeats 1000000 in
theorem readLength_any (v vw:Value) (g:GrD) (u:Int) (ws:List Int) (w:World) (h:ArgG w v g) (hw:RdI w vw ws) (hf:foldB g=true) (hu:0≤u∧u<g.2.1):
  Calls Tryz.prog 113 #[v, .int .i64 u,vw] w fun e w'=>e= .returned (.int .i64 ((readF g.2.2 u ws).2:Nat))∧Below w.heap.size w w':=by
 have HG:=hD h
 have HW:=hD hw
 have HF:=hD hf
 obtain⟨hg,hfol⟩:=foldB_parts hf
 have ONE:=hD (steps_one hfol)
 obtain⟨hr13,hsz40,hl120,_⟩:=grB_parts hg
 have NV:Hid (∀v x,nextV g.2.2 v x= -1∨(0≤nextV g.2.2 v x∧nextV g.2.2 v x<g.2.1)):=hD fun v x=>nextV_range hg v x
 have hin:inB u 0 (wrap64 (g.2.1-1))=true:=by
  rw[IntWalk.wrap64_in _ ⟨by omega,by omega⟩]
  exact inB_iff.2 ⟨hu.1,by omega⟩
 have hsub:IntKind.i64.wrap (g.2.1-1)=g.2.1-1:=by rw[IntKind.wrap_i64];omega
 have hin':inB u 0 (g.2.1-1)=true:=inB_iff.2 ⟨hu.1,by omega⟩
 have HIN:=hD hin
 have HIN2:=hD hin'
 obtain⟨s,rfl,hi1,hi2,ha⟩:=h
 obtain⟨A,cap,rfl⟩:=ha.form
 obtain⟨Aw,capw,rfl,hcw,hmw,_⟩:=hw.arg
 unfold maxLen at hmw
 clear hf hg hfol ha hw hin hin'
 have HR:Hid ((readF g.2.2 u ws).2=0+(readF g.2.2 u (ws.drop 0)).2):=hD (by rw[List.drop_zero,Nat.zero_add])
 generalize (readF g.2.2 u ws).2=R at*
 go_enter Tryz.func113,Tryz.ntmps113
 go_wp2_with fail
 have bx:Below w.heap.size w (w.alloc (Obj.cells #[Value.int IntKind.i64 g.1,Value.int IntKind.i64 g.2.1, .slice A g.2.2.length cap] 31)):=(by repeat(first | exact Below.refl _ _ | (refine Below.setCell ?_ (by first | omega | (simp<;>omega)) _) | (refine bel_drewN ?_ _) | (refine Below.drew ?_) | (refine Below.alloc ?_ (by first | omega | (simp<;>omega)) _)))
 have l0:(w.alloc (Obj.cells #[Value.int IntKind.i64 g.1,Value.int IntKind.i64 g.2.1, .slice A g.2.2.length cap] 31)).cell? ⟨w.heap.size,0,none⟩=some (.int .i64 g.1):=by simp[go_sem]
 have l1:(w.alloc (Obj.cells #[Value.int IntKind.i64 g.1,Value.int IntKind.i64 g.2.1, .slice A g.2.2.length cap] 31)).cell? ⟨w.heap.size,1,none⟩=some (.int .i64 g.2.1):=by simp[go_sem]
 have l2:(w.alloc (Obj.cells #[Value.int IntKind.i64 g.1,Value.int IntKind.i64 g.2.1, .slice A g.2.2.length cap] 31)).cell? ⟨w.heap.size,2,none⟩=some (.slice A g.2.2.length cap):=by simp[go_sem]
 have sA:w.heap.size<(w.alloc (Obj.cells #[Value.int IntKind.i64 g.1,Value.int IntKind.i64 g.2.1, .slice A g.2.2.length cap] 31)).heap.size:=by simp
 generalize w.alloc (Obj.cells #[Value.int IntKind.i64 g.1,Value.int IntKind.i64 g.2.1, .slice A g.2.2.length cap] 31)=W at bx l0 l1 l2 sA⊢
 have BX:=hD bx
 have HA:Hid (∀w',Below W.heap.size W w'→ArgG w' (.agg #[.int .i64 g.1, .int .i64 g.2.1, .slice A g.2.2.length cap]) g):=hD fun w' hb=>HG.out.below (BX.out.trans (hb.mono (by omega)))
 have hif:=specIsFolded_any _ g W (HA.out _ (Below.refl _ _))
 rw[HF.out] at hif
 have HIF:=hD hif
 clear bx hif
 refine HIF.out.mono ?_
 rintro e w1 ⟨rfl,b1⟩
 have q0:=(b1.cell (p:=⟨w.heap.size,0,none⟩) sA).trans l0
 have q1:=(b1.cell (p:=⟨w.heap.size,1,none⟩) sA).trans l1
 have q2:=(b1.cell (p:=⟨w.heap.size,2,none⟩) sA).trans l2
 have BW:=hD b1
 have L0:=hD l0
 have L1:=hD l1
 have L2:=hD l2
 clear b1 HIF l0 l1 l2
 go_wp2_with fail
 refine(l1In_any _ _ _ _).mono ?_
 rintro e w2 ⟨rfl,rfl⟩
 simp only[HIN2.out]
 go_wp2
 go_loopw [1,7] (fun a i wr=> ∃(k:Nat) (u':Int),k≤ws.length∧i= .int .i64 k∧a= .int .i64 u'∧(0≤u'∧u'<g.2.1)∧R=k+(readF g.2.2 u' (ws.drop k)).2∧Below W.heap.size W wr) (fun _ i _=>ws.length-(intOf i).toNat)
 case atStart=>exact⟨0,u,Nat.zero_le _,rfl,rfl,hu,HR.out,BW.out⟩
 case round=>
  obtain⟨k,u',hk,rfl,rfl,hu',hR,hbel⟩:=hrel
  have HB:=hD hbel
  have HRk:=hD hR
  have hs:=hbel.size
  have q0:=(hbel.cell (p:=⟨w.heap.size,0,none⟩) sA).trans L0.out
  have q1:=(hbel.cell (p:=⟨w.heap.size,1,none⟩) sA).trans L1.out
  have q2:=(hbel.cell (p:=⟨w.heap.size,2,none⟩) sA).trans L2.out
  have hwr:w.heap.size<wr.heap.size:=by omega
  by_cases hlt:k<ws.length
  ·have HRW:=hD (HW.out.below (BX.out.trans (hbel.mono (by omega))))
   obtain⟨bw,offw,rfl,hbw,hcw2⟩:=HRW.out.at (by omega)
   have c0:=hcw2 k hlt
   have ST:=hD (readF_step g.2.2 u' ws k hlt)
   generalize ws[k]=x at c0 ST
   have NX:=hD (NV.out u' x)
   have HNX:=hD (fun W' (h:ArgG W' (.agg #[.int .i64 g.1, .int .i64 g.2.1, .slice A g.2.2.length cap]) g)=>specNextVertex_any _ g u' x W' h (ONE.out u' x))
   clear hbel hR hcw2
   go_wp2_with fail
   have f0:=BelW.cell q0 hwr
   have f1:=BelW.cell q1 hwr
   have f2:=BelW.cell q2 hwr
   have f3:=BelW.cell c0 hbw
   (refine wp_region_quiet_bel (by kernel_rfl) (by kernel_rfl) ?_;(repeat(go_big_quiet_step (first | (go_at_call 58;exact Calls.bel_of (HNX.out _ (HA.out _ (HB.out.trans ((BelW.h _).mono (by omega)))))))));refine wpQuiet_nil ?_;intro wq hw';obtain⟨pq,hw''⟩:=hw';have bq:=pq.h;rw[←hw''] at bq;clear hw'' pq)
   clear f0 f1 f2 f3 q0 q1 q2 c0
   have HQ:=hD (HB.out.trans (bq.mono (by omega)))
   have sq:=bq.size
   clear bq
   generalize nextV g.2.2 u' x=y at*
   rcases NX.out with hy | hy
   ·subst hy
    have F:Hid (R=k):=hD (by rw[HRk.out,ST.out];rfl)
    go_wp2
    go_ret
    exact⟨ret_int (by rw[F.out]),BX.out.trans (HQ.out.mono (by omega))⟩
   ·have hy0: ¬y<0:=by omega
    have F:Hid (R=(k+1)+(readF g.2.2 y (ws.drop (k+1))).2):=hD (by rw[HRk.out,ST.out,if_neg hy0];simp only;omega)
    go_wp2
    go_roundw
    case rel=>exact⟨k+1,y,by omega,by go_num,rfl,hy,F.out,HQ.out⟩
    case measure=>simp[intOf];omega
  ·obtain rfl:k=ws.length:=by omega
   have F:Hid (R=ws.length):=hD (by rw[HRk.out,List.drop_length];rfl)
   clear hbel hR
   go_wp2
   go_ret
   exact⟨ret_int (by rw[F.out]),BX.out.trans (HB.out.mono (by omega))⟩
set_option maxHeartbeats 1000000 in
theorem specAddVertex_any (v:Value) (g:GrD) (w:World) (h:ArgG w v g) (hg:grB g=true):
  Calls Tryz.prog 115 #[v] w fun e w'=> ∃r,e= .returned (.tuple #[r, .bool (decide (g.2.1<40))])∧OwG w' w.heap.size r (if g.2.1<40 then(g.1,g.2.1+1,g.2.2) else g)∧Below w.heap.size w w':=by
 have HG:=hD h
 have HGR:=hD hg
 obtain⟨h13,h40,h120,_⟩:=grB_parts hg
 obtain⟨s,rfl,hi1,hi2,hga⟩:=h
 obtain⟨A,cap,rfl⟩:=hga.form
 obtain⟨g1,N,es⟩:=g
 simp only at*
 clear hg hga
 go_enter Tryz.func115,Tryz.ntmps115
 go_wp2_with fail
 obtain⟨W1,hW1⟩: ∃W,W=w.alloc (Obj.cells #[Value.int IntKind.i64 g1,Value.int IntKind.i64 N, .slice A es.length cap] 31):=⟨_,rfl⟩
 rw[←hW1]
 obtain⟨c1,b1,s1⟩:=CBx.new hW1
 obtain⟨W,hW⟩: ∃W,W=W1.alloc (Obj.cells #[Value.int IntKind.i64 0,Value.int IntKind.i64 0, .slice none 0 0] 31):=⟨_,rfl⟩
 rw[←hW]
 obtain⟨c2,b2,s2⟩:=CBx.new hW
 have BX:Hid (Below w.heap.size w W):=hD (b1.trans (b2.mono (by omega)))
 have X1:Hid (CBx W w.heap.size (.int .i64 g1) (.int .i64 N) (.slice A es.length cap)):=hD (c1.below b2)
 have X2:Hid (CBx W (w.heap.size+1) (.int .i64 0) (.int .i64 0) (.slice none 0 0)):=hD (by rw[←s1];exact c2)
 have hsW:w.heap.size+2=W.heap.size:=by omega
 clear hW1 hW c1 c2 b1 b2 s1 s2
 have y0:=X1.out.c0
 have y1:=X1.out.c1
 have y2:=X1.out.c2
 refine(l4Copy_any _ (g1,N,es) W (HG.out.below BX.out) (by simp only;omega)).mono ?_
 rintro e w5 ⟨r,rfl,o5,b5⟩
 have B5:=hD b5
 have X1':=hD (X1.out.below b5)
 have X2':=hD (X2.out.below b5)
 have hs5:=b5.size
 obtain⟨s1,rfl,_,_,oe5⟩:=o5
 obtain⟨A1,c1,rfl,_⟩:=oe5.form
 simp only at*
 clear b5 y0 y1 y2
 have b6':Below w5.heap.size w5 (w5.alloc (Obj.cells #[Value.int IntKind.i64 g1,Value.int IntKind.i64 N, .slice A1 es.length c1] 31)):=(Below.refl _ _).alloc (Nat.le_refl _) _
 have y0:=(X1'.out.below b6').c0
 have y1:=(X1'.out.below b6').c1
 have y2:=(X1'.out.below b6').c2
 clear b6'
 go_wp2_with fail
 clear y0 y1 y2
 obtain⟨W6,hW6⟩: ∃W,W=w5.alloc (Obj.cells #[Value.int IntKind.i64 g1,Value.int IntKind.i64 N, .slice A1 es.length c1] 31):=⟨_,rfl⟩
 have GB6:=hD (GBx.new (m:=(g1,N,es)) oe5 hi1 hi2 hW6)
 obtain⟨hs6,b6,_,_⟩:=gbox hW6
 rw[←hW6]
 have B6:Hid (Below W.heap.size W W6):=hD (B5.out.trans (b6.mono (by omega)))
 clear hW6 b6 oe5
 obtain⟨p,hp⟩: ∃p,p=w5.heap.size:=⟨_,rfl⟩
 rw[←hp] at GB6⊢
 have hpw:W.heap.size≤p:=by omega
 clear hp hs6 hs5
 have HIG:=hD (specIsGraph_any _ (g1,N,es) W6 (HG.out.below (BX.out.trans (B6.out.mono (by omega)))))
 rw[HGR.out] at HIG
 refine HIG.out.mono ?_
 clear HIG
 rintro e w7 ⟨rfl,b7⟩
 have B7:=hD (B6.out.trans (b7.mono (by have:=B6.out.size;omega)))
 have GB7:=hD (GB6.out.below b7)
 clear b7
 have y0:=(X1.out.below B7.out).c0
 have y1:=(X1.out.below B7.out).c1
 have y2:=(X1.out.below B7.out).c2
 have r0:=(X2.out.below B7.out).c0
 have r1:=(X2.out.below B7.out).c1
 have r2:=(X2.out.below B7.out).c2
 have rf0:=(X2.out.below B7.out).fz 0
 have rf1:=(X2.out.below B7.out).fz 1
 have rf2:=(X2.out.below B7.out).fz 2
 have z0:=GB7.out.c0
 have z1:=GB7.out.c1
 have z2:=GB7.out.c2
 have zf1:=GB7.out.fz 1
 simp only at z0 z1 z2
 have hpne:w.heap.size+1≠p:=by omega
 have hpne':w.heap.size≠p:=by omega
 have hinc:IntKind.i64.wrap (N+1)=N+1:=by rw[IntKind.wrap_i64];omega
 by_cases hN:N<40
 ·have hge: ¬40≤N:=by omega
  have HN:=hD hN
  have HI:Hid (I64 (N+1)):=hD ⟨by omega,by omega⟩
  clear hN
  go_wp2_with fail
  have GBS:=hD (GB7.out.sz HI.out)
  have BS:Hid (Below W.heap.size W (w7.setCell ⟨p,1,none⟩ (.int .i64 (N+1)))):=hD (B7.out.setCell hpw _)
  have XS:=hD (X2.out.below BS.out)
  have ss:(w7.setCell ⟨p,1,none⟩ (.int .i64 (N+1))).heap.size=w7.heap.size:=by simp
  generalize w7.setCell ⟨p,1,none⟩ (.int .i64 (N+1))=w8 at GBS BS XS ss⊢
  clear r0 r1 r2 rf0 rf1 rf2 z0 z1 z2 zf1 y0 y1 y2
  have r0:=XS.out.c0
  have r1:=XS.out.c1
  have r2:=XS.out.c2
  have rf0:=XS.out.fz 0
  have rf1:=XS.out.fz 1
  have rf2:=XS.out.fz 2
  have z0:=GBS.out.c0
  have z1:=GBS.out.c1
  have z2:=GBS.out.c2
  simp only at z0 z1 z2
  go_wp2
  obtain⟨e0,e1,e2⟩:=cells3F (.int .i64 g1) (.int .i64 (N+1)) (.slice A1 es.length c1) r0 r1 r2
  have bw:=set3_below (.int .i64 g1) (.int .i64 (N+1)) (.slice A1 es.length c1) (BX.out.trans (BS.out.mono (by omega))) (show w.heap.size≤w.heap.size+1 by omega)
  have ow:=GBS.out.ow.keep (w':=((w8.setCell ⟨w.heap.size+1,0,none⟩ (.int .i64 g1)).setCell ⟨w.heap.size+1,1,none⟩ (.int .i64 (N+1))).setCell ⟨w.heap.size+1,2,none⟩ (.slice A1 es.length c1)) fun b hb=>set3_heap _ _ _ _ _ (by have:=(GBS.out.ow.1.lt b hb).1;omega)
  exact bodyPost_ret (v:= .tuple #[.agg #[.int .i64 g1, .int .i64 (N+1), .slice A1 es.length c1], .bool true]) (by simp[results,Tryz.results115,go_sem,e0,e1,e2]) rfl ⟨_,rfl,⟨.slice A1 es.length c1,rfl,hi1,HI.out,ow.mono (by omega)⟩,bw⟩
 ·have hge:40≤N:=by omega
  have HN:=hD hN
  clear hN
  go_wp2
  obtain⟨e0,e1,e2⟩:=cells3F (.int .i64 g1) (.int .i64 N) (.slice A1 es.length c1) r0 r1 r2
  have bw:=set3_below (.int .i64 g1) (.int .i64 N) (.slice A1 es.length c1) (BX.out.trans (B7.out.mono (by omega))) (show w.heap.size≤w.heap.size+1 by omega)
  have ow:=GB7.out.ow.keep (w':=((w7.setCell ⟨w.heap.size+1,0,none⟩ (.int .i64 g1)).setCell ⟨w.heap.size+1,1,none⟩ (.int .i64 N)).setCell ⟨w.heap.size+1,2,none⟩ (.slice A1 es.length c1)) fun b hb=>set3_heap _ _ _ _ _ (by have:=(GB7.out.ow.1.lt b hb).1;omega)
  exact bodyPost_ret (v:= .tuple #[.agg #[.int .i64 g1, .int .i64 N, .slice A1 es.length c1], .bool false]) (by simp[results,Tryz.results115,go_sem,e0,e1,e2]) rfl ⟨_,rfl,⟨.slice A1 es.length c1,rfl,hi1,hi2,ow.mono (by omega)⟩,bw⟩
set_option maxHeartbeats 1000000 in
theorem implAddVertex_any (v:Value) (g:GrD) (w:World) (h:ArgG w v g) (hg:grB g=true):
  Calls Tryz.prog 138 #[v] w fun e w'=> ∃r,e= .returned (.tuple #[r, .bool (decide (g.2.1<40))])∧OwG w' w.heap.size r (if g.2.1<40 then(g.1,g.2.1+1,g.2.2) else g)∧Below w.heap.size w w':=by
 have HG:=hD h
 have HGR:=hD hg
 obtain⟨h13,h40,h120,_⟩:=grB_parts hg
 obtain⟨s,rfl,hi1,hi2,hga⟩:=h
 obtain⟨A,cap,rfl⟩:=hga.form
 obtain⟨g1,N,es⟩:=g
 simp only at*
 clear hg hga
 go_enter Tryz.func138,Tryz.ntmps138
 go_wp2_with fail
 obtain⟨W1,hW1⟩: ∃W,W=w.alloc (Obj.cells #[Value.int IntKind.i64 g1,Value.int IntKind.i64 N, .slice A es.length cap] 31):=⟨_,rfl⟩
 rw[←hW1]
 obtain⟨c1,b1,s1⟩:=CBx.new hW1
 obtain⟨W,hW⟩: ∃W,W=W1.alloc (Obj.cells #[Value.int IntKind.i64 0,Value.int IntKind.i64 0, .slice none 0 0] 31):=⟨_,rfl⟩
 rw[←hW]
 obtain⟨c2,b2,s2⟩:=CBx.new hW
 have BX:Hid (Below w.heap.size w W):=hD (b1.trans (b2.mono (by omega)))
 have X1:Hid (CBx W w.heap.size (.int .i64 g1) (.int .i64 N) (.slice A es.length cap)):=hD (c1.below b2)
 have X2:Hid (CBx W (w.heap.size+1) (.int .i64 0) (.int .i64 0) (.slice none 0 0)):=hD (by rw[←s1];exact c2)
 have hsW:w.heap.size+2=W.heap.size:=by omega
 clear hW1 hW c1 c2 b1 b2 s1 s2
 have y0:=X1.out.c0
 have y1:=X1.out.c1
 have y2:=X1.out.c2
 refine(copyGraph_any _ (g1,N,es) W (HG.out.below BX.out) (by simp only;omega)).mono ?_
 rintro e w5 ⟨r,rfl,o5,b5⟩
 have B5:=hD b5
 have X1':=hD (X1.out.below b5)
 have X2':=hD (X2.out.below b5)
 have hs5:=b5.size
 obtain⟨s1,rfl,_,_,oe5⟩:=o5
 obtain⟨A1,c1,rfl,_⟩:=oe5.form
 simp only at*
 clear b5 y0 y1 y2
 have b6':Below w5.heap.size w5 (w5.alloc (Obj.cells #[Value.int IntKind.i64 g1,Value.int IntKind.i64 N, .slice A1 es.length c1] 31)):=(Below.refl _ _).alloc (Nat.le_refl _) _
 have y0:=(X1'.out.below b6').c0
 have y1:=(X1'.out.below b6').c1
 have y2:=(X1'.out.below b6').c2
 clear b6'
 go_wp2_with fail
 clear y0 y1 y2
 obtain⟨W6,hW6⟩: ∃W,W=w5.alloc (Obj.cells #[Value.int IntKind.i64 g1,Value.int IntKind.i64 N, .slice A1 es.length c1] 31):=⟨_,rfl⟩
 have GB6:=hD (GBx.new (m:=(g1,N,es)) oe5 hi1 hi2 hW6)
 obtain⟨hs6,b6,_,_⟩:=gbox hW6
 rw[←hW6]
 have B6:Hid (Below W.heap.size W W6):=hD (B5.out.trans (b6.mono (by omega)))
 clear hW6 b6 oe5
 obtain⟨p,hp⟩: ∃p,p=w5.heap.size:=⟨_,rfl⟩
 rw[←hp] at GB6⊢
 have hpw:W.heap.size≤p:=by omega
 clear hp hs6 hs5
 have HIG:=hD (implIsGraph_any _ (g1,N,es) W6 (HG.out.below (BX.out.trans (B6.out.mono (by omega)))))
 rw[HGR.out] at HIG
 refine HIG.out.mono ?_
 clear HIG
 rintro e w7 ⟨rfl,b7⟩
 have B7:=hD (B6.out.trans (b7.mono (by have:=B6.out.size;omega)))
 have GB7:=hD (GB6.out.below b7)
 clear b7
 have y0:=(X1.out.below B7.out).c0
 have y1:=(X1.out.below B7.out).c1
 have y2:=(X1.out.below B7.out).c2
 have r0:=(X2.out.below B7.out).c0
 have r1:=(X2.out.below B7.out).c1
 have r2:=(X2.out.below B7.out).c2
 have rf0:=(X2.out.below B7.out).fz 0
 have rf1:=(X2.out.below B7.out).fz 1
 have rf2:=(X2.out.below B7.out).fz 2
 have z0:=GB7.out.c0
 have z1:=GB7.out.c1
 have z2:=GB7.out.c2
 have zf1:=GB7.out.fz 1
 simp only at z0 z1 z2
 have hpne:w.heap.size+1≠p:=by omega
 have hpne':w.heap.size≠p:=by omega
 have hinc:IntKind.i64.wrap (N+1)=N+1:=by rw[IntKind.wrap_i64];omega
 by_cases hN:N<40
 ·have hge:(N==40)=false:=beq_eq_false_iff_ne.2 (by omega)
  have HN:=hD hN
  have HI:Hid (I64 (N+1)):=hD ⟨by omega,by omega⟩
  clear hN
  go_wp2_with fail
  have GBS:=hD (GB7.out.sz HI.out)
  have BS:Hid (Below W.heap.size W (w7.setCell ⟨p,1,none⟩ (.int .i64 (N+1)))):=hD (B7.out.setCell hpw _)
  have XS:=hD (X2.out.below BS.out)
  have ss:(w7.setCell ⟨p,1,none⟩ (.int .i64 (N+1))).heap.size=w7.heap.size:=by simp
  generalize w7.setCell ⟨p,1,none⟩ (.int .i64 (N+1))=w8 at GBS BS XS ss⊢
  clear r0 r1 r2 rf0 rf1 rf2 z0 z1 z2 zf1 y0 y1 y2
  have r0:=XS.out.c0
  have r1:=XS.out.c1
  have r2:=XS.out.c2
  have rf0:=XS.out.fz 0
  have rf1:=XS.out.fz 1
  have rf2:=XS.out.fz 2
  have z0:=GBS.out.c0
  have z1:=GBS.out.c1
  have z2:=GBS.out.c2
  simp only at z0 z1 z2
  go_wp2
  obtain⟨e0,e1,e2⟩:=cells3F (.int .i64 g1) (.int .i64 (N+1)) (.slice A1 es.length c1) r0 r1 r2
  have bw:=set3_below (.int .i64 g1) (.int .i64 (N+1)) (.slice A1 es.length c1) (BX.out.trans (BS.out.mono (by omega))) (show w.heap.size≤w.heap.size+1 by omega)
  have ow:=GBS.out.ow.keep (w':=((w8.setCell ⟨w.heap.size+1,0,none⟩ (.int .i64 g1)).setCell ⟨w.heap.size+1,1,none⟩ (.int .i64 (N+1))).setCell ⟨w.heap.size+1,2,none⟩ (.slice A1 es.length c1)) fun b hb=>set3_heap _ _ _ _ _ (by have:=(GBS.out.ow.1.lt b hb).1;omega)
  exact bodyPost_ret (v:= .tuple #[.agg #[.int .i64 g1, .int .i64 (N+1), .slice A1 es.length c1], .bool true]) (by simp[results,Tryz.results138,go_sem,e0,e1,e2]) rfl ⟨_,rfl,⟨.slice A1 es.length c1,rfl,hi1,HI.out,ow.mono (by omega)⟩,bw⟩
 ·have hge:(N==40)=true:=beq_iff_eq.2 (by omega)
  have hge2: ¬N<40:=hN
  have HN:=hD hN
  clear hN
  go_wp2
  obtain⟨e0,e1,e2⟩:=cells3F (.int .i64 g1) (.int .i64 N) (.slice A1 es.length c1) r0 r1 r2
  have bw:=set3_below (.int .i64 g1) (.int .i64 N) (.slice A1 es.length c1) (BX.out.trans (B7.out.mono (by omega))) (show w.heap.size≤w.heap.size+1 by omega)
  have ow:=GB7.out.ow.keep (w':=((w7.setCell ⟨w.heap.size+1,0,none⟩ (.int .i64 g1)).setCell ⟨w.heap.size+1,1,none⟩ (.int .i64 N)).setCell ⟨w.heap.size+1,2,none⟩ (.slice A1 es.length c1)) fun b hb=>set3_heap _ _ _ _ _ (by have:=(GB7.out.ow.1.lt b hb).1;omega)
  exact bodyPost_ret (v:= .tuple #[.agg #[.int .i64 g1, .int .i64 N, .slice A1 es.length c1], .bool false]) (by simp[results,Tryz.results138,go_sem,e0,e1,e2]) rfl ⟨_,rfl,⟨.slice A1 es.length c1,rfl,hi1,hi2,ow.mono (by omega)⟩,bw⟩
structure CjH (g:GrD) (t:List Int) (R:GrD×Bool):Prop where
 c0:coreB g=false→R=((0,0,[]),false)
 c1:wordB g.1 t=false→R=((0,0,[]),false)
 c2:coreB g=true→wordB g.1 t=true→(readF g.2.2 0 t).2=t.length→R=(movG g (readF g.2.2 0 t).1.toNat,true)
 c3:(readF g.2.2 0 t).2<t.length→40≤g.2.1→R=((0,0,[]),false)
 c4:(readF g.2.2 0 t).2<t.length→addOk (hairX g) (t.drop (readF g.2.2 0 t).2)=false→R=((0,0,[]),false)
 c5:coreB g=true→wordB g.1 t=true→(readF g.2.2 0 t).2<t.length→g.2.1<40→addOk (hairX g) (t.drop (readF g.2.2 0 t).2)=true→R=(movG (cjY g t) g.2.1.toNat,true)
theorem conjF_cj (g:GrD) (t:List Int):CjH g t (conjF g t):=by
 have n2: ∀ {a b:Prop} [Decidable a] [Decidable b],(¬a)→(if a then(if b then(movG g (readF g.2.2 0 t).1.toNat,true) else((0,0,[]),false)) else(((0,0,[]),false):GrD×Bool))=((0,0,[]),false):=fun h=>if_neg h
 refine⟨fun h=> ?_,fun h=> ?_,fun h1 h2 h3=> ?_,fun h1 h2=> ?_,fun h1 h2=> ?_,fun h1 h2 h3 h4 h5=> ?_⟩<;>unfold conjF
 ·rw[if_neg fun q=>by rw[h] at q;exact absurd q.1 (by decide)]
 ·rw[if_neg fun q=>by rw[h] at q;exact absurd q.2 (by decide)]
 ·rw[if_pos ⟨h1,h2⟩,if_pos h3]
 ·split
  ·rw[if_neg (by omega),if_neg (by omega)]
  ·rfl
 ·split
  ·rw[if_neg (by omega),if_neg fun q=>by rw[h2] at q;exact absurd q.2 (by decide)]
  ·rfl
 ·rw[if_pos ⟨h1,h2⟩,if_neg (by omega),if_pos ⟨h4,h5⟩]
set_option maxHeartbeats 2000000 in
theorem specConjugateSubgroup_any (v y:Value) (g:GrD) (t:List Int) (w:World) (h:ArgG w v g) (ht:RdI w y t) (hl:t.length≤1073741824):
  Calls Tryz.prog 76 #[v,y] w fun e w'=> ∃r,e= .returned (.tuple #[r, .bool (conjF g t).2])∧OwG w' w.heap.size r (conjF g t).1∧Below w.heap.size w w':=by
 have HG:=hD h
 have HY:=hD ht
 have HC:=hD (conjF_cj g t)
 generalize conjF g t=RES at*
 obtain⟨s,rfl,hi1,hi2,hga⟩:=h
 obtain⟨A,cap,rfl⟩:=hga.form
 obtain⟨T,tc,rfl,htc,htm,_⟩:=ht.arg
 unfold maxLen at htm
 obtain⟨g1,N,es⟩:=g
 simp only at*
 clear hga ht
 go_enter Tryz.func76,Tryz.ntmps76
 go_wp2_with fail
 obtain⟨W1,hW1⟩: ∃W,W=w.alloc (Obj.cells #[.int .i64 g1, .int .i64 N, .slice A es.length cap] 31):=⟨_,rfl⟩
 rw[←hW1]
 obtain⟨xG,bG,sG⟩:=CBx.new hW1
 clear hW1
 obtain⟨W,hW⟩: ∃W,W=W1.alloc (Obj.cells #[.int .i64 0, .int .i64 0, .slice none 0 0] 31):=⟨_,rfl⟩
 rw[←hW]
 obtain⟨xR,bR,sR⟩:=CBx.new hW
 clear hW
 have XG:=hD (xG.below bR)
 have XR:=hD xR
 rw[sG] at XR
 have BX:Hid (Below w.heap.size w W):=hD (bG.trans (bR.mono (by omega)))
 have hsW:w.heap.size+2≤W.heap.size:=by omega
 clear xG bG sG xR bR sR
 have HA:Hid (∀w',Below W.heap.size W w'→ArgG w' (.agg #[.int .i64 g1, .int .i64 N, .slice A es.length cap]) (g1,N,es)):=hD fun w' hb=>HG.out.below (BX.out.trans (hb.mono (by omega)))
 have HT:Hid (∀w',Below W.heap.size W w'→RdI w' (.slice T t.length tc) t):=hD fun w' hb=>HY.out.below (BX.out.trans (hb.mono (by omega)))
 refine(specIsSubgroup_any _ (g1,N,es) W (HA.out W (Below.refl _ _))).mono ?_
 rintro e w1 ⟨rfl,b1⟩
 have B1:=hD b1
 have hw1:=b1.size
 clear b1
 rcases e1:coreB (g1,N,es) with _ | _
 ·have F:=hD (HC.out.c0 e1)
  clear e1
  have uXR0:=(XR.out.below B1.out).c0
  have uXR1:=(XR.out.below B1.out).c1
  have uXR2:=(XR.out.below B1.out).c2
  have wXR0:=(XR.out.below B1.out).fz 0
  have wXR1:=(XR.out.below B1.out).fz 1
  have wXR2:=(XR.out.below B1.out).fz 2
  go_wp2
  obtain⟨e0,e1,e2,bw,ow⟩:=(XR.out.below B1.out).fin (a:= .int .i64 0) (b:= .int .i64 0) (BX.out.trans (B1.out.mono (by omega))) (by omega) (OwE.nil (base:=w.heap.size)) (fun b hb=>by cases hb)
  exact bodyPost_ret (v:= .tuple #[.agg #[.int .i64 0, .int .i64 0, .slice none 0 0], .bool false]) (by simp[results,Tryz.results76,go_sem,e0,e1,e2]) rfl ⟨_,by rw[F.out],by rw[F.out];exact⟨.slice none 0 0,rfl,⟨by decide,by decide⟩,⟨by decide,by decide⟩,ow⟩,bw⟩
 have hf:=core_fold e1
 have hgr:=(foldB_parts hf).1
 obtain⟨h13,h40,h120,_⟩:=grB_parts hgr
 simp only at h13 h40 h120
 have HF:=hD hf
 have HGR:=hD hgr
 clear hf hgr
 have HCO:=hD e1
 clear e1
 have uXG0:=(XG.out.below B1.out).c0
 have uXG1:=(XG.out.below B1.out).c1
 have uXG2:=(XG.out.below B1.out).c2
 go_wp2_with fail
 refine(specIsWord_any g1 _ t w1 (HT.out w1 B1.out).arg (by omega)).mono ?_
 rintro e w2 ⟨rfl,nd,hw2⟩
 have B2:Hid (Below W.heap.size W w2):=hD (by rw[hw2];exact bel_drewN B1.out _)
 have hs2:w1.heap.size=w2.heap.size:=by rw[hw2];rfl
 clear uXG0 uXG1 uXG2
 clear hw2
 rcases e2:wordB g1 t with _ | _
 ·have F:=hD (HC.out.c1 e2)
  clear e2
  have uXR0:=(XR.out.below B2.out).c0
  have uXR1:=(XR.out.below B2.out).c1
  have uXR2:=(XR.out.below B2.out).c2
  have wXR0:=(XR.out.below B2.out).fz 0
  have wXR1:=(XR.out.below B2.out).fz 1
  have wXR2:=(XR.out.below B2.out).fz 2
  go_wp2
  obtain⟨e0,e1,e2,bw,ow⟩:=(XR.out.below B2.out).fin (a:= .int .i64 0) (b:= .int .i64 0) (BX.out.trans (B2.out.mono (by omega))) (by omega) (OwE.nil (base:=w.heap.size)) (fun b hb=>by cases hb)
  exact bodyPost_ret (v:= .tuple #[.agg #[.int .i64 0, .int .i64 0, .slice none 0 0], .bool false]) (by simp[results,Tryz.results76,go_sem,e0,e1,e2]) rfl ⟨_,by rw[F.out],by rw[F.out];exact⟨.slice none 0 0,rfl,⟨by decide,by decide⟩,⟨by decide,by decide⟩,ow⟩,bw⟩
 have HWO:=hD e2
 clear e2
 have uXG0:=(XG.out.below B2.out).c0
 have uXG1:=(XG.out.below B2.out).c1
 have uXG2:=(XG.out.below B2.out).c2
 go_wp2_with fail
 refine(readLength_any _ _ (g1,N,es) 0 t w2 (HA.out w2 B2.out) (HT.out w2 B2.out) HF.out (by simp only;omega)).mono ?_
 rintro e w3 ⟨rfl,b3⟩
 have B3:=hD (B2.out.trans (b3.mono (by omega)))
 have hs3:=b3.size
 clear uXG0 uXG1 uXG2
 clear b3
 have hle:=readF_le es t 0
 have hrt:=read_take es t 0 (by omega)
 have hrr:=read_range HGR.out t 0 (by simp only;omega)
 have HCY:Hid (∀(_:(readF es 0 t).2<t.length) (_:N<40) (_:addOk (hairX (g1,N,es)) (t.drop (readF es 0 t).2)=true),foldB (cjY (g1,N,es) t)=true):=hD (cjY_fold HF.out HWO.out)
 have HYS:Hid (N<(cjY (g1,N,es) t).2.1):=hD (cjY_size (g:=(g1,N,es)) (by show 0≤N;omega))
 have HRD:Hid (cjY (g1,N,es) t=addG (hairX (g1,N,es)) (readF es 0 t).1 N (t.drop (readF es 0 t).2)):=hD rfl
 have HSP:Hid (∀(_:(readF es 0 t).2<t.length),nextV es (readF es 0 t).1 (t.getD (readF es 0 t).2 0)<0):=hD fun h=>by rw[getD_at h];exact read_stop es t 0 h
 have HQ2:=hD (HC.out.c2 HCO.out HWO.out)
 have HQ3:=hD HC.out.c3
 have HQ4:=hD HC.out.c4
 have HQ5:=hD (HC.out.c5 HCO.out HWO.out)
 simp only at hle hrt hrr HQ2 HQ3 HQ4 HQ5
 clear HC
 generalize (readF es 0 t).2=n at*
 generalize (readF es 0 t).1=u at*
 generalize cjY (g1,N,es) t=Y at*
 obtain⟨u,rfl⟩: ∃u':Nat,u=(u':Int):=⟨u.toNat,by omega⟩
 have HRT:=hD hrt.1
 have HWW:=hD (fun W' (hb:Below W.heap.size W W')=>walkWord_any (.agg #[.int .i64 g1, .int .i64 N, .slice A es.length cap]) (.slice T n tc) (g1,N,es) 0 (t.take n) W' (HA.out W' hb) ((HT.out W' hb).head rfl hle) HF.out (by simp only;omega))
 simp only at HWW
 rw[HRT.out] at HWW
 have hn0:(0:Int)≤(n:Int):=by omega
 have hntc:(n:Int)≤(tc:Int):=by omega
 have hl3:w.heap.size<w3.heap.size:=by omega
 have uXG0:=(XG.out.below B3.out).c0
 have uXG1:=(XG.out.below B3.out).c1
 have uXG2:=(XG.out.below B3.out).c2
 clear hrt
 go_wp2_with fail
 have f0:=BelW.cell uXG0 hl3
 have f1:=BelW.cell uXG1 hl3
 have f2:=BelW.cell uXG2 hl3
 (refine wp_region_quiet_bel (by kernel_rfl) (by kernel_rfl) ?_;(repeat(go_big_quiet_step (first | (go_at_call 81;exact Calls.bel_of (HWW.out _ (B3.out.trans ((BelW.h _).mono (by omega))))))));refine wpQuiet_nil ?_;intro wq hw';obtain⟨pq,hw''⟩:=hw';have bq:=pq.h;rw[←hw''] at bq;clear hw'' pq)
 clear f0 f1 f2
 have B4:=hD (B3.out.trans (bq.mono (by omega)))
 have hs4:=bq.size
 clear uXG0 uXG1 uXG2
 clear bq
 have uXG0:=(XG.out.below B4.out).c0
 have uXG1:=(XG.out.below B4.out).c1
 have uXG2:=(XG.out.below B4.out).c2
 go_wp2_with fail
 refine(l4Copy_any _ (g1,N,es) wq (HA.out wq B4.out) (by simp only;omega)).mono ?_
 rintro e w5 ⟨r,rfl,o5,b5⟩
 have B5:=hD (B4.out.trans (b5.mono (by omega)))
 have hs5:=b5.size
 obtain⟨s1,rfl,_,_,oe5⟩:=o5
 obtain⟨A1,c1,rfl,_⟩:=oe5.form
 simp only at oe5⊢
 have OE5:=hD oe5
 clear uXG0 uXG1 uXG2
 clear b5
 obtain⟨W6,hW6⟩: ∃W,W=w5.alloc (Obj.cells #[Value.int IntKind.i64 g1,Value.int IntKind.i64 N, .slice A1 es.length c1] 31):=⟨_,rfl⟩
 have GB6:=hD (GBx.new (m:=(g1,N,es)) oe5 hi1 hi2 hW6)
 obtain⟨hs6,b6,_,_⟩:=gbox hW6
 have B6:Hid (Below W.heap.size W W6):=hD (B5.out.trans (b6.mono (by omega)))
 have OE6:=hD (oe5.below b6)
 clear b6 oe5 OE5
 have hnl:(n:Int)<(t.length:Int)∨n=t.length:=by omega
 rcases hnl with hlt | heq
 rotate_left
 ·subst heq
  have hlt: ¬((t.length:Int)<(t.length:Int)):=by omega
  have F:=hD (HQ2.out rfl)
  clear HQ2 HQ3 HQ4 HQ5 HCY HRD HSP
  go_wp2_with fail
  rw[←hW6]
  have HAG:ArgG W6 (.agg #[.int .i64 g1, .int .i64 N, .slice A1 es.length c1]) (g1,N,es):=⟨_,rfl,hi1,hi2,OE6.out.arg⟩
  refine(specMoveBase_any _ (g1,N,es) u W6 HAG HF.out (by simp only;omega)).mono ?_
  clear hW6 HAG
  rintro e w7 ⟨r7,rfl,o7,b7⟩
  have B7:=hD (B6.out.trans (b7.mono (by have:=B6.out.size;omega)))
  have hs7:=b7.size
  clear b7
  rw[show((u:Int)).toNat=u from rfl] at F
  generalize movG (g1,N,es) u=M at*
  obtain⟨m1,m2,ms⟩:=M
  obtain⟨s7,rfl,hj1,hj2,oe7⟩:=o7
  obtain⟨A7,c7,rfl,_⟩:=oe7.form
  simp only at hj1 hj2 oe7⊢
  have b8:Below w7.heap.size w7 (w7.alloc (Obj.cells #[Value.int IntKind.i64 m1,Value.int IntKind.i64 m2, .slice A7 ms.length c7] 31)):=(Below.refl _ _).alloc (Nat.le_refl _) _
  have O8:=hD (oe7.below b8)
  have B8:=hD (B7.out.trans (b8.mono (by omega)))
  clear b8 oe7
  have uXR0:=(XR.out.below B8.out).c0
  have uXR1:=(XR.out.below B8.out).c1
  have uXR2:=(XR.out.below B8.out).c2
  have wXR0:=(XR.out.below B8.out).fz 0
  have wXR1:=(XR.out.below B8.out).fz 1
  have wXR2:=(XR.out.below B8.out).fz 2
  go_wp2
  obtain⟨e0,e1,e2,bw,ow⟩:=(XR.out.below B8.out).fin (a:= .int .i64 m1) (b:= .int .i64 m2) (BX.out.trans (B8.out.mono (by omega))) (by omega) O8.out (fun b hb=>by have:=(O8.out.1.lt b hb).1;omega)
  exact bodyPost_ret (v:= .tuple #[.agg #[.int .i64 m1, .int .i64 m2, .slice A7 ms.length c7], .bool true]) (by simp[results,Tryz.results76,go_sem,e0,e1,e2]) rfl ⟨_,by rw[F.out],by rw[F.out];exact⟨_,rfl,hj1,hj2,ow.mono (by omega)⟩,bw⟩
 have hltn:n<t.length:=by omega
 have HQ3:=hD (HQ3.out hltn)
 have HQ4:=hD (HQ4.out hltn)
 have HQ5:=hD (HQ5.out hltn)
 clear HQ2
 have uXG0:=(XG.out.below B6.out).c0
 have uXG1:=(XG.out.below B6.out).c1
 have uXG2:=(XG.out.below B6.out).c2
 rw[hW6] at uXG0 uXG1 uXG2
 go_wp2_with fail
 rw[←hW6]
 clear uXG0 uXG1 uXG2
 clear hW6
 refine(specAddVertex_any _ (g1,N,es) W6 (HA.out W6 B6.out) HGR.out).mono ?_
 rintro e w7 ⟨r7,rfl,o7,b7⟩
 have B7:=hD (B6.out.trans (b7.mono (by have:=B6.out.size;omega)))
 have GB7:=hD (GB6.out.below b7)
 have hs7:=b7.size
 clear b7
 by_cases hN:N<40
 rotate_left
 ·have F:=hD (HQ3.out (by omega))
  rw[if_neg hN] at o7
  simp only[decide_eq_false hN]
  obtain⟨s7,rfl,hj1,hj2,oe7⟩:=o7
  obtain⟨A7,c7,rfl,_⟩:=oe7.form
  have b8:Below w7.heap.size w7 (w7.alloc (Obj.cells #[Value.int IntKind.i64 g1,Value.int IntKind.i64 N, .slice A7 es.length c7] 31)):=(Below.refl _ _).alloc (Nat.le_refl _) _
  have B8:=hD (B7.out.trans (b8.mono (by omega)))
  clear b8 hN
  have uXR0:=(XR.out.below B8.out).c0
  have uXR1:=(XR.out.below B8.out).c1
  have uXR2:=(XR.out.below B8.out).c2
  have wXR0:=(XR.out.below B8.out).fz 0
  have wXR1:=(XR.out.below B8.out).fz 1
  have wXR2:=(XR.out.below B8.out).fz 2
  go_wp2
  obtain⟨e0,e1,e2,bw,ow⟩:=(XR.out.below B8.out).fin (a:= .int .i64 0) (b:= .int .i64 0) (BX.out.trans (B8.out.mono (by omega))) (by omega) (OwE.nil (base:=w.heap.size)) (fun b hb=>by cases hb)
  exact bodyPost_ret (v:= .tuple #[.agg #[.int .i64 0, .int .i64 0, .slice none 0 0], .bool false]) (by simp[results,Tryz.results76,go_sem,e0,e1,e2]) rfl ⟨_,by rw[F.out],by rw[F.out];exact⟨.slice none 0 0,rfl,⟨by decide,by decide⟩,⟨by decide,by decide⟩,ow⟩,bw⟩
 rw[if_pos hN] at o7
 simp only[decide_eq_true hN]
 obtain⟨s7,rfl,hj1,hj2,oe7⟩:=o7
 obtain⟨A7,c7,rfl,_⟩:=oe7.form
 simp only at hj1 hj2 oe7⊢
 obtain⟨W8,hW8⟩: ∃W,W=w7.alloc (Obj.cells #[Value.int IntKind.i64 g1,Value.int IntKind.i64 (N+1), .slice A7 es.length c7] 31):=⟨_,rfl⟩
 have GB8:=hD (GBx.new (m:=(g1,N+1,es)) oe7 hj1 hj2 hW8)
 obtain⟨hs8,b8,_,_⟩:=gbox hW8
 have B8:Hid (Below W.heap.size W W8):=hD (B7.out.trans (b8.mono (by omega)))
 have GB6':=hD (GB7.out.below b8)
 clear b8 oe7
 go_wp2_with fail
 rw[←hW8]
 clear hW8
 have HOKK:=hD (fun h=>HCY.out hltn hN h)
 have HN:=hD hN
 have HQ5:=hD (HQ5.out hN)
 clear hN HQ3 HCY
 obtain⟨bt,off,rfl,_,_⟩:=HY.out.at (by omega)
 have hcp: ¬tc=n:=by omega
 have HTD:Hid (∀w',Below W.heap.size W w'→RdI w' (.slice (some ⟨bt,off+n,none⟩) (t.length-n) (tc-n)) (t.drop n)):=hD fun w' hb=>by
  have:=(HT.out w' hb).cut (k:=n) rfl hle
  rw[if_neg hcp] at this
  simpa[Addr.add_lit] using this
 have HTL:Hid ((t.drop n).length=t.length-n):=hD (by simp)
 have HWD:Hid (wordB g1 (t.drop n)=true):=hD (wordB_drop HWO.out n)
 have HGX:=hD (foldB_parts (hairX_fold HF.out HN.out)).1
 generalize t.drop n=d at*
 have HAP:=hD (fun W' (hb:Below W8.heap.size W8 W')=>specAddPath_any (.agg #[.int .i64 g1, .int .i64 (N+1), .slice A7 es.length c7]) (.slice (some ⟨bt,off+n,none⟩) (t.length-n) (tc-n)) (hairX (g1,N,es)) u N d W' (GB8.out.arg.below hb) (HTD.out W' (B8.out.trans (hb.mono B8.out.size))) HGX.out (by show _∧_<N+1;omega) (by show _∧_<N+1;omega) HWD.out (by have:=HTL.out;omega) (by have:=HTL.out;omega))
 obtain⟨R9,hR9⟩: ∃R,R=(if addOk (hairX (g1,N,es)) d=true then addG (hairX (g1,N,es)) (u:Int) N d else hairX (g1,N,es)):=⟨_,rfl⟩
 rw[←hR9] at HAP
 have HR9:=hD hR9
 clear hR9
 obtain⟨K9,hK9⟩: ∃K,K=addOk (hairX (g1,N,es)) d:=⟨_,rfl⟩
 rw[←hK9] at HAP
 have HK9:=hD hK9
 clear hK9
 obtain⟨n1,n2,ns⟩:=R9
 have DD:Hid (Below W8.heap.size W8 W8.drew):=hD (Below.refl _ _).drew
 have DA:Hid (Below W8.heap.size W8 (W8.alloc (Obj.cells #[Value.int IntKind.i64 0,Value.int IntKind.i64 0,Value.slice none 0 0] 31)).drew):=hD ((Below.refl _ _).alloc (Nat.le_refl _) _).drew
 have XA:Hid (CBx (W8.alloc (Obj.cells #[Value.int IntKind.i64 0,Value.int IntKind.i64 0,Value.slice none 0 0] 31)).drew W8.heap.size (.int .i64 0) (.int .i64 0) (.slice none 0 0)):=hD ((CBx.new (t:=31) rfl).1.below (Below.refl _ _).drew)
 have z0:=GB8.out.c0
 have z1:=GB8.out.c1
 have z2:=GB8.out.c2
 simp only at z0 z1 z2
 have y1:=(XG.out.below B8.out).c1
 have hz8:w7.heap.size<W8.heap.size:=by omega
 have hz0:w.heap.size<W8.heap.size:=by omega
 have hs8':w7.heap.size+1≤W8.heap.size:=by omega
 have hs6':w5.heap.size+1≤W6.heap.size:=by omega
 clear hs8 hs6
 go_region_held3 (fun w'=>w'.cell? ⟨w7.heap.size,0,none⟩=some (.int .i64 g1)∧w'.cell? ⟨w7.heap.size,1,none⟩=some (.int .i64 (N+1))∧w'.cell? ⟨w7.heap.size,2,none⟩=some (.slice A7 es.length c7)∧w'.cell? ⟨w.heap.size,1,none⟩=some (.int .i64 N))
  (first | go_keep | exact⟨q0,q1,q2,q3⟩ | (refine⟨?_,?_,?_,?_⟩<;>simp[go_sem,q0,q1,q2,q3]))
  (first
   | (go_at_call 116;(with_reducible refine(HAP.out _ DD.out).mono ?_);rintro e w9 ⟨r9,rfl,o9,b9⟩;have B9:Hid (Below W8.heap.size W8 w9):=hD (DD.out.trans (b9.mono (Nat.le_refl _)));have hs9:=B9.out.size;have q0:=(B9.out.cell (p:=⟨w7.heap.size,0,none⟩) hz8).trans z0;have q1:=(B9.out.cell (p:=⟨w7.heap.size,1,none⟩) hz8).trans z1;have q2:=(B9.out.cell (p:=⟨w7.heap.size,2,none⟩) hz8).trans z2;have q3:=(B9.out.cell (p:=⟨w.heap.size,1,none⟩) hz0).trans y1;clear b9;obtain⟨s9,rfl,hk1,hk2,oe9⟩:=o9;obtain⟨A9,c9,rfl,_⟩:=oe9.form;have OE9:=hD oe9;simp only at hk1 hk2;clear oe9)
   | (go_at_call 116;(with_reducible refine(HAP.out _ DA.out).mono ?_);rintro e w9 ⟨r9,rfl,o9,b9⟩;have B9:Hid (Below W8.heap.size W8 w9):=hD (DA.out.trans (b9.mono (by simp[go_sem])));have hs9:=B9.out.size;have q0:=(B9.out.cell (p:=⟨w7.heap.size,0,none⟩) hz8).trans z0;have q1:=(B9.out.cell (p:=⟨w7.heap.size,1,none⟩) hz8).trans z1;have q2:=(B9.out.cell (p:=⟨w7.heap.size,2,none⟩) hz8).trans z2;have q3:=(B9.out.cell (p:=⟨w.heap.size,1,none⟩) hz0).trans y1;have XN:=hD (XA.out.below b9);have t0:=XN.out.c0;have t1:=XN.out.c1;have t2:=XN.out.c2;have tf0:=XN.out.fz 0;have tf1:=XN.out.fz 1;have tf2:=XN.out.fz 2;have HLA:W8.heap.size<w9.heap.size:=(by have:=b9.size;simp[go_sem] at this;omega);have hne7:W8.heap.size≠w7.heap.size:=(by omega);have hne0:W8.heap.size≠w.heap.size:=(by omega);clear b9;obtain⟨s9,rfl,hk1,hk2,oe9⟩:=o9;obtain⟨A9,c9,rfl,_⟩:=oe9.form;have OE9:=hD oe9;simp only at hk1 hk2;clear oe9))
 all_goals
  clear DD DA z0 z1 z2 y1
  first
   | (obtain⟨W10,hW10⟩: ∃W,W=(((w9.setCell ⟨W8.heap.size,0,none⟩ (.int .i64 n1)).setCell ⟨W8.heap.size,1,none⟩ (.int .i64 n2)).setCell ⟨W8.heap.size,2,none⟩ (.slice A9 ns.length c9)):=⟨_,rfl⟩
      rw[←hW10]
      have B10:Hid (Below W8.heap.size W8 W10):=hD (by rw[hW10];exact set3_below _ _ _ B9.out (Nat.le_refl _))
      have GT:=hD (XN.out.set (m:=(n1,n2,ns)) OE9.out (fun b hb=>by have:=(OE9.out.1.lt b hb).1;simp[go_sem] at this;omega) hk1 hk2)
      simp only at GT
      rw[←hW10] at GT
      obtain⟨p12,hp12⟩: ∃p,p=W8.heap.size:=⟨_,rfl⟩
      rw[←hp12] at GT⊢
      have hpp:W8.heap.size≤p12:=by omega
      clear hW10 hp12)
   | (obtain⟨W10,hW10⟩: ∃W,W=w9.alloc (Obj.cells #[Value.int IntKind.i64 n1,Value.int IntKind.i64 n2,Value.slice A9 ns.length c9] 31):=⟨_,rfl⟩
      have GT:=hD (GBx.new (m:=(n1,n2,ns)) OE9.out hk1 hk2 hW10)
      have B10:Hid (Below W8.heap.size W8 W10):=hD (B9.out.trans ((gbox hW10).2.1.mono hs9))
      rw[←hW10]
      obtain⟨p12,hp12⟩: ∃p,p=w9.heap.size:=⟨_,rfl⟩
      rw[←hp12] at GT⊢
      have hpp:W8.heap.size≤p12:=by omega
      clear hW10 hp12)
  clear q0 q1 q2 q3 OE9
  have BT:=hD (B8.out.trans (B10.out.mono B8.out.size))
  cases K9
  ·have F:=hD (HQ4.out HK9.out.symm)
   have uXR0:=(XR.out.below BT.out).c0
   have uXR1:=(XR.out.below BT.out).c1
   have uXR2:=(XR.out.below BT.out).c2
   have wXR0:=(XR.out.below BT.out).fz 0
   have wXR1:=(XR.out.below BT.out).fz 1
   have wXR2:=(XR.out.below BT.out).fz 2
   go_wp2
   obtain⟨e0,e1,e2,bw,ow⟩:=(XR.out.below BT.out).fin (a:= .int .i64 0) (b:= .int .i64 0) (BX.out.trans (BT.out.mono (by omega))) (by omega) (OwE.nil (base:=w.heap.size)) (fun b hb=>by cases hb)
   exact bodyPost_ret (v:= .tuple #[.agg #[.int .i64 0, .int .i64 0, .slice none 0 0], .bool false]) (by simp[results,Tryz.results76,go_sem,e0,e1,e2]) rfl ⟨_,by rw[F.out],by rw[F.out];exact⟨.slice none 0 0,rfl,⟨by decide,by decide⟩,⟨by decide,by decide⟩,ow⟩,bw⟩
  have F:=hD (HQ5.out HK9.out.symm)
  have hY:=HR9.out
  rw[←HK9.out,if_pos rfl] at hY
  have HFY:=HOKK.out HK9.out.symm
  obtain rfl:Y=(n1,n2,ns):=HRD.out.trans hY.symm
  have HFY:=hD (HOKK.out HK9.out.symm)
  have hn2:N<n2:=HYS.out
  obtain⟨M,rfl⟩: ∃M:Nat,N=(M:Int):=⟨N.toNat,by omega⟩
  clear hY HR9 HK9 HQ4 HQ5 HRD HYS HOKK
  have GP:=hD (GB6'.out.below B10.out)
  have hp6:w5.heap.size<W8.heap.size:=by omega
  have hne6:w5.heap.size≠p12:=by omega
  have hneg:w.heap.size≠w5.heap.size:=by omega
  have XP:=hD GP.out.cbx
  have XT:=hD GT.out.cbx
  simp only at XP XT
  have uXP0:=XP.out.c0
  have uXP1:=XP.out.c1
  have uXP2:=XP.out.c2
  have wXP0:=XP.out.fz 0
  have wXP1:=XP.out.fz 1
  have wXP2:=XP.out.fz 2
  have uXT0:=XT.out.c0
  have uXT1:=XT.out.c1
  have uXT2:=XT.out.c2
  have uXG0:=(XG.out.below BT.out).c0
  have uXG1:=(XG.out.below BT.out).c1
  have uXG2:=(XG.out.below BT.out).c2
  go_wp2_with fail
  have GS:=hD (XP.out.set (m:=(n1,n2,ns)) GT.out.ow (fun b hb=>by have:=(GT.out.ow.1.lt b hb).1;(try simp[go_sem] at this);omega) hk1 hk2)
  simp only at GS
  have BS:Hid (Below W.heap.size W (((W10.setCell ⟨w5.heap.size,0,none⟩ (.int .i64 n1)).setCell ⟨w5.heap.size,1,none⟩ (.int .i64 n2)).setCell ⟨w5.heap.size,2,none⟩ (.slice A9 ns.length c9))):=hD (set3_below _ _ _ BT.out (by omega))
  refine(specMoveBase_any _ (n1,n2,ns) M _ GS.out.arg HFY.out (by simp only;omega)).mono ?_
  generalize (((W10.setCell ⟨w5.heap.size,0,none⟩ (.int .i64 n1)).setCell ⟨w5.heap.size,1,none⟩ (.int .i64 n2)).setCell ⟨w5.heap.size,2,none⟩ (.slice A9 ns.length c9))=W11 at GS BS⊢
  clear wXP0 wXP1 wXP2 uXP0 uXP1 uXP2 uXT0 uXT1 uXT2 uXG0 uXG1 uXG2
  rintro e w12 ⟨r12,rfl,o12,b12⟩
  have B12:=hD (BS.out.trans (b12.mono (by have:=BS.out.size;omega)))
  have hs12:=b12.size
  clear b12
  rw[show((M:Int)).toNat=M from rfl] at F
  generalize movG (n1,n2,ns) M=R12 at*
  obtain⟨m1,m2,ms⟩:=R12
  obtain⟨s12,rfl,hj1,hj2,oe12⟩:=o12
  obtain⟨A12,c12,rfl,_⟩:=oe12.form
  simp only at hj1 hj2 oe12⊢
  have b8:Below w12.heap.size w12 (w12.alloc (Obj.cells #[Value.int IntKind.i64 m1,Value.int IntKind.i64 m2, .slice A12 ms.length c12] 31)):=(Below.refl _ _).alloc (Nat.le_refl _) _
  have O8:=hD (oe12.below b8)
  have B13:=hD (B12.out.trans (b8.mono (by have:=BS.out.size;omega)))
  have HBS:=hD BS.out.size
  clear b8 oe12
  have uXR0:=(XR.out.below B13.out).c0
  have uXR1:=(XR.out.below B13.out).c1
  have uXR2:=(XR.out.below B13.out).c2
  have wXR0:=(XR.out.below B13.out).fz 0
  have wXR1:=(XR.out.below B13.out).fz 1
  have wXR2:=(XR.out.below B13.out).fz 2
  go_wp2
  obtain⟨e0,e1,e2,bw,ow⟩:=(XR.out.below B13.out).fin (a:= .int .i64 m1) (b:= .int .i64 m2) (BX.out.trans (B13.out.mono (by omega))) (by omega) O8.out (fun b hb=>by have h1:=(O8.out.1.lt b hb).1;have h2:=HBS.out;omega)
  exact bodyPost_ret (v:= .tuple #[.agg #[.int .i64 m1, .int .i64 m2, .slice A12 ms.length c12], .bool true]) (by simp[results,Tryz.results76,go_sem,e0,e1,e2]) rfl ⟨_,by rw[F.out],by rw[F.out];exact⟨_,rfl,hj1,hj2,ow.mono (by have h2:=HBS.out;omega)⟩,bw⟩
end Go.Proofs.YtfadnkjlilhneaaGreat
namespace Go.Proofs.YtfadnkjlilhneaaGreat
set_option maxRecDepth 20000
set_option linter.unusedVariables false
set_option linter.unusedSimpArgs false
open Go.RowKit
structure ExH (g:GrD) (t:List Int) (R:GrD×Int×Bool):Prop where
 c2:(readF g.2.2 0 t).2=t.length→R=(g,(readF g.2.2 0 t).1,true)
 c3:(readF g.2.2 0 t).2<t.length→40≤g.2.1→R=((0,0,[]),0,false)
 c4:(readF g.2.2 0 t).2<t.length→addOk (hairX g) (t.drop (readF g.2.2 0 t).2)=false→R=((0,0,[]),0,false)
 c5:(readF g.2.2 0 t).2<t.length→g.2.1<40→addOk (hairX g) (t.drop (readF g.2.2 0 t).2)=true→R=(cjY g t,g.2.1,true)
def extF (g:GrD) (t:List Int):GrD×Int×Bool:=
 if(readF g.2.2 0 t).2=t.length then(g,(readF g.2.2 0 t).1,true) else if g.2.1<40∧addOk (hairX g) (t.drop (readF g.2.2 0 t).2)=true then(cjY g t,g.2.1,true) else((0,0,[]),0,false)
theorem extF_ex (g:GrD) (t:List Int):ExH g t (extF g t):=by
 refine⟨fun h=> ?_,fun h1 h2=> ?_,fun h1 h2=> ?_,fun h3 h4 h5=> ?_⟩<;>unfold extF
 ·rw[if_pos h]
 ·rw[if_neg (by omega),if_neg (by omega)]
 ·rw[if_neg (by omega),if_neg fun q=>by rw[h2] at q;exact absurd q.2 (by decide)]
 ·rw[if_neg (by omega),if_pos ⟨h4,h5⟩]
set_option maxHeartbeats 2000000 in
theorem extend_any (v y:Value) (g:GrD) (t:List Int) (w:World) (h:ArgG w v g) (ht:RdI w y t) (hl:t.length≤1073741824) (hf:foldB g=true) (hw:wordB g.1 t=true):
  Calls Tryz.prog 118 #[v,y] w fun e w'=> ∃r,e= .returned (.tuple #[r, .int .i64 (extF g t).2.1, .bool (extF g t).2.2])∧ArgG w' r (extF g t).1∧Below w.heap.size w w':=by
 have HG:=hD h
 have HY:=hD ht
 have HC:=hD (extF_ex g t)
 generalize extF g t=RES at*
 have hgr:=(foldB_parts hf).1
 obtain⟨h13,h40,h120,_⟩:=grB_parts hgr
 have HF:=hD hf
 have HGR:=hD hgr
 have HWO:=hD hw
 obtain⟨s,rfl,hi1,hi2,hga⟩:=h
 obtain⟨A,cap,rfl⟩:=hga.form
 obtain⟨T,tc,rfl,htc,htm,_⟩:=ht.arg
 unfold maxLen at htm
 obtain⟨g1,N,es⟩:=g
 simp only at*
 clear hga ht hf hgr hw
 go_enter Tryz.func118,Tryz.ntmps118
 go_wp2_with fail
 obtain⟨W1,hW1⟩: ∃W,W=w.alloc (Obj.cells #[.int .i64 g1, .int .i64 N, .slice A es.length cap] 31):=⟨_,rfl⟩
 rw[←hW1]
 obtain⟨xG,bG,sG⟩:=CBx.new hW1
 clear hW1
 obtain⟨W,hW⟩: ∃W,W=W1.alloc (Obj.cells #[.int .i64 0, .int .i64 0, .slice none 0 0] 31):=⟨_,rfl⟩
 rw[←hW]
 obtain⟨xR,bR,sR⟩:=CBx.new hW
 clear hW
 have XG:=hD (xG.below bR)
 have XR:=hD xR
 rw[sG] at XR
 have BX:Hid (Below w.heap.size w W):=hD (bG.trans (bR.mono (by omega)))
 have hsW:w.heap.size+2≤W.heap.size:=by omega
 clear xG bG sG xR bR sR
 have HA:Hid (∀w',Below W.heap.size W w'→ArgG w' (.agg #[.int .i64 g1, .int .i64 N, .slice A es.length cap]) (g1,N,es)):=hD fun w' hb=>HG.out.below (BX.out.trans (hb.mono (by omega)))
 have HT:Hid (∀w',Below W.heap.size W w'→RdI w' (.slice T t.length tc) t):=hD fun w' hb=>HY.out.below (BX.out.trans (hb.mono (by omega)))
 refine(read_any _ _ (g1,N,es) 0 t W (HA.out W (Below.refl _ _)) (HT.out W (Below.refl _ _)) HF.out (by simp only;omega)).mono ?_
 rintro e w3 ⟨rfl,b3⟩
 have B3:=hD b3
 have hs3:=b3.size
 clear b3
 have hle:=readF_le es t 0
 have hrr:=read_range HGR.out t 0 (by simp only;omega)
 have HCY:Hid (∀(_:(readF es 0 t).2<t.length) (_:N<40) (_:addOk (hairX (g1,N,es)) (t.drop (readF es 0 t).2)=true),foldB (cjY (g1,N,es) t)=true):=hD (cjY_fold HF.out HWO.out)
 have HRD:Hid (cjY (g1,N,es) t=addG (hairX (g1,N,es)) (readF es 0 t).1 N (t.drop (readF es 0 t).2)):=hD rfl
 have HQ2:=hD HC.out.c2
 have HQ3:=hD HC.out.c3
 have HQ4:=hD HC.out.c4
 have HQ5:=hD HC.out.c5
 simp only at hle hrr HQ2 HQ3 HQ4 HQ5
 clear HC
 generalize (readF es 0 t).2=n at*
 generalize (readF es 0 t).1=u at*
 generalize cjY (g1,N,es) t=Y at*
 have hnl:(n:Int)<(t.length:Int)∨n=t.length:=by omega
 rcases hnl with hlt | heq
 rotate_left
 ·subst heq
  have F:=hD (HQ2.out rfl)
  clear HQ2 HQ3 HQ4 HQ5 HCY HRD
  have uXG0:=(XG.out.below B3.out).c0
  have uXG1:=(XG.out.below B3.out).c1
  have uXG2:=(XG.out.below B3.out).c2
  have uXR0:=(XR.out.below B3.out).c0
  have uXR1:=(XR.out.below B3.out).c1
  have uXR2:=(XR.out.below B3.out).c2
  have wXR0:=(XR.out.below B3.out).fz 0
  have wXR1:=(XR.out.below B3.out).fz 1
  have wXR2:=(XR.out.below B3.out).fz 2
  have hnG:w.heap.size≠w.heap.size+1:=by omega
  go_wp2
  obtain⟨e0,e1,e2⟩:=cells3F (.int .i64 g1) (.int .i64 N) (.slice A es.length cap) uXR0 uXR1 uXR2
  have bw:=set3_below (.int .i64 g1) (.int .i64 N) (.slice A es.length cap) (BX.out.trans (B3.out.mono (by omega))) (show w.heap.size≤w.heap.size+1 by omega)
  exact bodyPost_ret (v:= .tuple #[.agg #[.int .i64 g1, .int .i64 N, .slice A es.length cap], .int .i64 u, .bool true]) (by simp[results,Tryz.results118,go_sem,e0,e1,e2]) rfl ⟨_,by rw[F.out],by rw[F.out];exact HG.out.below bw,bw⟩
 have hltn:n<t.length:=by omega
 have hne:((n:Int)==(t.length:Int))=false:=beq_eq_false_iff_ne.2 (by omega)
 have HQ3:=hD (HQ3.out hltn)
 have HQ4:=hD (HQ4.out hltn)
 have HQ5:=hD (HQ5.out hltn)
 clear HQ2
 have uXG0:=(XG.out.below B3.out).c0
 have uXG1:=(XG.out.below B3.out).c1
 have uXG2:=(XG.out.below B3.out).c2
 go_wp2_with fail
 clear uXG0 uXG1 uXG2
 refine(implAddVertex_any _ (g1,N,es) w3 (HA.out w3 B3.out) HGR.out).mono ?_
 rintro e w7 ⟨r7,rfl,o7,b7⟩
 have B7:=hD (B3.out.trans (b7.mono hs3))
 have hs7:=b7.size
 clear b7
 by_cases hN:N<40
 rotate_left
 ·have F:=hD (HQ3.out (by omega))
  rw[if_neg hN] at o7
  simp only[decide_eq_false hN]
  obtain⟨s7,rfl,hj1,hj2,oe7⟩:=o7
  obtain⟨A7,c7,rfl,_⟩:=oe7.form
  have b8:Below w7.heap.size w7 (w7.alloc (Obj.cells #[Value.int IntKind.i64 g1,Value.int IntKind.i64 N, .slice A7 es.length c7] 31)):=(Below.refl _ _).alloc (Nat.le_refl _) _
  have B8:=hD (B7.out.trans (b8.mono (by omega)))
  clear b8 hN
  have uXR0:=(XR.out.below B8.out).c0
  have uXR1:=(XR.out.below B8.out).c1
  have uXR2:=(XR.out.below B8.out).c2
  have wXR0:=(XR.out.below B8.out).fz 0
  have wXR1:=(XR.out.below B8.out).fz 1
  have wXR2:=(XR.out.below B8.out).fz 2
  go_wp2
  obtain⟨e0,e1,e2,bw,ow⟩:=(XR.out.below B8.out).fin (a:= .int .i64 0) (b:= .int .i64 0) (BX.out.trans (B8.out.mono (by omega))) (by omega) (OwE.nil (base:=w.heap.size)) (fun b hb=>by cases hb)
  exact bodyPost_ret (v:= .tuple #[.agg #[.int .i64 0, .int .i64 0, .slice none 0 0], .int .i64 0, .bool false]) (by simp[results,Tryz.results118,go_sem,e0,e1,e2]) rfl ⟨_,by rw[F.out],by rw[F.out];exact⟨_,rfl,⟨by decide,by decide⟩,⟨by decide,by decide⟩,ow.arg⟩,bw⟩
 rw[if_pos hN] at o7
 simp only[decide_eq_true hN]
 obtain⟨s7,rfl,hj1,hj2,oe7⟩:=o7
 obtain⟨A7,c7,rfl,_⟩:=oe7.form
 simp only at hj1 hj2 oe7⊢
 obtain⟨W8,hW8⟩: ∃W,W=w7.alloc (Obj.cells #[Value.int IntKind.i64 g1,Value.int IntKind.i64 (N+1), .slice A7 es.length c7] 31):=⟨_,rfl⟩
 have GB8:=hD (GBx.new (m:=(g1,N+1,es)) oe7 hj1 hj2 hW8)
 obtain⟨hs8,b8,_,_⟩:=gbox hW8
 have B8:Hid (Below W.heap.size W W8):=hD (B7.out.trans (b8.mono (by omega)))
 have hs8':w7.heap.size+1≤W8.heap.size:=by omega
 clear b8 oe7 hs8
 have uXG0:=(XG.out.below B8.out).c0
 have uXG1:=(XG.out.below B8.out).c1
 have uXG2:=(XG.out.below B8.out).c2
 rw[hW8] at uXG0 uXG1 uXG2
 go_wp2_with fail
 rw[←hW8]
 clear uXG0 uXG1 uXG2
 clear hW8
 have HOKK:=hD (fun h=>HCY.out hltn hN h)
 have HN:=hD hN
 have HQ5:=hD (HQ5.out hN)
 clear hN HQ3 HCY hne
 obtain⟨bt,off,rfl,_,_⟩:=HY.out.at (by omega)
 have hcp: ¬tc=n:=by omega
 have HTD:Hid (∀w',Below W.heap.size W w'→RdI w' (.slice (some ⟨bt,off+n,none⟩) (t.length-n) (tc-n)) (t.drop n)):=hD fun w' hb=>by
  have:=(HT.out w' hb).cut (k:=n) rfl hle
  rw[if_neg hcp] at this
  simpa[Addr.add_lit] using this
 have HTL:Hid ((t.drop n).length=t.length-n):=hD (by simp)
 have HWD:Hid (wordB g1 (t.drop n)=true):=hD (wordB_drop HWO.out n)
 have HGX:=hD (foldB_parts (hairX_fold HF.out HN.out)).1
 generalize t.drop n=d at*
 have HAP:=hD (fun W' (hb:Below W8.heap.size W8 W')=>implAddPath_any (.agg #[.int .i64 g1, .int .i64 (N+1), .slice A7 es.length c7]) (.slice (some ⟨bt,off+n,none⟩) (t.length-n) (tc-n)) (hairX (g1,N,es)) u N d W' (GB8.out.arg.below hb) (HTD.out W' (B8.out.trans (hb.mono B8.out.size))) HGX.out (by show _∧_<N+1;omega) (by show _∧_<N+1;omega) HWD.out (by have:=HTL.out;omega) (by have:=HTL.out;omega))
 obtain⟨R9,hR9⟩: ∃R,R=(if addOk (hairX (g1,N,es)) d=true then addG (hairX (g1,N,es)) u N d else hairX (g1,N,es)):=⟨_,rfl⟩
 rw[←hR9] at HAP
 have HR9:=hD hR9
 clear hR9
 obtain⟨K9,hK9⟩: ∃K,K=addOk (hairX (g1,N,es)) d:=⟨_,rfl⟩
 rw[←hK9] at HAP
 have HK9:=hD hK9
 clear hK9
 obtain⟨n1,n2,ns⟩:=R9
 have DD:Hid (Below W8.heap.size W8 W8.drew):=hD (Below.refl _ _).drew
 have z0:=GB8.out.c0
 have z1:=GB8.out.c1
 have z2:=GB8.out.c2
 simp only at z0 z1 z2
 have hn0:(0:Int)≤(n:Int):=by omega
 have hnt:(n:Int)≤(t.length:Int):=by omega
 have hntc:(n:Int)≤(tc:Int):=by omega
 refine wp_region_held_drew (S:=fun _=>True) (by kernel_rfl) trivial (fun hHeld=> ?_)
 (refine wpAnyH_take (i:=1) (v:= ?_) rfl (by kernel_rfl) (by kernel_rfl) (by kernel_rfl) (fun _ _ _ h=>h) (Or.inl ⟨by rfl,?_⟩) (by assumption) ?_;rotate_left;focus (intro ww hSw;(try dsimp only at hSw);go_simp;try with_reducible rfl);(try simp only[Act.put,List.setIfInBounds_toArray,List.set_cons_zero,List.set_cons_succ]));(refine wpAnyH_take (i:=2) (v:= ?_) rfl (by kernel_rfl) (by kernel_rfl) (by kernel_rfl) (fun _ _ _ h=>h) (Or.inl ⟨by rfl,?_⟩) (by assumption) ?_;rotate_left;focus (intro ww hSw;(try dsimp only at hSw);go_simp;try with_reducible rfl);(try simp only[Act.put,List.setIfInBounds_toArray,List.set_cons_zero,List.set_cons_succ]));(refine wpAnyH_take (i:=3) (v:= ?_) rfl (by kernel_rfl) (by kernel_rfl) (by kernel_rfl) (fun _ _ _ h=>h) (Or.inl ⟨by rfl,?_⟩) (by assumption) ?_;rotate_left;focus (intro ww hSw;(try dsimp only at hSw);go_simp;try with_reducible rfl);(try simp only[Act.put,List.setIfInBounds_toArray,List.set_cons_zero,List.set_cons_succ]));(refine wpAnyH_take (i:=4) (v:= ?_) rfl (by kernel_rfl) (by kernel_rfl) (by kernel_rfl) (fun _ _ _ h=>h) (Or.inl ⟨by rfl,?_⟩) (by assumption) ?_;rotate_left;focus (intro ww hSw;(try dsimp only at hSw);go_simp;try with_reducible rfl);(try simp only[Act.put,List.setIfInBounds_toArray,List.set_cons_zero,List.set_cons_succ]));(refine wpAnyH_take (i:=5) (v:= ?_) rfl (by kernel_rfl) (by kernel_rfl) (by kernel_rfl) (fun _ _ _ h=>h) (Or.inl ⟨by rfl,?_⟩) (by assumption) ?_;rotate_left;focus (intro ww hSw;(try dsimp only at hSw);go_simp;try with_reducible rfl);(try simp only[Act.put,List.setIfInBounds_toArray,List.set_cons_zero,List.set_cons_succ]))
 (refine wpAnyH_ready (rs:= [0]) (by kernel_rfl) (by simp) ?_;refine AllReadyH.cons rfl (fun K' hK=> ?_) AllReadyH.nil)
 go_simp
 refine hK.out _ _ trivial (fun _=> ?_)
 clear hK
 (refine wpAnyH_ready (rs:= [6]) (by kernel_rfl) (by simp) ?_;refine AllReadyH.cons rfl (fun K' hK=> ?_) AllReadyH.nil)
 go_simp
 refine(HAP.out _ DD.out).mono ?_
 rintro e w9 ⟨r9,rfl,o9,b9⟩
 have B9:Hid (Below W8.heap.size W8 w9):=hD (DD.out.trans (b9.mono (Nat.le_refl _)))
 have hs9:=B9.out.size
 clear b9 z0 z1 z2
 obtain⟨s9,rfl,hk1,hk2,oe9⟩:=o9
 obtain⟨A9,c9,rfl,_⟩:=oe9.form
 simp only at hk1 hk2
 have OE9:=hD oe9
 clear oe9
 have GB9:=hD (GB8.out.below B9.out)
 have XP:=hD GB9.out.cbx
 simp only at XP
 refine hK.out _ _ trivial (fun _=> ?_)
 clear hK
 (try simp only[Act.put,List.setIfInBounds_toArray,List.set_cons_zero,List.set_cons_succ])
 (refine wpAnyH_take (i:=7) (v:= ?_) rfl (by kernel_rfl) (by kernel_rfl) (by kernel_rfl) (fun _ _ _ h=>h) (Or.inl ⟨by rfl,?_⟩) (by assumption) ?_;rotate_left;focus (intro ww hSw;(try dsimp only at hSw);go_simp;try with_reducible rfl);(try simp only[Act.put,List.setIfInBounds_toArray,List.set_cons_zero,List.set_cons_succ]));(refine wpAnyH_take (i:=8) (v:= ?_) rfl (by kernel_rfl) (by kernel_rfl) (by kernel_rfl) (fun _ _ _ h=>h) (Or.inl ⟨by rfl,?_⟩) (by assumption) ?_;rotate_left;focus (intro ww hSw;(try dsimp only at hSw);go_simp;try with_reducible rfl);(try simp only[Act.put,List.setIfInBounds_toArray,List.set_cons_zero,List.set_cons_succ]));(refine wpAnyH_take (i:=9) (v:= ?_) rfl (by kernel_rfl) (by kernel_rfl) (by kernel_rfl) (fun _ _ _ h=>h) (Or.inl ⟨by rfl,?_⟩) (by assumption) ?_;rotate_left;focus (intro ww hSw;(try dsimp only at hSw);go_simp;try with_reducible rfl);(try simp only[Act.put,List.setIfInBounds_toArray,List.set_cons_zero,List.set_cons_succ]))
 have uXP0:=XP.out.c0
 have uXP1:=XP.out.c1
 have uXP2:=XP.out.c2
 have wXP0:=XP.out.fz 0
 have wXP1:=XP.out.fz 1
 have wXP2:=XP.out.fz 2
 (refine wpAnyH_ready (rs:= [10]) (by kernel_rfl) (by simp) ?_;refine AllReadyH.cons rfl (fun K' hK=> ?_) AllReadyH.nil)
 go_simp
 refine hK.out _ _ trivial (fun _=> ?_)
 clear hK
 (refine wpAnyH_take (i:=11) (v:= ?_) rfl (by kernel_rfl) (by kernel_rfl) (by kernel_rfl) (fun _ _ _ h=>h) (Or.inl ⟨by rfl,?_⟩) (by assumption) ?_;rotate_left;focus (intro ww hSw;(try dsimp only at hSw);go_simp;try with_reducible rfl);(try simp only[Act.put,List.setIfInBounds_toArray,List.set_cons_zero,List.set_cons_succ]))
 refine wpAnyH_done (by kernel_rfl) ?_ _
 have GS:=hD (XP.out.set (m:=(n1,n2,ns)) OE9.out (fun b hb=>by have:=(OE9.out.1.lt b hb).1;(try simp[go_sem] at this);omega) hk1 hk2)
 simp only at GS
 have BS:Hid (Below W.heap.size W (((w9.setCell ⟨w7.heap.size,0,none⟩ (.int .i64 n1)).setCell ⟨w7.heap.size,1,none⟩ (.int .i64 n2)).setCell ⟨w7.heap.size,2,none⟩ (.slice A9 ns.length c9))):=hD (set3_below _ _ _ (B8.out.trans (B9.out.mono B8.out.size)) (by omega))
 generalize (((w9.setCell ⟨w7.heap.size,0,none⟩ (.int .i64 n1)).setCell ⟨w7.heap.size,1,none⟩ (.int .i64 n2)).setCell ⟨w7.heap.size,2,none⟩ (.slice A9 ns.length c9))=W11 at GS BS⊢
 clear wXP0 wXP1 wXP2 uXP0 uXP1 uXP2
 cases K9
 ·have F:=hD (HQ4.out HK9.out.symm)
  have uXR0:=(XR.out.below BS.out).c0
  have uXR1:=(XR.out.below BS.out).c1
  have uXR2:=(XR.out.below BS.out).c2
  have wXR0:=(XR.out.below BS.out).fz 0
  have wXR1:=(XR.out.below BS.out).fz 1
  have wXR2:=(XR.out.below BS.out).fz 2
  go_wp2
  obtain⟨e0,e1,e2,bw,ow⟩:=(XR.out.below BS.out).fin (a:= .int .i64 0) (b:= .int .i64 0) (BX.out.trans (BS.out.mono (by omega))) (by omega) (OwE.nil (base:=w.heap.size)) (fun b hb=>by cases hb)
  exact bodyPost_ret (v:= .tuple #[.agg #[.int .i64 0, .int .i64 0, .slice none 0 0], .int .i64 0, .bool false]) (by simp[results,Tryz.results118,go_sem,e0,e1,e2]) rfl ⟨_,by rw[F.out],by rw[F.out];exact⟨_,rfl,⟨by decide,by decide⟩,⟨by decide,by decide⟩,ow.arg⟩,bw⟩
 have F:=hD (HQ5.out HK9.out.symm)
 have hY:=HR9.out
 rw[←HK9.out,if_pos rfl] at hY
 obtain rfl:Y=(n1,n2,ns):=HRD.out.trans hY.symm
 clear hY
 have XT:=hD GS.out.cbx
 simp only at XT
 have hnR:w.heap.size+1≠w7.heap.size:=by omega
 have uXT0:=XT.out.c0
 have uXT1:=XT.out.c1
 have uXT2:=XT.out.c2
 have uXR0:=(XR.out.below BS.out).c0
 have uXR1:=(XR.out.below BS.out).c1
 have uXR2:=(XR.out.below BS.out).c2
 have wXR0:=(XR.out.below BS.out).fz 0
 have wXR1:=(XR.out.below BS.out).fz 1
 have wXR2:=(XR.out.below BS.out).fz 2
 go_wp2
 obtain⟨e0,e1,e2,bw,ow⟩:=(XR.out.below BS.out).fin (a:= .int .i64 n1) (b:= .int .i64 n2) (BX.out.trans (BS.out.mono (by omega))) (by omega) GS.out.ow (fun b hb=>by have h1:=(GS.out.ow.1.lt b hb).1;(try simp[go_sem] at h1);omega)
 exact bodyPost_ret (v:= .tuple #[.agg #[.int .i64 n1, .int .i64 n2, .slice A9 ns.length c9], .int .i64 N, .bool true]) (by simp[results,Tryz.results118,go_sem,e0,e1,e2]) rfl ⟨_,by rw[F.out],by rw[F.out];exact⟨_,rfl,hk1,hk2,ow.arg⟩,bw⟩
theorem conjF_ext {g:GrD} {t:List Int} (h1:coreB g=true) (h2:wordB g.1 t=true):conjF g t=if(extF g t).2.2=true then(movG (extF g t).1 (extF g t).2.1.toNat,true) else((0,0,[]),false):=by
 unfold conjF extF
 rw[if_pos ⟨h1,h2⟩]
 split
 ·rfl
 ·split<;>rfl
theorem ext_ok {g:GrD} {t:List Int} (hf:foldB g=true) (hw:wordB g.1 t=true) (h:(extF g t).2.2=true):foldB (extF g t).1=true∧0≤(extF g t).2.1∧(extF g t).2.1<(extF g t).1.2.1:=by
 have hg:=(foldB_parts hf).1
 have hN:=(grB_parts hg).2.1
 have hr:=read_range hg t 0 (by omega)
 have hle:=readF_le g.2.2 t 0
 unfold extF at h⊢
 split
 ·exact⟨hf,hr⟩
 ·rename_i q
  rw[if_neg q] at h
  split
  ·rename_i q2
   exact⟨cjY_fold hf hw (by omega) q2.1 q2.2,by show 0≤g.2.1;omega,cjY_size (by omega)⟩
  ·rename_i q2
   rw[if_neg q2] at h
   cases h
set_option maxHeartbeats 2000000 in
theorem implConjugateSubgroup_any (v y:Value) (g:GrD) (t:List Int) (w:World) (h:ArgG w v g) (ht:RdI w y t) (hl:t.length≤1073741824):
  Calls Tryz.prog 77 #[v,y] w fun e w'=> ∃r,e= .returned (.tuple #[r, .bool (conjF g t).2])∧OwG w' w.heap.size r (conjF g t).1∧Below w.heap.size w w':=by
 have HG:=hD h
 have HY:=hD ht
 have HC:=hD (conjF_cj g t)
 have HE:=hD (fun h1 h2=>conjF_ext (g:=g) (t:=t) h1 h2)
 generalize conjF g t=RES at*
 obtain⟨s,rfl,hi1,hi2,hga⟩:=h
 obtain⟨A,cap,rfl⟩:=hga.form
 obtain⟨T,tc,rfl,htc,htm,_⟩:=ht.arg
 unfold maxLen at htm
 obtain⟨g1,N,es⟩:=g
 simp only at*
 clear hga ht
 go_enter Tryz.func77,Tryz.ntmps77
 go_wp2_with fail
 obtain⟨W1,hW1⟩: ∃W,W=w.alloc (Obj.cells #[.int .i64 g1, .int .i64 N, .slice A es.length cap] 31):=⟨_,rfl⟩
 rw[←hW1]
 obtain⟨xG,bG,sG⟩:=CBx.new hW1
 clear hW1
 obtain⟨W,hW⟩: ∃W,W=W1.alloc (Obj.cells #[.int .i64 0, .int .i64 0, .slice none 0 0] 31):=⟨_,rfl⟩
 rw[←hW]
 obtain⟨xR,bR,sR⟩:=CBx.new hW
 clear hW
 have XG:=hD (xG.below bR)
 have XR:=hD xR
 rw[sG] at XR
 have BX:Hid (Below w.heap.size w W):=hD (bG.trans (bR.mono (by omega)))
 have hsW:w.heap.size+2≤W.heap.size:=by omega
 clear xG bG sG xR bR sR
 have HA:Hid (∀w',Below W.heap.size W w'→ArgG w' (.agg #[.int .i64 g1, .int .i64 N, .slice A es.length cap]) (g1,N,es)):=hD fun w' hb=>HG.out.below (BX.out.trans (hb.mono (by omega)))
 have HT:Hid (∀w',Below W.heap.size W w'→RdI w' (.slice T t.length tc) t):=hD fun w' hb=>HY.out.below (BX.out.trans (hb.mono (by omega)))
 refine(implIsCore_any _ (g1,N,es) W (HA.out W (Below.refl _ _))).mono ?_
 rintro e w1 ⟨rfl,b1⟩
 have B1:=hD b1
 have hw1:=b1.size
 clear b1
 rcases e1:coreB (g1,N,es) with _ | _
 ·have F:=hD (HC.out.c0 e1)
  clear e1
  have uXR0:=(XR.out.below B1.out).c0
  have uXR1:=(XR.out.below B1.out).c1
  have uXR2:=(XR.out.below B1.out).c2
  have wXR0:=(XR.out.below B1.out).fz 0
  have wXR1:=(XR.out.below B1.out).fz 1
  have wXR2:=(XR.out.below B1.out).fz 2
  go_wp2
  obtain⟨e0,e1,e2,bw,ow⟩:=(XR.out.below B1.out).fin (a:= .int .i64 0) (b:= .int .i64 0) (BX.out.trans (B1.out.mono (by omega))) (by omega) (OwE.nil (base:=w.heap.size)) (fun b hb=>by cases hb)
  exact bodyPost_ret (v:= .tuple #[.agg #[.int .i64 0, .int .i64 0, .slice none 0 0], .bool false]) (by simp[results,Tryz.results77,go_sem,e0,e1,e2]) rfl ⟨_,by rw[F.out],by rw[F.out];exact⟨.slice none 0 0,rfl,⟨by decide,by decide⟩,⟨by decide,by decide⟩,ow⟩,bw⟩
 have hf:=core_fold e1
 have HF:=hD hf
 clear hf
 have HCO:=hD e1
 clear e1
 have uXG0:=(XG.out.below B1.out).c0
 have uXG1:=(XG.out.below B1.out).c1
 have uXG2:=(XG.out.below B1.out).c2
 go_wp2_with fail
 refine(implIsWord_any g1 _ t w1 (HT.out w1 B1.out).arg (by omega)).mono ?_
 rintro e w2 ⟨rfl,rfl⟩
 clear uXG0 uXG1 uXG2
 rcases e2:wordB g1 t with _ | _
 ·have F:=hD (HC.out.c1 e2)
  clear e2
  have uXR0:=(XR.out.below B1.out).c0
  have uXR1:=(XR.out.below B1.out).c1
  have uXR2:=(XR.out.below B1.out).c2
  have wXR0:=(XR.out.below B1.out).fz 0
  have wXR1:=(XR.out.below B1.out).fz 1
  have wXR2:=(XR.out.below B1.out).fz 2
  go_wp2
  obtain⟨e0,e1,e2,bw,ow⟩:=(XR.out.below B1.out).fin (a:= .int .i64 0) (b:= .int .i64 0) (BX.out.trans (B1.out.mono (by omega))) (by omega) (OwE.nil (base:=w.heap.size)) (fun b hb=>by cases hb)
  exact bodyPost_ret (v:= .tuple #[.agg #[.int .i64 0, .int .i64 0, .slice none 0 0], .bool false]) (by simp[results,Tryz.results77,go_sem,e0,e1,e2]) rfl ⟨_,by rw[F.out],by rw[F.out];exact⟨.slice none 0 0,rfl,⟨by decide,by decide⟩,⟨by decide,by decide⟩,ow⟩,bw⟩
 have HWO:=hD e2
 clear e2
 have HE:=hD (HE.out HCO.out HWO.out)
 have HOK:=hD (fun h=>ext_ok (g:=(g1,N,es)) HF.out HWO.out h)
 clear HC
 have uXG0:=(XG.out.below B1.out).c0
 have uXG1:=(XG.out.below B1.out).c1
 have uXG2:=(XG.out.below B1.out).c2
 go_wp2_with fail
 clear uXG0 uXG1 uXG2
 refine(extend_any _ _ (g1,N,es) t w1 (HA.out w1 B1.out) (HT.out w1 B1.out) hl HF.out HWO.out).mono ?_
 rintro e w3 ⟨r3,rfl,o3,b3⟩
 have B3:=hD (B1.out.trans (b3.mono hw1))
 have hs3:=b3.size
 clear b3
 generalize extF (g1,N,es) t=C at*
 obtain⟨⟨c1,c2,cs⟩,u,ok⟩:=C
 simp only at o3 HE HOK⊢
 obtain⟨s1,rfl,hc1,hc2,oe3⟩:=o3
 obtain⟨A3,k3,rfl⟩:=oe3.form
 simp only at hc1 hc2 oe3⊢
 have b4':Below w3.heap.size w3 (w3.alloc (Obj.cells #[Value.int IntKind.i64 c1,Value.int IntKind.i64 c2, .slice A3 cs.length k3] 31)):=(Below.refl _ _).alloc (Nat.le_refl _) _
 have B4:=hD (B3.out.trans (b4'.mono (by omega)))
 have AE:=hD (oe3.below b4')
 clear b4' oe3
 cases ok
 ·have F:Hid (RES=((0,0,[]),false)):=hD (by rw[HE.out,if_neg (by decide)])
  have uXR0:=(XR.out.below B4.out).c0
  have uXR1:=(XR.out.below B4.out).c1
  have uXR2:=(XR.out.below B4.out).c2
  have wXR0:=(XR.out.below B4.out).fz 0
  have wXR1:=(XR.out.below B4.out).fz 1
  have wXR2:=(XR.out.below B4.out).fz 2
  go_wp2
  obtain⟨e0,e1,e2,bw,ow⟩:=(XR.out.below B4.out).fin (a:= .int .i64 0) (b:= .int .i64 0) (BX.out.trans (B4.out.mono (by omega))) (by omega) (OwE.nil (base:=w.heap.size)) (fun b hb=>by cases hb)
  exact bodyPost_ret (v:= .tuple #[.agg #[.int .i64 0, .int .i64 0, .slice none 0 0], .bool false]) (by simp[results,Tryz.results77,go_sem,e0,e1,e2]) rfl ⟨_,by rw[F.out],by rw[F.out];exact⟨.slice none 0 0,rfl,⟨by decide,by decide⟩,⟨by decide,by decide⟩,ow⟩,bw⟩
 obtain⟨hfc,hu0,hu1⟩:=HOK.out rfl
 obtain⟨u,rfl⟩: ∃u':Nat,u=(u':Int):=⟨u.toNat,by omega⟩
 have F:Hid (RES=(movG (c1,c2,cs) u,true)):=hD (by rw[HE.out,if_pos rfl];rfl)
 have HFC:=hD hfc
 clear hfc HE HOK
 go_wp2_with fail
 refine(implMoveBase_any _ (c1,c2,cs) u _ ⟨_,rfl,hc1,hc2,AE.out⟩ HFC.out hu1).mono ?_
 have hs4:=B4.out.size
 generalize w3.alloc (Obj.cells #[Value.int IntKind.i64 c1,Value.int IntKind.i64 c2, .slice A3 cs.length k3] 31)=w4 at*
 rintro e w5 ⟨r5,rfl,o5,b5⟩
 have B5:=hD (B4.out.trans (b5.mono hs4))
 have hs5:=b5.size
 clear b5
 generalize movG (c1,c2,cs) u=M at*
 obtain⟨m1,m2,ms⟩:=M
 obtain⟨s5,rfl,hj1,hj2,oe5⟩:=o5
 obtain⟨A5,k5,rfl,_⟩:=oe5.form
 simp only at hj1 hj2 oe5 F⊢
 have O5:=hD oe5
 clear oe5
 have uXR0:=(XR.out.below B5.out).c0
 have uXR1:=(XR.out.below B5.out).c1
 have uXR2:=(XR.out.below B5.out).c2
 have wXR0:=(XR.out.below B5.out).fz 0
 have wXR1:=(XR.out.below B5.out).fz 1
 have wXR2:=(XR.out.below B5.out).fz 2
 go_wp2
 obtain⟨e0,e1,e2,bw,ow⟩:=(XR.out.below B5.out).fin (a:= .int .i64 m1) (b:= .int .i64 m2) (BX.out.trans (B5.out.mono (by omega))) (by omega) O5.out (fun b hb=>by have h1:=(O5.out.1.lt b hb).1;(try simp[go_sem] at h1);omega)
 exact bodyPost_ret (v:= .tuple #[.agg #[.int .i64 m1, .int .i64 m2, .slice A5 ms.length k5], .bool true]) (by simp[results,Tryz.results77,go_sem,e0,e1,e2]) rfl ⟨_,by rw[F.out],by rw[F.out];exact⟨_,rfl,hj1,hj2,ow.mono (by(try simp[go_sem]);omega)⟩,bw⟩
def metF (a b:GrD) (t:List Int):GrD×Bool:=if(conjF b t).2=true then intF a (conjF b t).1 else((0,0,[]),false)
theorem dclF_eq (a b:GrD) (t:List Int):dclF a b t=if(metF a b t).2=true then rankF (metF a b t).1 else-1:=by
 unfold dclF metF
 by_cases h:(conjF b t).2=true
 ·rw[if_pos h]
  by_cases h2:(intF a (conjF b t).1).2=true
  ·rw[if_pos ⟨h,h2⟩,if_pos h2]
  ·rw[if_neg fun q=>h2 q.2,if_neg h2]
 ·rw[if_neg h,if_neg fun q=>h q.1,if_neg (by decide)]
set_option maxHeartbeats 2000000 in
theorem specMeetConjugate_any (va vb y:Value) (a b:GrD) (t:List Int) (w:World) (ha:ArgG w va a) (hb:ArgG w vb b) (ht:RdI w y t) (hl:t.length≤1073741824):
  Calls Tryz.prog 43 #[va,vb,y] w fun e w'=> ∃r,e= .returned (.tuple #[r, .bool (metF a b t).2])∧OwG w' w.heap.size r (metF a b t).1∧Below w.heap.size w w':=by
 have HGA:=hD ha
 have HGB:=hD hb
 have HY:=hD ht
 have HM0:Hid ((conjF b t).2=false→metF a b t=((0,0,[]),false)):=hD fun h=>by unfold metF;rw[if_neg (by rw[h];decide)]
 have HM1:Hid ((conjF b t).2=true→metF a b t=intF a (conjF b t).1):=hD fun h=>by unfold metF;rw[if_pos h]
 generalize metF a b t=RES at*
 obtain⟨sa,rfl,hai1,hai2,haa⟩:=ha
 obtain⟨A,ca,rfl⟩:=haa.form
 obtain⟨sb,rfl,hbi1,hbi2,hbb⟩:=hb
 obtain⟨B,cb,rfl⟩:=hbb.form
 obtain⟨T,tc,rfl,htc,htm,_⟩:=ht.arg
 obtain⟨a1,a2,as'⟩:=a
 obtain⟨b1,b2,bs⟩:=b
 simp only at*
 clear haa hbb ht
 go_enter Tryz.func43,Tryz.ntmps43
 go_wp2_with fail
 obtain⟨W1,hW1⟩: ∃W,W=w.alloc (Obj.cells #[.int .i64 a1, .int .i64 a2, .slice A as'.length ca] 31):=⟨_,rfl⟩
 rw[←hW1]
 obtain⟨xA,bA,sA⟩:=CBx.new hW1
 clear hW1
 obtain⟨W2,hW2⟩: ∃W,W=W1.alloc (Obj.cells #[.int .i64 b1, .int .i64 b2, .slice B bs.length cb] 31):=⟨_,rfl⟩
 rw[←hW2]
 obtain⟨xB,bB,sB⟩:=CBx.new hW2
 clear hW2
 obtain⟨W,hW⟩: ∃W,W=W2.alloc (Obj.cells #[.int .i64 0, .int .i64 0, .slice none 0 0] 31):=⟨_,rfl⟩
 rw[←hW]
 obtain⟨xR,bR,sR⟩:=CBx.new hW
 clear hW
 have XA:=hD ((xA.below bB).below bR)
 have XB:=hD (xB.below bR)
 have XR:=hD xR
 rw[sA] at XB
 rw[sB,sA] at XR
 have BX:Hid (Below w.heap.size w W):=hD (bA.trans ((bB.trans (bR.mono (by omega))).mono (by omega)))
 have hsW:w.heap.size+3≤W.heap.size:=by omega
 clear xA xB xR bA bB bR sA sB sR
 have HA:Hid (∀w',Below W.heap.size W w'→ArgG w' (.agg #[.int .i64 a1, .int .i64 a2, .slice A as'.length ca]) (a1,a2,as')):=hD fun w' hb=>HGA.out.below (BX.out.trans (hb.mono (by omega)))
 have HB:Hid (∀w',Below W.heap.size W w'→ArgG w' (.agg #[.int .i64 b1, .int .i64 b2, .slice B bs.length cb]) (b1,b2,bs)):=hD fun w' hb=>HGB.out.below (BX.out.trans (hb.mono (by omega)))
 have HT:Hid (∀w',Below W.heap.size W w'→RdI w' (.slice T t.length tc) t):=hD fun w' hb=>HY.out.below (BX.out.trans (hb.mono (by omega)))
 refine(specConjugateSubgroup_any _ _ (b1,b2,bs) t W (HB.out W (Below.refl _ _)) (HT.out W (Below.refl _ _)) hl).mono ?_
 rintro e w1 ⟨r1,rfl,o1,b1'⟩
 have B1:=hD b1'
 have hw1:=b1'.size
 clear b1'
 generalize conjF (b1,b2,bs) t=C at*
 obtain⟨⟨c1,c2,cs⟩,ok⟩:=C
 simp only at o1 HM0 HM1⊢
 obtain⟨s1,rfl,hc1,hc2,oe1⟩:=o1
 obtain⟨A1,k1,rfl,_⟩:=oe1.form
 simp only at hc1 hc2 oe1⊢
 have b2':Below w1.heap.size w1 (w1.alloc (Obj.cells #[Value.int IntKind.i64 c1,Value.int IntKind.i64 c2, .slice A1 cs.length k1] 31)):=(Below.refl _ _).alloc (Nat.le_refl _) _
 have B2:=hD (B1.out.trans (b2'.mono hw1))
 have OE:=hD (oe1.below b2')
 clear b2' oe1
 cases ok
 ·have F:=hD (HM0.out rfl)
  have uXR0:=(XR.out.below B2.out).c0
  have uXR1:=(XR.out.below B2.out).c1
  have uXR2:=(XR.out.below B2.out).c2
  have wXR0:=(XR.out.below B2.out).fz 0
  have wXR1:=(XR.out.below B2.out).fz 1
  have wXR2:=(XR.out.below B2.out).fz 2
  go_wp2
  obtain⟨e0,e1,e2,bw,ow⟩:=(XR.out.below B2.out).fin (a:= .int .i64 0) (b:= .int .i64 0) (BX.out.trans (B2.out.mono (by omega))) (by omega) (OwE.nil (base:=w.heap.size)) (fun b hb=>by cases hb)
  exact bodyPost_ret (v:= .tuple #[.agg #[.int .i64 0, .int .i64 0, .slice none 0 0], .bool false]) (by simp[results,Tryz.results43,go_sem,e0,e1,e2]) rfl ⟨_,by rw[F.out],by rw[F.out];exact⟨.slice none 0 0,rfl,⟨by decide,by decide⟩,⟨by decide,by decide⟩,ow⟩,bw⟩
 have F:=hD (HM1.out rfl)
 clear HM0 HM1
 have uXA0:=(XA.out.below B2.out).c0
 have uXA1:=(XA.out.below B2.out).c1
 have uXA2:=(XA.out.below B2.out).c2
 go_wp2_with fail
 clear uXA0 uXA1 uXA2
 refine(specIntersectionOf_any _ _ (a1,a2,as') (c1,c2,cs) _ (HA.out _ B2.out) ⟨_,rfl,hc1,hc2,OE.out.arg⟩).mono ?_
 have hs2:=B2.out.size
 generalize w1.alloc (Obj.cells #[Value.int IntKind.i64 c1,Value.int IntKind.i64 c2, .slice A1 cs.length k1] 31)=w2 at*
 rintro e w3 ⟨r3,rfl,o3,b3⟩
 have B3:=hD (B2.out.trans (b3.mono hs2))
 have hs3:=b3.size
 clear b3
 generalize intF (a1,a2,as') (c1,c2,cs)=M at*
 obtain⟨⟨m1,m2,ms⟩,ok⟩:=M
 obtain⟨s3,rfl,hj1,hj2,oe3⟩:=o3
 obtain⟨A3,k3,rfl,_⟩:=oe3.form
 simp only at hj1 hj2 oe3 F⊢
 have b4:Below w3.heap.size w3 (w3.alloc (Obj.cells #[Value.int IntKind.i64 m1,Value.int IntKind.i64 m2, .slice A3 ms.length k3] 31)):=(Below.refl _ _).alloc (Nat.le_refl _) _
 have B4:=hD (B3.out.trans (b4.mono (by omega)))
 have O4:=hD (oe3.below b4)
 clear b4 oe3
 have uXR0:=(XR.out.below B4.out).c0
 have uXR1:=(XR.out.below B4.out).c1
 have uXR2:=(XR.out.below B4.out).c2
 have wXR0:=(XR.out.below B4.out).fz 0
 have wXR1:=(XR.out.below B4.out).fz 1
 have wXR2:=(XR.out.below B4.out).fz 2
 go_wp2
 obtain⟨e0,e1,e2,bw,ow⟩:=(XR.out.below B4.out).fin (a:= .int .i64 m1) (b:= .int .i64 m2) (BX.out.trans (B4.out.mono (by omega))) (by omega) O4.out (fun b hb=>by have h1:=(O4.out.1.lt b hb).1;(try simp[go_sem] at h1);omega)
 exact bodyPost_ret (v:= .tuple #[.agg #[.int .i64 m1, .int .i64 m2, .slice A3 ms.length k3], .bool ok]) (by simp[results,Tryz.results43,go_sem,e0,e1,e2]) rfl ⟨_,by rw[F.out],by rw[F.out];exact⟨_,rfl,hj1,hj2,ow.mono (by(try simp[go_sem]);omega)⟩,bw⟩
set_option maxHeartbeats 2000000 in
theorem implMeetConjugate_any (va vb y:Value) (a b:GrD) (t:List Int) (w:World) (ha:ArgG w va a) (hb:ArgG w vb b) (ht:RdI w y t) (hl:t.length≤1073741824):
  Calls Tryz.prog 45 #[va,vb,y] w fun e w'=> ∃r,e= .returned (.tuple #[r, .bool (metF a b t).2])∧OwG w' w.heap.size r (metF a b t).1∧Below w.heap.size w w':=by
 have HGA:=hD ha
 have HGB:=hD hb
 have HY:=hD ht
 have HM0:Hid ((conjF b t).2=false→metF a b t=((0,0,[]),false)):=hD fun h=>by unfold metF;rw[if_neg (by rw[h];decide)]
 have HM1:Hid ((conjF b t).2=true→metF a b t=intF a (conjF b t).1):=hD fun h=>by unfold metF;rw[if_pos h]
 generalize metF a b t=RES at*
 obtain⟨sa,rfl,hai1,hai2,haa⟩:=ha
 obtain⟨A,ca,rfl⟩:=haa.form
 obtain⟨sb,rfl,hbi1,hbi2,hbb⟩:=hb
 obtain⟨B,cb,rfl⟩:=hbb.form
 obtain⟨T,tc,rfl,htc,htm,_⟩:=ht.arg
 obtain⟨a1,a2,as'⟩:=a
 obtain⟨b1,b2,bs⟩:=b
 simp only at*
 clear haa hbb ht
 go_enter Tryz.func45,Tryz.ntmps45
 go_wp2_with fail
 obtain⟨W1,hW1⟩: ∃W,W=w.alloc (Obj.cells #[.int .i64 a1, .int .i64 a2, .slice A as'.length ca] 31):=⟨_,rfl⟩
 rw[←hW1]
 obtain⟨xA,bA,sA⟩:=CBx.new hW1
 clear hW1
 obtain⟨W2,hW2⟩: ∃W,W=W1.alloc (Obj.cells #[.int .i64 b1, .int .i64 b2, .slice B bs.length cb] 31):=⟨_,rfl⟩
 rw[←hW2]
 obtain⟨xB,bB,sB⟩:=CBx.new hW2
 clear hW2
 obtain⟨W,hW⟩: ∃W,W=W2.alloc (Obj.cells #[.int .i64 0, .int .i64 0, .slice none 0 0] 31):=⟨_,rfl⟩
 rw[←hW]
 obtain⟨xR,bR,sR⟩:=CBx.new hW
 clear hW
 have XA:=hD ((xA.below bB).below bR)
 have XB:=hD (xB.below bR)
 have XR:=hD xR
 rw[sA] at XB
 rw[sB,sA] at XR
 have BX:Hid (Below w.heap.size w W):=hD (bA.trans ((bB.trans (bR.mono (by omega))).mono (by omega)))
 have hsW:w.heap.size+3≤W.heap.size:=by omega
 clear xA xB xR bA bB bR sA sB sR
 have HA:Hid (∀w',Below W.heap.size W w'→ArgG w' (.agg #[.int .i64 a1, .int .i64 a2, .slice A as'.length ca]) (a1,a2,as')):=hD fun w' hb=>HGA.out.below (BX.out.trans (hb.mono (by omega)))
 have HB:Hid (∀w',Below W.heap.size W w'→ArgG w' (.agg #[.int .i64 b1, .int .i64 b2, .slice B bs.length cb]) (b1,b2,bs)):=hD fun w' hb=>HGB.out.below (BX.out.trans (hb.mono (by omega)))
 have HT:Hid (∀w',Below W.heap.size W w'→RdI w' (.slice T t.length tc) t):=hD fun w' hb=>HY.out.below (BX.out.trans (hb.mono (by omega)))
 refine(implConjugateSubgroup_any _ _ (b1,b2,bs) t W (HB.out W (Below.refl _ _)) (HT.out W (Below.refl _ _)) hl).mono ?_
 rintro e w1 ⟨r1,rfl,o1,b1'⟩
 have B1:=hD b1'
 have hw1:=b1'.size
 clear b1'
 generalize conjF (b1,b2,bs) t=C at*
 obtain⟨⟨c1,c2,cs⟩,ok⟩:=C
 simp only at o1 HM0 HM1⊢
 obtain⟨s1,rfl,hc1,hc2,oe1⟩:=o1
 obtain⟨A1,k1,rfl,_⟩:=oe1.form
 simp only at hc1 hc2 oe1⊢
 have b2':Below w1.heap.size w1 (w1.alloc (Obj.cells #[Value.int IntKind.i64 c1,Value.int IntKind.i64 c2, .slice A1 cs.length k1] 31)):=(Below.refl _ _).alloc (Nat.le_refl _) _
 have B2:=hD (B1.out.trans (b2'.mono hw1))
 have OE:=hD (oe1.below b2')
 clear b2' oe1
 cases ok
 ·have F:=hD (HM0.out rfl)
  have uXR0:=(XR.out.below B2.out).c0
  have uXR1:=(XR.out.below B2.out).c1
  have uXR2:=(XR.out.below B2.out).c2
  have wXR0:=(XR.out.below B2.out).fz 0
  have wXR1:=(XR.out.below B2.out).fz 1
  have wXR2:=(XR.out.below B2.out).fz 2
  go_wp2
  obtain⟨e0,e1,e2,bw,ow⟩:=(XR.out.below B2.out).fin (a:= .int .i64 0) (b:= .int .i64 0) (BX.out.trans (B2.out.mono (by omega))) (by omega) (OwE.nil (base:=w.heap.size)) (fun b hb=>by cases hb)
  exact bodyPost_ret (v:= .tuple #[.agg #[.int .i64 0, .int .i64 0, .slice none 0 0], .bool false]) (by simp[results,Tryz.results45,go_sem,e0,e1,e2]) rfl ⟨_,by rw[F.out],by rw[F.out];exact⟨.slice none 0 0,rfl,⟨by decide,by decide⟩,⟨by decide,by decide⟩,ow⟩,bw⟩
 have F:=hD (HM1.out rfl)
 clear HM0 HM1
 have uXA0:=(XA.out.below B2.out).c0
 have uXA1:=(XA.out.below B2.out).c1
 have uXA2:=(XA.out.below B2.out).c2
 go_wp2_with fail
 clear uXA0 uXA1 uXA2
 refine(implIntersectionOf_any _ _ (a1,a2,as') (c1,c2,cs) _ (HA.out _ B2.out) ⟨_,rfl,hc1,hc2,OE.out.arg⟩).mono ?_
 have hs2:=B2.out.size
 generalize w1.alloc (Obj.cells #[Value.int IntKind.i64 c1,Value.int IntKind.i64 c2, .slice A1 cs.length k1] 31)=w2 at*
 rintro e w3 ⟨r3,rfl,o3,b3⟩
 have B3:=hD (B2.out.trans (b3.mono hs2))
 have hs3:=b3.size
 clear b3
 generalize intF (a1,a2,as') (c1,c2,cs)=M at*
 obtain⟨⟨m1,m2,ms⟩,ok⟩:=M
 obtain⟨s3,rfl,hj1,hj2,oe3⟩:=o3
 obtain⟨A3,k3,rfl,_⟩:=oe3.form
 simp only at hj1 hj2 oe3 F⊢
 have B4:=hD B3.out
 have O4:=hD oe3
 clear oe3
 have uXR0:=(XR.out.below B4.out).c0
 have uXR1:=(XR.out.below B4.out).c1
 have uXR2:=(XR.out.below B4.out).c2
 have wXR0:=(XR.out.below B4.out).fz 0
 have wXR1:=(XR.out.below B4.out).fz 1
 have wXR2:=(XR.out.below B4.out).fz 2
 go_wp2
 obtain⟨e0,e1,e2,bw,ow⟩:=(XR.out.below B4.out).fin (a:= .int .i64 m1) (b:= .int .i64 m2) (BX.out.trans (B4.out.mono (by omega))) (by omega) O4.out (fun b hb=>by have h1:=(O4.out.1.lt b hb).1;(try simp[go_sem] at h1);omega)
 exact bodyPost_ret (v:= .tuple #[.agg #[.int .i64 m1, .int .i64 m2, .slice A3 ms.length k3], .bool ok]) (by simp[results,Tryz.results45,go_sem,e0,e1,e2]) rfl ⟨_,by rw[F.out],by rw[F.out];exact⟨_,rfl,hj1,hj2,ow.mono (by(try simp[go_sem]);omega)⟩,bw⟩
set_option maxHeartbeats 2000000 in
theorem specDoubleCosetLoops_any (va vb y:Value) (a b:GrD) (t:List Int) (w:World) (ha:ArgG w va a) (hb:ArgG w vb b) (ht:RdI w y t) (hl:t.length≤1073741824):
  Calls Tryz.prog 16 #[va,vb,y] w fun e w'=>e= .returned (.int .i64 (dclF a b t))∧Below w.heap.size w w':=by
 have HGA:=hD ha
 have HGB:=hD hb
 have HY:=hD ht
 have HD:=hD (dclF_eq a b t)
 generalize dclF a b t=D at*
 obtain⟨sa,rfl,hai1,hai2,haa⟩:=ha
 obtain⟨A,ca,rfl⟩:=haa.form
 obtain⟨sb,rfl,hbi1,hbi2,hbb⟩:=hb
 obtain⟨B,cb,rfl⟩:=hbb.form
 obtain⟨T,tc,rfl,htc,htm,_⟩:=ht.arg
 obtain⟨a1,a2,as'⟩:=a
 obtain⟨b1,b2,bs⟩:=b
 simp only at*
 clear haa hbb ht
 go_enter Tryz.func16,Tryz.ntmps16
 go_wp2_with fail
 obtain⟨W1,hW1⟩: ∃W,W=w.alloc (Obj.cells #[.int .i64 a1, .int .i64 a2, .slice A as'.length ca] 31):=⟨_,rfl⟩
 rw[←hW1]
 obtain⟨xA,bA,sA⟩:=CBx.new hW1
 clear hW1
 obtain⟨W,hW⟩: ∃W,W=W1.alloc (Obj.cells #[.int .i64 b1, .int .i64 b2, .slice B bs.length cb] 31):=⟨_,rfl⟩
 rw[←hW]
 obtain⟨xB,bB,sB⟩:=CBx.new hW
 clear hW
 have XA:=hD (xA.below bB)
 have XB:=hD xB
 rw[sA] at XB
 have BX:Hid (Below w.heap.size w W):=hD (bA.trans (bB.mono (by omega)))
 have hsW:w.heap.size+2≤W.heap.size:=by omega
 clear xA xB bA bB sA sB
 have HA:Hid (∀w',Below W.heap.size W w'→ArgG w' (.agg #[.int .i64 a1, .int .i64 a2, .slice A as'.length ca]) (a1,a2,as')):=hD fun w' hb=>HGA.out.below (BX.out.trans (hb.mono (by omega)))
 have HB:Hid (∀w',Below W.heap.size W w'→ArgG w' (.agg #[.int .i64 b1, .int .i64 b2, .slice B bs.length cb]) (b1,b2,bs)):=hD fun w' hb=>HGB.out.below (BX.out.trans (hb.mono (by omega)))
 have HT:Hid (∀w',Below W.heap.size W w'→RdI w' (.slice T t.length tc) t):=hD fun w' hb=>HY.out.below (BX.out.trans (hb.mono (by omega)))
 refine(specMeetConjugate_any _ _ _ (a1,a2,as') (b1,b2,bs) t W (HA.out W (Below.refl _ _)) (HB.out W (Below.refl _ _)) (HT.out W (Below.refl _ _)) hl).mono ?_
 rintro e w3 ⟨r3,rfl,o3,b3⟩
 have B3:=hD b3
 have hs3:=b3.size
 clear b3
 generalize metF (a1,a2,as') (b1,b2,bs) t=M at*
 obtain⟨⟨m1,m2,ms⟩,ok⟩:=M
 obtain⟨s3,rfl,hj1,hj2,oe3⟩:=o3
 obtain⟨A3,k3,rfl,_⟩:=oe3.form
 simp only at hj1 hj2 oe3 HD⊢
 have b4:Below w3.heap.size w3 (w3.alloc (Obj.cells #[Value.int IntKind.i64 m1,Value.int IntKind.i64 m2, .slice A3 ms.length k3] 31)):=(Below.refl _ _).alloc (Nat.le_refl _) _
 have B4:=hD (B3.out.trans (b4.mono (by omega)))
 have O4:=hD (oe3.below b4)
 clear b4 oe3
 cases ok
 ·have F:Hid (D= -1):=hD (by rw[HD.out,if_neg (by decide)])
  go_wp2
  go_ret
  exact⟨ret_int F.out.symm,BX.out.trans (B4.out.mono (by omega))⟩
 have F:Hid (D=rankF (m1,m2,ms)):=hD (by rw[HD.out,if_pos rfl])
 go_wp2_with fail
 refine(specRankOf_any _ (m1,m2,ms) _ ⟨_,rfl,hj1,hj2,O4.out.arg⟩).mono ?_
 have hs4:=B4.out.size
 generalize w3.alloc (Obj.cells #[Value.int IntKind.i64 m1,Value.int IntKind.i64 m2, .slice A3 ms.length k3] 31)=w4 at*
 rintro e w5 ⟨rfl,b5⟩
 have B5:=hD (B4.out.trans (b5.mono hs4))
 clear b5
 go_wp2
 go_ret
 exact⟨ret_int F.out.symm,BX.out.trans (B5.out.mono (by omega))⟩
set_option maxHeartbeats 2000000 in
theorem implDoubleCosetLoops_any (va vb y:Value) (a b:GrD) (t:List Int) (w:World) (ha:ArgG w va a) (hb:ArgG w vb b) (ht:RdI w y t) (hl:t.length≤1073741824):
  Calls Tryz.prog 18 #[va,vb,y] w fun e w'=>e= .returned (.int .i64 (dclF a b t))∧Below w.heap.size w w':=by
 have HGA:=hD ha
 have HGB:=hD hb
 have HY:=hD ht
 have HD:=hD (dclF_eq a b t)
 generalize dclF a b t=D at*
 obtain⟨sa,rfl,hai1,hai2,haa⟩:=ha
 obtain⟨A,ca,rfl⟩:=haa.form
 obtain⟨sb,rfl,hbi1,hbi2,hbb⟩:=hb
 obtain⟨B,cb,rfl⟩:=hbb.form
 obtain⟨T,tc,rfl,htc,htm,_⟩:=ht.arg
 obtain⟨a1,a2,as'⟩:=a
 obtain⟨b1,b2,bs⟩:=b
 simp only at*
 clear haa hbb ht
 go_enter Tryz.func18,Tryz.ntmps18
 go_wp2_with fail
 obtain⟨W1,hW1⟩: ∃W,W=w.alloc (Obj.cells #[.int .i64 a1, .int .i64 a2, .slice A as'.length ca] 31):=⟨_,rfl⟩
 rw[←hW1]
 obtain⟨xA,bA,sA⟩:=CBx.new hW1
 clear hW1
 obtain⟨W,hW⟩: ∃W,W=W1.alloc (Obj.cells #[.int .i64 b1, .int .i64 b2, .slice B bs.length cb] 31):=⟨_,rfl⟩
 rw[←hW]
 obtain⟨xB,bB,sB⟩:=CBx.new hW
 clear hW
 have XA:=hD (xA.below bB)
 have XB:=hD xB
 rw[sA] at XB
 have BX:Hid (Below w.heap.size w W):=hD (bA.trans (bB.mono (by omega)))
 have hsW:w.heap.size+2≤W.heap.size:=by omega
 clear xA xB bA bB sA sB
 have HA:Hid (∀w',Below W.heap.size W w'→ArgG w' (.agg #[.int .i64 a1, .int .i64 a2, .slice A as'.length ca]) (a1,a2,as')):=hD fun w' hb=>HGA.out.below (BX.out.trans (hb.mono (by omega)))
 have HB:Hid (∀w',Below W.heap.size W w'→ArgG w' (.agg #[.int .i64 b1, .int .i64 b2, .slice B bs.length cb]) (b1,b2,bs)):=hD fun w' hb=>HGB.out.below (BX.out.trans (hb.mono (by omega)))
 have HT:Hid (∀w',Below W.heap.size W w'→RdI w' (.slice T t.length tc) t):=hD fun w' hb=>HY.out.below (BX.out.trans (hb.mono (by omega)))
 refine(implMeetConjugate_any _ _ _ (a1,a2,as') (b1,b2,bs) t W (HA.out W (Below.refl _ _)) (HB.out W (Below.refl _ _)) (HT.out W (Below.refl _ _)) hl).mono ?_
 rintro e w3 ⟨r3,rfl,o3,b3⟩
 have B3:=hD b3
 have hs3:=b3.size
 clear b3
 generalize metF (a1,a2,as') (b1,b2,bs) t=M at*
 obtain⟨⟨m1,m2,ms⟩,ok⟩:=M
 obtain⟨s3,rfl,hj1,hj2,oe3⟩:=o3
 obtain⟨A3,k3,rfl,_⟩:=oe3.form
 simp only at hj1 hj2 oe3 HD⊢
 have b4:Below w3.heap.size w3 (w3.alloc (Obj.cells #[Value.int IntKind.i64 m1,Value.int IntKind.i64 m2, .slice A3 ms.length k3] 31)):=(Below.refl _ _).alloc (Nat.le_refl _) _
 have B4:=hD (B3.out.trans (b4.mono (by omega)))
 have O4:=hD (oe3.below b4)
 clear b4 oe3
 cases ok
 ·have F:Hid (D= -1):=hD (by rw[HD.out,if_neg (by decide)])
  go_wp2
  go_ret
  exact⟨ret_int F.out.symm,BX.out.trans (B4.out.mono (by omega))⟩
 have F:Hid (D=rankF (m1,m2,ms)):=hD (by rw[HD.out,if_pos rfl])
 go_wp2_with fail
 refine(implRankOf_any _ (m1,m2,ms) _ ⟨_,rfl,hj1,hj2,O4.out.arg⟩).mono ?_
 have hs4:=B4.out.size
 generalize w3.alloc (Obj.cells #[Value.int IntKind.i64 m1,Value.int IntKind.i64 m2, .slice A3 ms.length k3] 31)=w4 at*
 rintro e w5 ⟨rfl,b5⟩
 have B5:=hD (B4.out.trans (b5.mono hs4))
 clear b5
 go_wp2
 go_ret
 exact⟨ret_int F.out.symm,BX.out.trans (B5.out.mono (by omega))⟩
end Go.Proofs.YtfadnkjlilhneaaGreat
