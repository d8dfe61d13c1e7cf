/- Parts of the proof: DrawI, DrawJ, DrawK, DrawM, PowI, DrawL, CmpW, Rot, EqW, PowP, PowR, DrawR, Lst, Quo, Frame, MarkG, MarkGS, QuoM, Conj. -/
import Derived.Test.YteobmaambgmdbaaGreatP06
import Derived.Test.YteobmaambgmdbaaGreatP03
import Derived.Test.YteobmaambgmdbaaGreatP04
import Derived.Test.YteobmaambgmdbaaGreatP02
import Derived.Outline
import Derived.Deep.RegionHeld3
import Derived.Test.YteobmaambgmdbaaGreatP01
import Derived.Test.YteobmaambgmdbaaGreatP05
import Derived.ProofKit
import Derived.OpenShut
import Derived.ShutString
import Derived.ChangeOld
import Derived.Lib.SmallJoins
namespace Go.Proofs.YteobmaambgmdbaaGreat
set_option maxRecDepth 20000
set_option linter.unusedVariables false
set_option linter.unusedSimpArgs false
open Go.RowKit
set_option maxHeartbeats 4000000 in
theorem specAddPath_nil (v y:Value) (g:GrD) (a b:Int) (w:World) (h:ArgG w v g) (ht:RdI w y []) (hg:grB g=true) (ha:0≤a∧a<g.2.1) (hb:0≤b∧b<g.2.1):
  Calls Tryz.prog 103 #[v, .int .i64 a,y, .int .i64 b] w fun x w'=> ∃r,x= .returned (.tuple #[r, .bool false])∧OwG w' w.heap.size r g∧Below w.heap.size w w':=by
 have HG:=hDD h
 have HY:=hDD ht
 have HGR:=hDD hg
 have HW:=hDD (show wordB g.1 []=true by unfold wordB;rw[inB_iff.2 (grB_parts hg).1];rfl)
 have HA:=hDD ha
 have HBV:=hDD hb
 obtain⟨h13,h40,h120,_⟩:=grB_parts hg
 obtain⟨s,rfl,hi1,hi2,hga⟩:=h
 obtain⟨A,cap,rfl⟩:=hga.form
 obtain⟨T,tc,rfl,_⟩:=ht.arg
 obtain⟨g1,N,es⟩:=g
 simp only at*
 clear hga hg ha hb
 go_enter Tryz.func103,Tryz.ntmps103
 go_wp2_with fail
 obtain⟨W1,hW1⟩: ∃W,W=w.alloc (Obj.cells #[Value.int IntKind.i64 g1,Value.int IntKind.i64 N, .slice A es.length cap] 26):=⟨_,rfl⟩
 rw[←hW1]
 obtain⟨hs1,b1,hc1,_⟩:=gbox hW1
 obtain⟨W,hW⟩: ∃W,W=W1.alloc (Obj.cells #[Value.int IntKind.i64 0,Value.int IntKind.i64 0, .slice none 0 0] 26):=⟨_,rfl⟩
 rw[←hW]
 obtain⟨hs2,b2,hc2,hf2⟩:=gbox hW
 have hsW:W.heap.size=w.heap.size+2:=by omega
 have HC1:=hDD hc1
 have HC2:=hDD hc2
 have HF2:=hDD hf2
 have BX1:=hDD b1
 have BX2:=hDD b2
 have BX:Hid (Below w.heap.size w W):=hDD (b1.trans (b2.mono (by omega)))
 have HCL:Hid (∀w',Below (w.heap.size+2) W w'→w'.cell? ⟨w.heap.size,0,none⟩=some (.int .i64 g1)∧w'.cell? ⟨w.heap.size,1,none⟩=some (.int .i64 N)∧w'.cell? ⟨w.heap.size,2,none⟩=some (.slice A es.length cap)):=hDD fun w' hb=>HC1.out w' ((BX2.out.mono (by omega)).trans (hb.mono (by omega)))
 have HRC:Hid (∀w',Below (w.heap.size+2) W w'→(w'.cell? ⟨w.heap.size+1,0,none⟩=some (.int .i64 0)∧w'.cell? ⟨w.heap.size+1,1,none⟩=some (.int .i64 0)∧w'.cell? ⟨w.heap.size+1,2,none⟩=some (.slice none 0 0))∧ ∀j,w'.frozen? ⟨w.heap.size+1,j,none⟩=false):=hDD fun w' hb=>by
  have e:Below (W1.heap.size+1) W w':=hb.mono (by omega)
  have h1:=HC2.out w' e
  have h2:=fun j=>HF2.out j w' e
  rw[hs1] at h1 h2
  exact⟨h1,h2⟩
 have HAG:Hid (∀w',Below (w.heap.size+2) W w'→ArgG w' (.agg #[.int .i64 g1, .int .i64 N, .slice A es.length cap]) (g1,N,es)):=hDD fun w' hb=>HG.out.below (BX.out.trans (hb.mono (by omega)))
 have HAT:Hid (∀w',Below (w.heap.size+2) W w'→RdI w' (.slice T 0 tc) []):=hDD fun w' hb=>HY.out.below (BX.out.trans (hb.mono (by omega)))
 clear hW1 hW hc1 hc2 hf2 b1 b2 HC1 HC2 HF2 BX1 BX2 hs1 hs2
 obtain⟨q0,q1,q2⟩:=HCL.out W ((Below.refl W.heap.size W).mono (by omega))
 refine(l4Copy_any _ (g1,N,es) W (HAG.out W ((Below.refl W.heap.size W).mono (by omega))) (by simp only;omega)).mono ?_
 clear q0 q1 q2
 rintro e w5 ⟨r,rfl,o5,b5⟩
 have hs5:=b5.size
 have B5:Hid (Below (w.heap.size+2) W w5):=hDD (b5.mono (by omega))
 obtain⟨s1,rfl,_,_,oe5⟩:=o5
 obtain⟨A1,c1,rfl,_⟩:=oe5.form
 simp only at*
 clear b5
 have b6':Below w5.heap.size w5 (w5.alloc (Obj.cells #[Value.int IntKind.i64 g1,Value.int IntKind.i64 N, .slice A1 es.length c1] 26)):=(Below.refl _ _).alloc (Nat.le_refl _) _
 obtain⟨q0,q1,q2⟩:=HCL.out _ (B5.out.trans (b6'.mono (by omega)))
 clear b6'
 go_wp2_with fail
 clear q0 q1 q2
 obtain⟨W6,hW6⟩: ∃W,W=w5.alloc (Obj.cells #[Value.int IntKind.i64 g1,Value.int IntKind.i64 N, .slice A1 es.length c1] 26):=⟨_,rfl⟩
 have GB6:=hDD (GBx.new (m:=(g1,N,es)) oe5 hi1 hi2 hW6)
 obtain⟨hs6,b6,_,_⟩:=gbox hW6
 rw[←hW6]
 have B6:Hid (Below (w.heap.size+2) W W6):=hDD (B5.out.trans (b6.mono (by omega)))
 clear hW6 b6 oe5
 obtain⟨p,hp⟩: ∃p,p=w5.heap.size:=⟨_,rfl⟩
 rw[←hp] at GB6⊢
 have hpw:w.heap.size+2≤p:=by omega
 have hp6:p<W6.heap.size:=by omega
 clear hp hs6 hs5
 have HIG:=hDD (specIsGraph_any _ (g1,N,es) W6 (HAG.out W6 B6.out))
 rw[HGR.out] at HIG
 refine HIG.out.mono ?_
 clear HIG
 rintro e w7 ⟨rfl,b7⟩
 have B7:=hDD (B6.out.trans (b7.mono (by have:=B6.out.size;omega)))
 have GB7:=hDD (GB6.out.below b7)
 clear b7
 obtain⟨q0,q1,q2⟩:=HCL.out w7 B7.out
 have E1:inB a 0 (N-1)=true:=by unfold inB;simp;have:=HA.out;omega
 have E2:inB b 0 (N-1)=true:=by unfold inB;simp;have:=HBV.out;omega
 have EW:=hDD (specIsWord_any g1 _ [] w7 (HAT.out w7 B7.out).arg (by simp))
 rw[HW.out] at EW
 go_wp2_with (go_at_call 68;refine(l1In_any _ _ _ _).mono ?_;rintro e w' ⟨rfl,rfl⟩)
 refine EW.out.mono ?_
 clear EW E1 E2 q0 q1 q2
 rintro e w8 ⟨rfl,nd,rfl⟩
 obtain⟨w8,hw8⟩: ∃W,W=w7.drewN nd:=⟨_,rfl⟩
 rw[←hw8]
 have B8:Hid (Below (w.heap.size+2) W w8):=hDD (by rw[hw8];exact bel_drewN B7.out _)
 have GB8:Hid (GBx w8 p W.heap.size A1 c1 (g1,N,es)):=hDD (by rw[hw8];exact GB7.out.below (bel_drewN (Below.refl _ _) _))
 clear hw8
 obtain⟨q0,q1,q2⟩:=HCL.out w8 B8.out
 have z0:=GB8.out.c0
 have z1:=GB8.out.c1
 have z2:=GB8.out.c2
 simp only at z0 z1 z2
 obtain⟨⟨r0,r1,r2⟩,hrf⟩:=HRC.out w8 B8.out
 have rf0:=hrf 0
 have rf1:=hrf 1
 have rf2:=hrf 2
 clear hrf
 go_wp2
 obtain⟨e0,e1,e2⟩:=cells3F (.int .i64 g1) (.int .i64 N) (.slice A1 es.length c1) r0 r1 r2
 have bw:Below w.heap.size w (((w8.setCell ⟨w.heap.size+1,0,none⟩ (.int .i64 g1)).setCell ⟨w.heap.size+1,1,none⟩ (.int .i64 N)).setCell ⟨w.heap.size+1,2,none⟩ (.slice A1 es.length c1)):=set3_below _ _ _ (BX.out.trans (B8.out.mono (by omega))) (by omega)
 have ow:OwE (((w8.setCell ⟨w.heap.size+1,0,none⟩ (.int .i64 g1)).setCell ⟨w.heap.size+1,1,none⟩ (.int .i64 N)).setCell ⟨w.heap.size+1,2,none⟩ (.slice A1 es.length c1)) W.heap.size (.slice A1 es.length c1) es:=GB8.out.ow.keep fun b hb=>set3_heap _ _ _ _ _ (by have:=(GB8.out.ow.1.lt b hb).1;omega)
 exact bodyPost_ret (v:= .tuple #[.agg #[.int .i64 g1, .int .i64 N, .slice A1 es.length c1], .bool false]) (by simp[results,Tryz.results103,go_sem,e0,e1,e2]) rfl ⟨_,rfl,⟨.slice A1 es.length c1,rfl,hi1,hi2,ow.mono (by omega)⟩,bw⟩
def petG (g:GrD) (t:List Int):GrD:=if t= [] then g else if addOk g t=true then addG g 0 0 t else g
def petB (g:GrD) (t:List Int):Bool:=if t= [] then false else addOk g t
theorem petG_ok {g:GrD} {t:List Int} (hg:grB g=true) (hw:wordB g.1 t=true):grB (petG g t)=true∧(petG g t).1=g.1∧(petG g t).2.2.length≤g.2.2.length+t.length:=by
 have hr:=(grB_parts hg).2.1
 unfold petG
 split
 ·exact⟨hg,rfl,by omega⟩
 ·rename_i h0
  have h0':t.length≠0:=fun q=>h0 (List.eq_nil_of_length_eq_zero q)
  split
  ·rename_i hok
   refine⟨addG_gr hg (by omega) (by omega) hw h0' hok,rfl,?_⟩
   have h1:=srt_len (c:=cmpE) (g.2.2++pthL g.2.1.toNat 0 0 t t.length)
   rw[List.length_append,pthL_len] at h1
   exact h1
  ·exact⟨hg,rfl,by omega⟩
theorem addPath0_any (v y:Value) (g:GrD) (t:List Int) (w:World) (h:ArgG w v g) (ht:RdI w y t) (hg:grB g=true) (hw:wordB g.1 t=true) (hl:t.length≤1073741824):
  Calls Tryz.prog 103 #[v, .int .i64 0,y, .int .i64 0] w fun x w'=> ∃r,x= .returned (.tuple #[r, .bool (petB g t)])∧OwG w' w.heap.size r (petG g t)∧Below w.heap.size w w':=by
 have hr:=(grB_parts hg).2.1
 by_cases h0:t= []
 ·subst h0
  refine(specAddPath_nil v y g 0 0 w h ht hg (by omega) (by omega)).mono fun x w' ⟨r,e,o,b⟩=>⟨r,e,?_,b⟩
  unfold petG;rw[if_pos rfl];exact o
 ·refine(specAddPath_any v y g 0 0 t w h ht hg (by omega) (by omega) hw (fun q=>h0 (List.eq_nil_of_length_eq_zero q)) hl).mono fun x w' ⟨r,e,o,b⟩=>⟨r,?_,?_,b⟩
  ·unfold petB;rw[if_neg h0];exact e
  ·unfold petG;rw[if_neg h0];exact o
set_option maxHeartbeats 2000000 in
theorem specAddPetal_any (v y:Value) (g:GrD) (t:List Int) (w:World) (h:ArgG w v g) (ht:RdI w y t) (hg:grB g=true) (hw:wordB g.1 t=true) (hl:t.length≤1073741824):
  Calls Tryz.prog 186 #[v,y] w fun x w'=> ∃r,x= .returned (.tuple #[r, .bool (petB g t)])∧OwG w' w.heap.size r (petG g t)∧Below w.heap.size w w':=by
 have HP:=hDD (fun W v (h:ArgG W v g) (h':RdI W y t)=>addPath0_any v y g t W h h' hg hw hl)
 generalize petG g t=pg at*
 generalize petB g t=o at*
 have HG:=hDD h
 have HY:=hDD ht
 obtain⟨s,rfl,hi1,hi2,hga⟩:=h
 obtain⟨A,cap,rfl⟩:=hga.form
 obtain⟨T,tc,rfl,_⟩:=ht.arg
 obtain⟨g1,N,es⟩:=g
 obtain⟨p1,p2,ps⟩:=pg
 simp only at*
 clear hga hg hw
 go_enter Tryz.func186,Tryz.ntmps186
 go_wp2_with fail
 obtain⟨W1,hW1⟩: ∃W,W=w.alloc (Obj.cells #[Value.int IntKind.i64 g1,Value.int IntKind.i64 N, .slice A es.length cap] 26):=⟨_,rfl⟩
 rw[←hW1]
 obtain⟨_,b1,s1⟩:=CBx.new hW1
 obtain⟨W2,hW2⟩: ∃W,W=W1.alloc (Obj.cells #[Value.int IntKind.i64 0,Value.int IntKind.i64 0, .slice none 0 0] 26):=⟨_,rfl⟩
 rw[←hW2]
 obtain⟨x2,b2,s2⟩:=CBx.new hW2
 rw[s1] at x2
 have X2:=hDD x2
 have B2:Hid (Below w.heap.size w W2):=hDD (b1.trans (b2.mono (by omega)))
 clear hW1 hW2 b1 b2 x2
 refine(HP.out W2 _ (HG.out.below B2.out) (HY.out.below B2.out)).mono ?_
 rintro e w3 ⟨r,rfl,⟨s3,rfl,hj1,hj2,oe3⟩,b3⟩
 obtain⟨A3,c3,rfl,_⟩:=oe3.form
 simp only at hj1 hj2 oe3⊢
 have O3:=hDD oe3
 have X3:=hDD (X2.out.below b3)
 have B3:=hDD (B2.out.trans (b3.mono (by omega)))
 have hs3:=b3.size
 clear oe3 b3 X2 B2
 have u0:=X3.out.c0
 have u1:=X3.out.c1
 have u2:=X3.out.c2
 have f0:=X3.out.fz 0
 have f1:=X3.out.fz 1
 have f2:=X3.out.fz 2
 have hlt:=X3.out.lt
 go_wp2
 have XF:=X3.out.setv (.int .i64 p1) (.int .i64 p2) (.slice A3 ps.length c3)
 have BF:=set3_below (.int .i64 p1) (.int .i64 p2) (.slice A3 ps.length c3) B3.out (show w.heap.size≤w.heap.size+1 by omega)
 have OF:OwE (((w3.setCell ⟨w.heap.size+1,0,none⟩ (.int .i64 p1)).setCell ⟨w.heap.size+1,1,none⟩ (.int .i64 p2)).setCell ⟨w.heap.size+1,2,none⟩ (.slice A3 ps.length c3)) W2.heap.size (.slice A3 ps.length c3) ps:=O3.out.keep fun c hc=>set3_heap _ _ _ _ _ (by have:=(O3.out.1.lt c hc).1;omega)
 have hsF:=set3_size w3 (w.heap.size+1) (.int .i64 p1) (.int .i64 p2) (.slice A3 ps.length c3)
 generalize ((w3.setCell ⟨w.heap.size+1,0,none⟩ (.int .i64 p1)).setCell ⟨w.heap.size+1,1,none⟩ (.int .i64 p2)).setCell ⟨w.heap.size+1,2,none⟩ (.slice A3 ps.length c3)=w5 at*
 have bz:Below w5.heap.size w5 (w5.alloc (Obj.cells #[Value.int IntKind.i64 p1,Value.int IntKind.i64 p2, .slice A3 ps.length c3] 26)):=(Below.refl _ _).alloc (Nat.le_refl _) _
 have e0:=(XF.below bz).c0
 have e1:=(XF.below bz).c1
 have e2:=(XF.below bz).c2
 exact bodyPost_ret (v:= .tuple #[.agg #[.int .i64 p1, .int .i64 p2, .slice A3 ps.length c3], .bool o]) (by simp[results,Tryz.results186,go_sem,e0,e1,e2]) rfl ⟨_,rfl,⟨_,rfl,hj1,hj2,(OF.below bz).mono (by omega)⟩,BF.trans (bz.mono (by omega))⟩
end Go.Proofs.YteobmaambgmdbaaGreat
namespace Go.Proofs.YteobmaambgmdbaaGreat
set_option maxRecDepth 20000
set_option linter.unusedVariables false
set_option linter.unusedSimpArgs false
open Go.RowKit
def isT (W:World) (q:Nat) (t:TypeId):Prop:= ∃arr fr,W.heap[q]? =some (.cells arr t fr)
theorem isT.lt {W:World} {q:Nat} {t:TypeId} (h:isT W q t):q<W.heap.size:=by
 obtain⟨_,_,h⟩:=h
 rcases Nat.lt_or_ge q W.heap.size with h' | h'
 ·exact h'
 ·rw[Array.getElem?_eq_none h'] at h;cases h
theorem isT.new (w:World) (arr:Array Value) (t:TypeId):isT (w.alloc (.cells arr t)) w.heap.size t:=⟨arr,(0,0),by show(w.heap.push _)[w.heap.size]? =_;simp⟩
theorem isT.below {W W':World} {q:Nat} {t:TypeId} (h:isT W q t) (hb:Below W.heap.size W W'):isT W' q t:=by
 have:=h.lt
 obtain⟨a,f,h⟩:=h
 exact⟨a,f,(hb.block q this).trans h⟩
theorem isT.set {W:World} {q:Nat} {t:TypeId} (h:isT W q t) (a:Addr) (v:Value):isT (W.setCell a v) q t:=by
 obtain⟨c,f,h⟩:=h
 by_cases e:a.block=q
 ·subst e
  refine⟨if a.spot.isSome then c else c.setIfInBounds a.off v,f,?_⟩
  show(W.heap.modify a.block _)[a.block]? =_
  rw[Array.getElem?_modify,if_pos rfl,h]
  rfl
 ·refine⟨c,f,?_⟩
  show(W.heap.modify a.block _)[q]? =_
  rw[Array.getElem?_modify,if_neg e,h]
theorem OwE.notG {W:World} {base q:Nat} {v:Value} {es:List EdD} (h:OwE W base v es) (hq:isT W q 26): ∀b,v.ownBlock=some b→b≠q:=fun b hb e=>by
 subst e
 obtain⟨c,f,hq⟩:=hq
 rcases h.1.2 with ⟨hv,_⟩ | ⟨g,cap,cur,hv,_,hh,_⟩
 ·rw[hv] at hb;cases hb
 ·rw[hv] at hb
  have:g=b:=by simpa[Value.ownBlock] using hb
  subst this
  rw[hh] at hq
  injection hq with hq
  injection hq with _ e2 _
  exact absurd e2 (by decide)
def floF (r:Int) (L:List (List Int)):GrD:=L.foldl petG (r,1,[])
theorem areW_parts {r:Int} {L:List (List Int)} (h:areW r L=true):(∀x∈L,wordB r x=true)∧(1≤r∧r≤3)∧L.length≤6∧lenLL L<40:=by
 unfold areW at h
 simp only[Bool.and_eq_true,List.all_eq_true,decide_eq_true_eq] at h
 exact⟨h.1,inB_iff.1 h.2.1,h.2.2.1,h.2.2.2⟩
theorem flo_ok {r:Int} {L:List (List Int)} (hr:1≤r∧r≤3) (h: ∀x∈L,wordB r x=true): ∀k,k≤L.length→grB ((L.take k).foldl petG (r,1,[]))=true∧((L.take k).foldl petG (r,1,[])).1=r
 | 0,_=>⟨grB_of hr ⟨show(1:Int)≤1 by decide,show(1:Int)≤40 by decide⟩ (by simp) List.Pairwise.nil (fun _ h=>by cases h),rfl⟩
 | k+1,hk=>by
   have ih:=flo_ok hr h k (by omega)
   rw[List.take_succ_eq_append_getElem (by omega),List.foldl_append]
   have hx:=h _ (List.getElem_mem (show k<L.length by omega))
   rw[←ih.2] at hx
   have:=petG_ok ih.1 hx
   exact⟨this.1,this.2.1.trans ih.2⟩
theorem isT.set3 {W:World} {q:Nat} {t:TypeId} (h:isT W q t) (p:Nat) (a b c:Value):isT (((W.setCell ⟨p,0,none⟩ a).setCell ⟨p,1,none⟩ b).setCell ⟨p,2,none⟩ c) q t:=((h.set _ _).set _ _).set _ _
theorem len_mem_LL {x:List Int}: ∀ {L:List (List Int)},x∈L→x.length≤lenLL L
 | a::L,h=>by
   unfold lenLL
   simp only[List.map_cons,List.sum_cons]
   rcases List.mem_cons.1 h with rfl | h
   ·omega
   ·have:=len_mem_LL h
    unfold lenLL at this
    omega
set_option maxRecDepth 100000 in
set_option maxHeartbeats 4000000 in
theorem specFlowerOf_any (r:Int) (v:Value) (L:List (List Int)) (w:World) (h:RdII w v L) (hW:areW r L=true):
  Calls Tryz.prog 168 #[.int .i64 r,v] w fun x w'=> ∃rv,x= .returned (.tuple #[rv, .bool true])∧OwG w' w.heap.size rv (floF r L)∧Below w.heap.size w w':=by
 obtain⟨hwd,hr,hL6,hL40⟩:=areW_parts hW
 have hlen: ∀x∈L,x.length≤1073741824:=fun x hx=>by
  have:=len_mem_LL hx
  omega
 have HWD:=hDD hwd
 have HLN:=hDD hlen
 have HFO:=hDD (fun k hk=>flo_ok hr hwd k hk)
 have HAW:=hDD (fun W (h:RdII W v L)=>specAreWords_any r v L W h (by omega) (by omega) hlen)
 rw[hW] at HAW
 have H:=hDD h
 have hrI:I64 r:=⟨by omega,by omega⟩
 have hinr:inB r 1 3=true:=inB_iff.2 hr
 have HNG:=hDD (fun W=>specNewGraph_any r W hrI)
 rw[hinr] at HNG
 simp only[if_true] at HNG
 obtain⟨A,cap,rfl,hcap,hm,_⟩:=h.form
 unfold maxLen at hm
 clear h hW hwd hlen hinr
 go_enter Tryz.func168,Tryz.ntmps168
 go_wp2_with fail
 obtain⟨W0,hW0⟩: ∃W,W=w.alloc (Obj.cells #[Value.int IntKind.i64 0,Value.int IntKind.i64 0, .slice none 0 0] 26):=⟨_,rfl⟩
 rw[←hW0]
 obtain⟨xb,b0,s0⟩:=CBx.new hW0
 clear hW0
 have XB:=hDD xb
 have B0:=hDD b0
 clear xb b0
 refine(HAW.out _ (H.out.below B0.out)).mono ?_
 rintro e w1 ⟨rfl,nd,rfl⟩
 obtain⟨w1,hw1⟩: ∃W,W=W0.drewN nd:=⟨_,rfl⟩
 rw[←hw1]
 have bd:Below W0.heap.size W0 w1:=by rw[hw1];exact bel_drewN (Below.refl _ _) _
 have X1:=hDD (XB.out.below bd)
 have B1:=hDD (B0.out.trans (bd.mono (by omega)))
 have hs1:=bd.size
 clear hw1 bd XB B0 HAW
 go_wp2_with fail
 refine(HNG.out w1).mono ?_
 rintro e w2 ⟨rfl,b2⟩
 have X2:=hDD (X1.out.below b2)
 have B2:=hDD (B1.out.trans (b2.mono (by omega)))
 have hs2:=b2.size
 clear b2 X1 B1 HNG
 go_wp2_with fail
 obtain⟨W3,hW3⟩: ∃W,W=w2.alloc (Obj.cells #[Value.int IntKind.i64 r,Value.int IntKind.i64 1, .slice none 0 0] 26):=⟨_,rfl⟩
 have g3:GBx W3 w2.heap.size (w.heap.size+1) none 0 (r,1,[]):=GBx.new (base:=w.heap.size+1) (m:=(r,1,[])) OwE.nil hrI (show I64 1 from⟨by omega,by omega⟩) hW3
 obtain⟨_,b3,s3⟩:=CBx.new hW3
 rw[←hW3]
 have G3:=hDD g3
 have X3:=hDD (X2.out.below b3)
 have B3:=hDD (B2.out.trans (b3.mono (by omega)))
 clear hW3 g3 b3 X2 B2
 generalize hb:w2.heap.size=b at*
 have hbw:w.heap.size+1≤b:=by omega
 clear hb hs2 hs1
 go_loopw [8] (fun nv wr=> ∃(k:Nat) (Ar:Option Addr) (cr:Nat),k≤L.length∧nv= .int .i64 k∧GBx wr b (w.heap.size+1) Ar cr ((L.take k).foldl petG (r,1,[]))∧CBx wr w.heap.size (.int .i64 0) (.int .i64 0) (.slice none 0 0)∧Below w.heap.size w wr) (fun nv _=>L.length-(intOf nv).toNat)
 case atStart=>exact⟨0,none,0,Nat.zero_le _,rfl,G3.out,X3.out,B3.out⟩
 case round=>
  obtain⟨k,Ar,cr,hk,rfl,hG,hX,hB⟩:=hrel
  have HGO:=hDD (HFO.out k hk)
  have HG:=hDD hG
  have HX:=hDD hX
  have HB:=hDD hB
  have hsr:=hB.size
  have hbr:=hG.lt
  clear hG hX hB
  by_cases hlt:k<L.length
  ·obtain⟨lb,off,A1,cap1,rfl,hlb,hc,_,_,hrd⟩:=(H.out.below HB.out).at hlt
   have HRD:=hDD hrd
   have HC:=hDD hc
   have HT:Hid ((L.take (k+1)).foldl petG (r,1,[])=petG ((L.take k).foldl petG (r,1,[])) L[k]):=hDD (by rw[List.take_succ_eq_append_getElem hlt,List.foldl_append];rfl)
   have HM:=hDD (List.getElem_mem hlt)
   have hkI:(k:Int)<(L.length:Int):=by omega
   clear hrd hc
   generalize (L.take k).foldl petG (r,1,[])=g at*
   generalize L[k]=x at*
   have hxl:=HLN.out x HM.out
   have HPE:=hDD (fun W v (h:ArgG W v g) (h':RdI W (.slice A1 x.length cap1) x)=>specAddPetal_any v _ g x W h h' HGO.out.1 (by rw[HGO.out.2];exact HWD.out x HM.out) hxl)
   generalize petG g x=pg at*
   generalize petB g x=o at*
   obtain⟨g1,M,es⟩:=g
   obtain⟨p1,p2,ps⟩:=pg
   simp only at*
   go_wp2_with fail
   refine wp_region_gen [.val (.agg #[.int .i64 g1, .int .i64 M, .slice Ar es.length cr]), .val (.slice (some ⟨lb,off,none⟩) L.length cap), .val (.int .i64 k), .val (.pointer (some ⟨lb,off+k,none⟩)), .val (.slice A1 x.length cap1),
     .mem (fun _ W v=> ∃A' c',v= .tuple #[.agg #[.int .i64 p1, .int .i64 p2, .slice A' ps.length c'], .bool o]∧I64 p1∧I64 p2∧OwE W wr.heap.size (.slice A' ps.length c') ps),
     .pur (fun us v=>v=us 5), .pur (fun us v=> ∃A' c',us 5= .tuple #[.agg #[.int .i64 p1, .int .i64 p2, .slice A' ps.length c'], .bool o]∧v= .agg #[.int .i64 p1, .int .i64 p2, .slice A' ps.length c']), .pur (fun _ v=>v= .bool o),
     .mem (fun _ W v=> ∃q x y z,v= .pointer (some ⟨q,0,none⟩)∧wr.heap.size≤q∧CBx W q x y z∧isT W q 26),
     .mem (fun us W _=> ∃q A' c',us 9= .pointer (some ⟨q,0,none⟩)∧wr.heap.size≤q∧us 5= .tuple #[.agg #[.int .i64 p1, .int .i64 p2, .slice A' ps.length c'], .bool o]∧CBx W q (.int .i64 p1) (.int .i64 p2) (.slice A' ps.length c')),
     .pur (fun _ v=>v= .bool o)]
    [none,none,none,none,none,some (fun W W'=>Below W.heap.size W W'),none,none,none,some (fun W W'=>Below W.heap.size W W'),some (fun W W'=> ∃q x y z,wr.heap.size≤q∧isT W q 26∧W'=((W.setCell ⟨q,0,none⟩ x).setCell ⟨q,1,none⟩ y).setCell ⟨q,2,none⟩ z),none]
    (fun W=>Below wr.heap.size wr W) [(5,9),(5,10),(9,5),(9,10)] (by kernel_rfl) (by kernel_rfl) (by rfl) (by rfl)
    (Below.refl _ _).drew
    ⟨fun _ _ h t=>h.trans (t.mono h.size),fun _ _ h t=>h.trans (t.mono h.size),fun _ _ h ⟨q,x,y,z,hq,_,e⟩=>by rw[e];exact set3_below x y z h hq,trivial⟩
    ⟨fun _ _ _ _ _ _ t ⟨A',c',e,i1,i2,o⟩=>⟨A',c',e,i1,i2,o.below t⟩,
     fun _ _ _ _ _ _ ⟨q,_,_,_,_,hq,e'⟩ ⟨A',c',e,i1,i2,o⟩=>by rw[e'];exact⟨A',c',e,i1,i2,o.keep fun d hd=>set3_heap _ _ _ _ _ (o.notG hq d hd)⟩,
     fun _ _ _ _ _ _ t ⟨q,x,y,z,e,hq,c,ht⟩=>⟨q,x,y,z,e,hq,c.below t,ht.below t⟩,
     fun _ _ _ _ _ _ ⟨q',a,b,c',_,_,e'⟩ ⟨q,x,y,z,e,hq,c,ht⟩=>(by rw[e'];obtain⟨x',y',z',h'⟩:=c.any (q:=q') a b c';exact⟨q,x',y',z',e,hq,h',ht.set3 _ _ _ _⟩),trivial⟩ (fun vs=> ?_)
   refine⟨fun W' K' Q0 hI hD hK=> ?_,?_⟩
   ·have z0:=(HG.out.below hI.out).c0
    have z1:=(HG.out.below hI.out).c1
    have z2:=(HG.out.below hI.out).c2
    go_simp
    exact hK.out _ _ rfl rfl
   simp only[Act.put,List.setIfInBounds_toArray,List.set_cons_zero,List.set_cons_succ,Sg.pick,Nat.reduceAdd]
   refine⟨fun W' K' Q0 hI hD hK=> ?_,?_⟩
   ·skip
    go_simp
    exact hK.out _ _ rfl rfl
   simp only[Act.put,List.setIfInBounds_toArray,List.set_cons_zero,List.set_cons_succ,Sg.pick,Nat.reduceAdd]
   refine⟨fun W' K' Q0 hI hD hK=> ?_,?_⟩
   ·skip
    go_simp
    exact hK.out _ _ rfl rfl
   simp only[Act.put,List.setIfInBounds_toArray,List.set_cons_zero,List.set_cons_succ,Sg.pick,Nat.reduceAdd]
   refine⟨fun W' K' Q0 hI hD hK=> ?_,?_⟩
   ·skip
    go_simp
    exact hK.out _ _ rfl rfl
   simp only[Act.put,List.setIfInBounds_toArray,List.set_cons_zero,List.set_cons_succ,Sg.pick,Nat.reduceAdd]
   refine⟨fun W' K' Q0 hI hD hK=> ?_,?_⟩
   ·have z0:=(hI.out.cell (p:=⟨lb,off+k,none⟩) hlb).trans HC.out
    go_simp
    exact hK.out _ _ rfl rfl
   simp only[Act.put,List.setIfInBounds_toArray,List.set_cons_zero,List.set_cons_succ,Sg.pick,Nat.reduceAdd]
   refine⟨fun W' K' Q0 hI hD hK=> ?_,?_⟩
   ·skip
    go_simp
    refine(HPE.out _ _ (HG.out.below hI.out).arg (HRD.out.below hI.out)).mono ?_;rintro e w' ⟨rv,rfl,⟨s,rfl,i1,i2,oe⟩,b'⟩;obtain⟨A',c',rfl,_⟩:=oe.form;exact hK.out _ _ b' ⟨A',c',rfl,i1,i2,oe.mono hI.out.size⟩
   simp only[Act.put,List.setIfInBounds_toArray,List.set_cons_zero,List.set_cons_succ,Sg.pick,Nat.reduceAdd]
   refine⟨fun W' K' Q0 hI hD hK=> ?_,?_⟩
   ·skip
    go_simp
    exact hK.out _ _ rfl rfl
   simp only[Act.put,List.setIfInBounds_toArray,List.set_cons_zero,List.set_cons_succ,Sg.pick,Nat.reduceAdd]
   refine⟨fun W' K' Q0 hI hD hK=> ?_,?_⟩
   ·obtain⟨A',c',e5,_⟩:=(show ∃A' c',vs 5= .tuple #[.agg #[.int .i64 p1, .int .i64 p2, .slice A' ps.length c'], .bool o]∧I64 p1∧I64 p2∧OwE W' wr.heap.size (.slice A' ps.length c') ps from hD.out 5 (by kernel_rfl))
    have e6:=(show vs 6=maskV _ 6 vs 5 from hD.out 6 (by kernel_rfl))
    rw[mask_at (by kernel_rfl),e5] at e6
    rw[e6,e5] at hK⊢
    go_simp
    exact hK.out _ _ rfl ⟨A',c',(mask_at (by kernel_rfl)).trans e5,rfl⟩
   simp only[Act.put,List.setIfInBounds_toArray,List.set_cons_zero,List.set_cons_succ,Sg.pick,Nat.reduceAdd]
   refine⟨fun W' K' Q0 hI hD hK=> ?_,?_⟩
   ·obtain⟨A',c',e5,_⟩:=(show ∃A' c',vs 5= .tuple #[.agg #[.int .i64 p1, .int .i64 p2, .slice A' ps.length c'], .bool o]∧I64 p1∧I64 p2∧OwE W' wr.heap.size (.slice A' ps.length c') ps from hD.out 5 (by kernel_rfl))
    have e6:=(show vs 6=maskV _ 6 vs 5 from hD.out 6 (by kernel_rfl))
    rw[mask_at (by kernel_rfl),e5] at e6
    rw[e6,e5] at hK⊢
    go_simp
    exact hK.out _ _ rfl rfl
   simp only[Act.put,List.setIfInBounds_toArray,List.set_cons_zero,List.set_cons_succ,Sg.pick,Nat.reduceAdd]
   refine⟨fun W' K' Q0 hI hD hK=> ?_,?_⟩
   ·skip
    go_simp
    exact hK.out _ _ ((Below.refl _ _).alloc (Nat.le_refl _) _) ⟨_,_,_,_,rfl,hI.out.size,(CBx.new rfl).1,isT.new _ _ _⟩
   simp only[Act.put,List.setIfInBounds_toArray,List.set_cons_zero,List.set_cons_succ,Sg.pick,Nat.reduceAdd]
   refine⟨fun W' K' Q0 hI hD hK=> ?_,?_⟩
   ·obtain⟨q,a0,a1,a2,e9,hq,hc,ht⟩:=(show ∃q x y z,vs 9= .pointer (some ⟨q,0,none⟩)∧wr.heap.size≤q∧CBx W' q x y z∧isT W' q 26 from hD.out 9 (by kernel_rfl))
    obtain⟨A',c',e5,e7⟩:=(show ∃A' c',maskV _ 7 vs 5= .tuple #[.agg #[.int .i64 p1, .int .i64 p2, .slice A' ps.length c'], .bool o]∧vs 7= .agg #[.int .i64 p1, .int .i64 p2, .slice A' ps.length c'] from hD.out 7 (by kernel_rfl))
    rw[mask_at (by kernel_rfl)] at e5
    rw[e7,e9,e5] at hK⊢
    have z0:=hc.c0
    have z1:=hc.c1
    have z2:=hc.c2
    have u0:=hc.fz 0
    have u1:=hc.fz 1
    have u2:=hc.fz 2
    go_simp
    exact hK.out undef _ ⟨q,_,_,_,hq,ht,rfl⟩ ⟨q,A',c',(mask_at (by kernel_rfl)).trans e9,hq,(mask_at (by kernel_rfl)).trans e5,hc.setv _ _ _⟩
   simp only[Act.put,List.setIfInBounds_toArray,List.set_cons_zero,List.set_cons_succ,Sg.pick,Nat.reduceAdd]
   refine⟨fun W' K' Q0 hI hD hK=> ?_,?_⟩
   ·have e8:=(show vs 8= .bool o from hD.out 8 (by kernel_rfl))
    rw[e8] at hK⊢
    go_simp
    exact hK.out _ _ rfl rfl
   simp only[Act.put,List.setIfInBounds_toArray,List.set_cons_zero,List.set_cons_succ,Sg.pick,Nat.reduceAdd]
   intro W9 hI9 hD9
   obtain⟨q,A9,c9,e9,hq,e5,hc⟩:=(show ∃q A' c',maskV _ 10 vs 9= .pointer (some ⟨q,0,none⟩)∧wr.heap.size≤q∧maskV _ 10 vs 5= .tuple #[.agg #[.int .i64 p1, .int .i64 p2, .slice A' ps.length c'], .bool o]∧CBx W9 q (.int .i64 p1) (.int .i64 p2) (.slice A' ps.length c') from hD9.out 10 (by decide))
   rw[mask_at (by kernel_rfl)] at e9 e5
   obtain⟨A',c',e5',i1,i2,oe⟩:=(show ∃A' c',vs 5= .tuple #[.agg #[.int .i64 p1, .int .i64 p2, .slice A' ps.length c'], .bool o]∧I64 p1∧I64 p2∧OwE W9 wr.heap.size (.slice A' ps.length c') ps from hD9.out 5 (by decide))
   rw[e5] at e5'
   injection e5' with e5'
   simp at e5'
   obtain⟨rfl,rfl⟩:=e5'
   rw[e9]
   have I9:=hDD hI9.out
   have OE:=hDD oe
   have G9:=hDD (HG.out.below I9.out)
   have X9:=hDD (HX.out.below I9.out)
   clear hD9 hI9 oe e5 e9
   have z0:=G9.out.c0
   have z1:=G9.out.c1
   have z2:=G9.out.c2
   have f0:=G9.out.fz 0
   have f1:=G9.out.fz 1
   have f2:=G9.out.fz 2
   have v0:=hc.c0
   have v1:=hc.c1
   have v2:=hc.c2
   simp only at z0 z1 z2
   go_wp2
   go_roundw
   case rel=>
    refine⟨k+1,A9,c9,by omega,by go_num,?_,X9.out.other (by omega),set3_below _ _ _ (HB.out.trans (I9.out.mono hsr)) (by omega)⟩
    rw[HT.out]
    exact(G9.out.set (m:=(p1,p2,ps)) OE.out (fun b' hb'=>by have:=(OE.out.1.lt b' hb').1;omega) i1 i2).mono (by omega)
   case measure=>(first | omega | (simp[intOf];omega))
  ·obtain rfl:k=L.length:=by omega
   rw[List.take_length] at HG HGO
   have HF:Hid (floF r L=L.foldl petG (r,1,[])):=hDD rfl
   generalize L.foldl petG (r,1,[])=g at*
   obtain⟨g1,M,es⟩:=g
   have x0:=HX.out.c0
   have x1:=HX.out.c1
   have x2:=HX.out.c2
   have f0:=HX.out.fz 0
   have f1:=HX.out.fz 1
   have f2:=HX.out.fz 2
   have y0:=HG.out.c0
   have y1:=HG.out.c1
   have y2:=HG.out.c2
   simp only at y0 y1 y2
   go_wp2
   have XF:=HX.out.setv (.int .i64 g1) (.int .i64 M) (.slice Ar es.length cr)
   have e0:=XF.c0
   have e1:=XF.c1
   have e2:=XF.c2
   exact bodyPost_ret (v:= .tuple #[.agg #[.int .i64 g1, .int .i64 M, .slice Ar es.length cr], .bool true]) (by simp[results,Tryz.results168,go_sem,e0,e1,e2]) rfl ⟨_,rfl,by rw[HF.out];exact⟨_,rfl,HG.out.i1,HG.out.i2,(HG.out.ow.keep fun c hc=>set3_heap _ _ _ _ _ (by have:=(HG.out.ow.1.lt c hc).1;omega)).mono (by omega)⟩,set3_below _ _ _ HB.out (Nat.le_refl _)⟩
end Go.Proofs.YteobmaambgmdbaaGreat
namespace Go.Proofs.YteobmaambgmdbaaGreat
set_option maxRecDepth 20000
set_option linter.unusedVariables false
set_option linter.unusedSimpArgs false
open Go.RowKit
theorem floF_ok {r:Int} {L:List (List Int)} (h:areW r L=true):grB (floF r L)=true:=by
 obtain⟨hwd,hr,_,_⟩:=areW_parts h
 have:=(flo_ok hr hwd L.length (Nat.le_refl _)).1
 rwa [List.take_length] at this
theorem sub_ok {r:Int} {L:List (List Int)} (h:areW r L=true):coreB (coreG (floF r L))=true:=coreB_coreG (floF_ok h)
theorem areW_of {r:Int} {L:List (List Int)} (hr1:1≤r) (hr3:r≤3) (hl:L.length≤6) (h:WdL r 5 L):areW r L=true:=by
 unfold areW
 rw[inB_iff.2 ⟨hr1,hr3⟩,decide_eq_true hl]
 have h1:L.all (wordB r)=true:=by
  rw[List.all_eq_true]
  intro x hx
  obtain⟨_,hlr,hred⟩:=h x hx
  exact wordB_true (inB_iff.2 ⟨hr1,hr3⟩) (by have:=(h x hx).1;omega) fun i hi=>okAt_red hred (fun y hy=>by
   obtain⟨y0,y1,y2⟩:=hlr y hy
   unfold letB
   rw[show wrap64 (-r)= -r from IntWalk.wrap64_in _ ⟨by omega,by omega⟩,inB_iff.2 ⟨by omega,y2⟩]
   simpa using y0) i hi
 have h2:lenLL L≤5*L.length:=by
  unfold lenLL
  clear h1 hl
  induction L with
  | nil=>simp
  | cons a l ih=>
    have h1:=(h a List.mem_cons_self).1
    have h2:=ih fun x hx=>h x (List.mem_cons_of_mem _ hx)
    simp only[List.map_cons,List.sum_cons,List.length_cons]
    omega
 rw[h1,decide_eq_true (by omega)]
 rfl
set_option maxHeartbeats 4000000 in
theorem specSubgroupOf_any (r:Int) (v:Value) (L:List (List Int)) (w:World) (h:RdII w v L) (hW:areW r L=true):
  Calls Tryz.prog 158 #[.int .i64 r,v] w fun x w'=> ∃rv,x= .returned (.tuple #[rv, .bool true])∧OwG w' w.heap.size rv (coreG (floF r L))∧Below w.heap.size w w':=by
 have H:=hDD h
 have HFL:=hDD (fun W (h:RdII W v L)=>specFlowerOf_any r v L W h hW)
 have HGR:=hDD (floF_ok hW)
 obtain⟨A,cap,rfl,hcap,hm,_⟩:=h.form
 clear h hW
 generalize floF r L=pg at*
 have HCO:=hDD (fun W v (h:ArgG W v pg)=>specCoreGraph_any v pg W h HGR.out)
 generalize coreG pg=qg at*
 obtain⟨p1,p2,ps⟩:=pg
 obtain⟨q1,q2,qs⟩:=qg
 go_enter Tryz.func158,Tryz.ntmps158
 go_wp2_with fail
 obtain⟨W0,hW0⟩: ∃W,W=w.alloc (Obj.cells #[Value.int IntKind.i64 0,Value.int IntKind.i64 0, .slice none 0 0] 26):=⟨_,rfl⟩
 rw[←hW0]
 obtain⟨xb,b0,s0⟩:=CBx.new hW0
 clear hW0
 have XB:=hDD xb
 have B0:=hDD b0
 clear xb b0
 refine(HFL.out _ (H.out.below B0.out)).mono ?_
 rintro e w1 ⟨rv,rfl,⟨s1,rfl,i1,i2,oe1⟩,b1⟩
 obtain⟨A1,c1,rfl,_⟩:=oe1.form
 simp only at i1 i2 oe1⊢
 have X1:=hDD (XB.out.below b1)
 have B1:=hDD (B0.out.trans (b1.mono (by omega)))
 have OE1:=hDD oe1
 have hs1:=b1.size
 clear oe1 b1 XB B0 HFL
 go_wp2_with fail
 obtain⟨W2,hW2⟩: ∃W,W=w1.alloc (Obj.cells #[Value.int IntKind.i64 p1,Value.int IntKind.i64 p2, .slice A1 ps.length c1] 26):=⟨_,rfl⟩
 rw[←hW2]
 have g2:=GBx.new (m:=(p1,p2,ps)) OE1.out i1 i2 hW2
 obtain⟨_,b2,s2⟩:=CBx.new hW2
 have G2:=hDD g2
 have X2:=hDD (X1.out.below b2)
 have B2:=hDD (B1.out.trans (b2.mono (by omega)))
 clear hW2 g2 b2 X1 B1 OE1
 refine(HCO.out W2 _ G2.out.arg).mono ?_
 rintro e w3 ⟨rv,rfl,⟨s3,rfl,j1,j2,oe3⟩,b3⟩
 obtain⟨A3,c3,rfl,_⟩:=oe3.form
 simp only at j1 j2 oe3⊢
 have X3:=hDD (X2.out.below b3)
 have B3:=hDD (B2.out.trans (b3.mono (by omega)))
 have OE3:=hDD oe3
 clear oe3 b3 X2 B2
 have u0:=X3.out.c0
 have u1:=X3.out.c1
 have u2:=X3.out.c2
 have f0:=X3.out.fz 0
 have f1:=X3.out.fz 1
 have f2:=X3.out.fz 2
 go_wp2
 have XF:=X3.out.setv (.int .i64 q1) (.int .i64 q2) (.slice A3 qs.length c3)
 have e0:=XF.c0
 have e1:=XF.c1
 have e2:=XF.c2
 exact bodyPost_ret (v:= .tuple #[.agg #[.int .i64 q1, .int .i64 q2, .slice A3 qs.length c3], .bool true]) (by simp[results,Tryz.results158,go_sem,e0,e1,e2]) rfl ⟨_,rfl,⟨_,rfl,j1,j2,(OE3.out.keep fun c hc=>set3_heap _ _ _ _ _ (by have:=(OE3.out.1.lt c hc).1;omega)).mono (by omega)⟩,set3_below _ _ _ B3.out (Nat.le_refl _)⟩
set_option maxHeartbeats 4000000 in
theorem l9Sub_any (p:Nat) (A:Option Addr) (cap:Nat) (cs:List Int) (w:World) (h:Cur p A cap cs w):
  Calls Tryz.prog 137 #[.pointer (some ⟨p,0,none⟩)] w fun e w'=> ∃v g,e= .returned v∧OwG w' w.heap.size v g∧coreB g=true∧Cur p A cap cs w'∧Tr p (p+1) w w':=by
 have H:=hDD h
 have hp:=h.lt
 clear h
 go_enter Tryz.func137,Tryz.ntmps137
 go_wp2_with fail
 obtain⟨W0,hW0⟩: ∃W,W=w.alloc (Obj.cells #[Value.int IntKind.i64 0,Value.int IntKind.i64 0, .slice none 0 0] 26):=⟨_,rfl⟩
 rw[←hW0]
 obtain⟨xb,b0,s0⟩:=CBx.new hW0
 clear hW0
 have XB:=hDD xb
 have I0:Hid (DrI p A cap cs w W0):=hDD ((DrI.refl H.out).bel b0)
 clear xb b0
 have RA:Hid (RdI (W0.alloc (Obj.cells #[.int .i64 1, .int .i64 2, .int .i64 2, .int .i64 2, .int .i64 2, .int .i64 3] 3)) (.slice (some ⟨W0.heap.size,0,none⟩) 6 6) [1,2,2,2,2,3]):=hDD (OwI_lit W0 [1,2,2,2,2,3] (by intro y hy;simp at hy;rcases hy with rfl | rfl | rfl<;>(unfold I64;omega)) (by simp) (Nat.le_refl _)).rd
 have IA:=hDD (I0.out.bel ((Below.refl _ _).alloc (Nat.le_refl _) (Obj.cells #[.int .i64 1, .int .i64 2, .int .i64 2, .int .i64 2, .int .i64 2, .int .i64 3] 3)))
 have XA:=hDD (XB.out.below ((Below.refl _ _).alloc (Nat.le_refl _) (Obj.cells #[.int .i64 1, .int .i64 2, .int .i64 2, .int .i64 2, .int .i64 2, .int .i64 3] 3)))
 have hneA:(Value.slice (some ⟨W0.heap.size,0,none⟩) 6 6).ownBlock≠some p:=fun e=>by simp[Value.ownBlock] at e;omega
 rw[←s0]
 (with_reducible refine(l1PickInt_any p A cap cs _ [1,2,2,2,2,3] _ IA.out.cur RA.out hneA (by simp) (by simp)).mono ?_)
 rintro e w1 ⟨r,rfl,hr,c1,t1⟩
 have I1:=hDD (IA.out.to t1 c1)
 have X1:=hDD (XA.out.trP t1 (by omega))
 have hr1:1≤r:=by simp at hr;omega
 have hr3:r≤3:=by simp at hr;omega
 clear c1 t1 IA RA hr hneA XA I0 XB
 go_wp2_with fail
 refine(l6Words_any p A cap cs r _ I1.out.cur hr1 hr3).mono ?_
 rintro e w2 ⟨v2,L,rfl,o2,⟨hL3,hWD⟩,c2,t2⟩
 have hW:=areW_of hr1 hr3 (by omega) hWD
 have HSU:=hDD (specSubgroupOf_any r v2 L w2 o2.rd hW)
 have HCB:=hDD (sub_ok hW)
 have I2:=hDD (I1.out.to t2 c2)
 have X2:=hDD (X1.out.trP t2 (by omega))
 obtain⟨A2,m2,cp2,rfl⟩:=OwII_any o2
 clear c2 t2 o2 hWD hW I1 X1
 generalize coreG (floF r L)=qg at*
 obtain⟨q1,q2,qs⟩:=qg
 go_wp2_with fail
 refine HSU.out.mono ?_
 rintro e w3 ⟨rv,rfl,⟨s3,rfl,j1,j2,oe3⟩,b3⟩
 obtain⟨A3,c3,rfl,_⟩:=oe3.form
 simp only at j1 j2 oe3⊢
 have X3:=hDD (X2.out.below b3)
 have I3:=hDD (I2.out.bel b3)
 have OE3:=hDD oe3
 have hs2:=X2.out.lt
 have hs3:=b3.size
 clear oe3 b3 X2 I2 HSU
 obtain⟨W4,hW4⟩: ∃W,W=w3.alloc (Obj.cells #[Value.int IntKind.i64 q1,Value.int IntKind.i64 q2, .slice A3 qs.length c3] 26):=⟨_,rfl⟩
 have g4:=GBx.new (m:=(q1,q2,qs)) OE3.out j1 j2 hW4
 obtain⟨_,b4,s4⟩:=CBx.new hW4
 have X4:=X3.out.below b4
 have u0:=X4.c0
 have u1:=X4.c1
 have u2:=X4.c2
 have f0:=X4.fz 0
 have f1:=X4.fz 1
 have f2:=X4.fz 2
 rw[hW4] at u0 u1 u2 f0 f1 f2
 have G4:=hDD g4
 have I4:=hDD (I3.out.bel b4)
 have HX4:=hDD X4
 clear g4 b4 X4
 go_wp2
 rw[←hW4]
 have XF:=HX4.out.setv (.int .i64 q1) (.int .i64 q2) (.slice A3 qs.length c3)
 have e0:=XF.c0
 have e1:=XF.c1
 have e2:=XF.c2
 have IF:=I4.out.hi H.out (Nat.le_refl _) (set3_below (.int .i64 q1) (.int .i64 q2) (.slice A3 qs.length c3) (Below.refl _ _) (Nat.le_refl w.heap.size))
 exact bodyPost_ret (v:= .agg #[.int .i64 q1, .int .i64 q2, .slice A3 qs.length c3]) (by simp[results,Tryz.results137,go_sem,e0,e1,e2]) rfl ⟨_,rfl,q1,q2,qs,⟨_,rfl,j1,j2,(G4.out.ow.keep fun c hc=>set3_heap _ _ _ _ _ (by have:=(G4.out.ow.1.lt c hc).1;omega)).mono (by omega)⟩,HCB.out,IF.cur,IF.tr⟩
set_option maxHeartbeats 4000000 in
theorem l9Any_any (p:Nat) (A:Option Addr) (cap:Nat) (cs:List Int) (w:World) (h:Cur p A cap cs w):
  Calls Tryz.prog 105 #[.pointer (some ⟨p,0,none⟩)] w fun e w'=> ∃v g,e= .returned v∧OwG w' w.heap.size v g∧g.2.2.length≤120∧Cur p A cap cs w'∧Tr p (p+1) w w':=by
 have H:=hDD h
 have hp:=h.lt
 clear h
 go_enter Tryz.func105,Tryz.ntmps105
 go_wp2_with fail
 obtain⟨W0,hW0⟩: ∃W,W=w.alloc (Obj.cells #[Value.int IntKind.i64 0,Value.int IntKind.i64 0, .slice none 0 0] 26):=⟨_,rfl⟩
 rw[←hW0]
 obtain⟨xb,b0,s0⟩:=CBx.new hW0
 clear hW0
 have XB:=hDD xb
 have I0:Hid (DrI p A cap cs w W0):=hDD ((DrI.refl H.out).bel b0)
 clear xb b0
 refine(l1Once_any p A cap cs 8 _ I0.out.cur (by omega) (by omega)).mono ?_
 rintro e w1 ⟨x,rfl,c1,t1⟩
 have I1:=hDD (I0.out.to t1 c1)
 have X1:=hDD (XB.out.trP t1 (by omega))
 have hs1:=X1.out.lt
 clear c1 t1 I0 XB
 rcases x with _ | _
 ·go_wp2_with fail
  refine(l9Sub_any p A cap cs _ I1.out.cur).mono ?_
  rintro e w2 ⟨v2,⟨q1,q2,qs⟩,rfl,⟨s2,rfl,j1,j2,oe2⟩,hcb,c2,t2⟩
  have hl:qs.length≤120:=(grB_parts (coreB_grB hcb)).2.2.1
  clear hcb
  obtain⟨A2,cp2,rfl,_⟩:=oe2.form
  simp only at j1 j2 oe2⊢
  have I2:=hDD (I1.out.to t2 c2)
  have X2:=hDD (X1.out.trP t2 (by omega))
  have OE2:=hDD oe2
  clear c2 t2 oe2 I1 X1
  have u0:=X2.out.c0
  have u1:=X2.out.c1
  have u2:=X2.out.c2
  have f0:=X2.out.fz 0
  have f1:=X2.out.fz 1
  have f2:=X2.out.fz 2
  go_wp2
  have XF:=X2.out.setv (.int .i64 q1) (.int .i64 q2) (.slice A2 qs.length cp2)
  have e0:=XF.c0
  have e1:=XF.c1
  have e2:=XF.c2
  have IF:=I2.out.hi H.out (Nat.le_refl _) (set3_below (.int .i64 q1) (.int .i64 q2) (.slice A2 qs.length cp2) (Below.refl _ _) (Nat.le_refl w.heap.size))
  exact bodyPost_ret (v:= .agg #[.int .i64 q1, .int .i64 q2, .slice A2 qs.length cp2]) (by simp[results,Tryz.results105,go_sem,e0,e1,e2]) rfl ⟨_,rfl,q1,q2,qs,⟨_,rfl,j1,j2,(OE2.out.keep fun c hc=>set3_heap _ _ _ _ _ (by have:=(OE2.out.1.lt c hc).1;omega)).mono (by omega)⟩,hl,IF.cur,IF.tr⟩
 ·go_wp2_with fail
  refine(l4Any_any p A cap cs _ I1.out.cur).mono ?_
  rintro e w2 ⟨v2,⟨q1,q2,qs⟩,rfl,⟨s2,rfl,j1,j2,oe2⟩,hl,c2,t2⟩
  obtain⟨A2,cp2,rfl,_⟩:=oe2.form
  simp only at j1 j2 oe2 hl⊢
  have I2:=hDD (I1.out.to t2 c2)
  have X2:=hDD (X1.out.trP t2 (by omega))
  have OE2:=hDD oe2
  clear c2 t2 oe2 I1 X1
  have u0:=X2.out.c0
  have u1:=X2.out.c1
  have u2:=X2.out.c2
  have f0:=X2.out.fz 0
  have f1:=X2.out.fz 1
  have f2:=X2.out.fz 2
  go_wp2
  have XF:=X2.out.setv (.int .i64 q1) (.int .i64 q2) (.slice A2 qs.length cp2)
  have e0:=XF.c0
  have e1:=XF.c1
  have e2:=XF.c2
  have IF:=I2.out.hi H.out (Nat.le_refl _) (set3_below (.int .i64 q1) (.int .i64 q2) (.slice A2 qs.length cp2) (Below.refl _ _) (Nat.le_refl w.heap.size))
  exact bodyPost_ret (v:= .agg #[.int .i64 q1, .int .i64 q2, .slice A2 qs.length cp2]) (by simp[results,Tryz.results105,go_sem,e0,e1,e2]) rfl ⟨_,rfl,q1,q2,qs,⟨_,rfl,j1,j2,(OE2.out.keep fun c hc=>set3_heap _ _ _ _ _ (by have:=(OE2.out.1.lt c hc).1;omega)).mono (by omega)⟩,by omega,IF.cur,IF.tr⟩
end Go.Proofs.YteobmaambgmdbaaGreat
namespace Go.Proofs.YteobmaambgmdbaaGreat
set_option maxRecDepth 20000
set_option linter.unusedVariables false
set_option linter.unusedSimpArgs false
open Go.RowKit
theorem OwE.notI {W:World} {base base':Nat} {v u:Value} {es:List EdD} {xs:List Int} (h:OwE W base v es) (h':OwI W base' u xs) {b:Nat} (h1:v.ownBlock=some b) (h2:u.ownBlock=some b):False:=by
 rcases h.1.2 with ⟨hv,_⟩ | ⟨g,cap,cur,hv,_,hh,_⟩
 ·rw[hv] at h1;cases h1
 ·rcases h'.1.2 with ⟨hv',_⟩ | ⟨g',cap',cur',hv',_,hh',_⟩
  ·rw[hv'] at h2;cases h2
  ·rw[hv] at h1
   rw[hv'] at h2
   have e1:g=b:=by simpa[Value.ownBlock] using h1
   have e2:g'=b:=by simpa[Value.ownBlock] using h2
   subst e1;subst e2
   rw[hh] at hh'
   injection hh' with hq
   injection hq with _ e2 _
   exact absurd e2 (by decide)
def rgL (N:Int) (l:List Int):Prop:= ∀y∈l,0≤y∧y<N
theorem rgL.i64 {N:Int} {l:List Int} (h:rgL N l) (hN:N≤5):I64s l:=fun y hy=>by have:=h y hy;exact⟨by omega,by omega⟩
set_option maxRecDepth 100000 in
set_option maxHeartbeats 8000000 in
theorem l12Finite_any (p:Nat) (A:Option Addr) (cap:Nat) (cs:List Int) (w:World) (h:Cur p A cap cs w):
  Calls Tryz.prog 104 #[.pointer (some ⟨p,0,none⟩)] w fun e w'=> ∃v g,e= .returned v∧OwG w' w.heap.size v g∧coreB g=true∧Cur p A cap cs w'∧Tr p (p+1) w w':=by
 have H:=hDD h
 have hp:=h.lt
 clear h
 go_enter Tryz.func104,Tryz.ntmps104
 go_wp2_with fail
 obtain⟨W0,hW0⟩: ∃W,W=w.alloc (Obj.cells #[Value.int IntKind.i64 0,Value.int IntKind.i64 0, .slice none 0 0] 26):=⟨_,rfl⟩
 rw[←hW0]
 obtain⟨xb,b0,s0⟩:=CBx.new hW0
 clear hW0
 have XB:=hDD xb
 have I0:Hid (DrI p A cap cs w W0):=hDD ((DrI.refl H.out).bel b0)
 clear xb b0
 have RA:Hid (RdI (W0.alloc (Obj.cells #[.int .i64 1, .int .i64 2, .int .i64 2, .int .i64 2, .int .i64 3] 3)) (.slice (some ⟨W0.heap.size,0,none⟩) 5 5) [1,2,2,2,3]):=hDD (OwI_lit W0 [1,2,2,2,3] (by intro y hy;simp at hy;rcases hy with rfl | rfl | rfl<;>(unfold I64;omega)) (by simp) (Nat.le_refl _)).rd
 have IA:=hDD (I0.out.bel ((Below.refl _ _).alloc (Nat.le_refl _) (Obj.cells #[.int .i64 1, .int .i64 2, .int .i64 2, .int .i64 2, .int .i64 3] 3)))
 have XA:=hDD (XB.out.below ((Below.refl _ _).alloc (Nat.le_refl _) (Obj.cells #[.int .i64 1, .int .i64 2, .int .i64 2, .int .i64 2, .int .i64 3] 3)))
 have hneA:(Value.slice (some ⟨W0.heap.size,0,none⟩) 5 5).ownBlock≠some p:=fun e=>by simp[Value.ownBlock] at e;omega
 rw[←s0]
 (with_reducible refine(l1PickInt_any p A cap cs _ [1,2,2,2,3] _ IA.out.cur RA.out hneA (by simp) (by simp)).mono ?_)
 rintro e w1 ⟨r,rfl,hr,c1,t1⟩
 have I1:=hDD (IA.out.to t1 c1)
 have X1:=hDD (XA.out.trP t1 (by omega))
 have hr1:1≤r:=by simp at hr;omega
 have hr3:r≤3:=by simp at hr;omega
 clear c1 t1 IA RA hr hneA XA I0 XB
 go_wp2_with fail
 refine(l1Below_any p A cap cs 5 _ I1.out.cur (by omega) (by omega)).mono ?_
 rintro e w2 ⟨n0,rfl,⟨n1,n2⟩,c2,t2⟩
 have I2:=hDD (I1.out.to t2 c2)
 have X2:=hDD (X1.out.trP t2 (by omega))
 obtain⟨N,hN⟩: ∃N,N=1+n0:=⟨_,rfl⟩
 have hN1:1≤N:=by omega
 have hN5:N≤5:=by omega
 have hwN:IntKind.i64.wrap (1+n0)=N:=by rw[IntKind.wrap_i64];omega
 clear c2 t2 I1 X1
 go_wp2_with fail
 rw[←hN]
 obtain⟨W3,hW3⟩: ∃W,W=w2.alloc (Obj.cells #[Value.int IntKind.i64 r,Value.int IntKind.i64 N, .slice none 0 0] 26):=⟨_,rfl⟩
 have g3:GBx W3 w2.heap.size (w.heap.size+1) none 0 (r,N,[]):=GBx.new (base:=w.heap.size+1) (m:=(r,N,[])) OwE.nil (show I64 r from⟨by omega,by omega⟩) (show I64 N from⟨by omega,by omega⟩) hW3
 obtain⟨_,b3,s3⟩:=CBx.new hW3
 rw[←hW3]
 have G3:=hDD g3
 have I3:=hDD (I2.out.bel b3)
 have X3:=hDD (X2.out.below b3)
 have hs2:=X2.out.lt
 have hgr3:grB (r,N,[])=true:=grB_of ⟨hr1,hr3⟩ ⟨hN1,by simp only;omega⟩ (by simp) List.Pairwise.nil (fun _ h=>by cases h)
 have HGR3:=hDD hgr3
 clear hW3 g3 b3 I2 X2 hN hwN hgr3
 generalize hb:w2.heap.size=b at*
 clear hb
 go_loopw [6] (fun nv wr=> ∃(x:Int) (es:List EdD) (Ar:Option Addr) (cr:Nat),nv= .int .i64 x∧1≤x∧x≤r+1∧(es.length:Int)≤(x-1)*5∧grB (r,N,es)=true∧GBx wr b (w.heap.size+1) Ar cr (r,N,es)∧CBx wr w.heap.size (.int .i64 0) (.int .i64 0) (.slice none 0 0)∧DrI p A cap cs w wr) (fun nv _=>(r+1-intOf nv).toNat)
 case atStart=>exact⟨1,[],none,0,rfl,by omega,by omega,by simp,HGR3.out,G3.out,X3.out,I3.out⟩
 case round=>
  obtain⟨x,es,Ar,cr,rfl,hx1,hxr,hel,hgr,hG,hX,hI⟩:=hrel
  have HGR:=hDD hgr
  have HG:=hDD hG
  have HX:=hDD hX
  have HI:=hDD hI
  have hsr:=hI.tr.size
  have hbr:=hG.lt
  clear hgr hG hX hI
  generalize wr=wo at*
  by_cases hlt:x≤r
  ·have O1:Hid (OwI (wo.alloc (.cells #[] 3)) wo.heap.size (.slice (some ⟨wo.heap.size,0,none⟩) 0 0) []):=hDD (OwI_lit wo [] I64s_nil (by simp) (Nat.le_refl _))
   go_wp2
   go_loopw [7,8] (fun lv nv wr=> ∃(k:Int) (l:List Int),nv= .int .i64 k∧0≤k∧k≤N∧(l.length:Int)=k∧rgL N l∧OwI wr wo.heap.size lv l∧Below wo.heap.size wo wr) (fun _ nv _=>(N-intOf nv).toNat)
   case atStart=>exact⟨0,[],rfl,by omega,by omega,rfl,(fun y hy=>by cases hy),O1.out,(Below.refl _ _).alloc (Nat.le_refl _) _⟩
   case round=>
    obtain⟨k,l,rfl,hk0,hkN,hll,hrg,hO,hB⟩:=hrel
    have HRG:=hDD hrg
    have HO:=hDD hO
    have HB:=hDD hB
    have hsb:=hB.size
    obtain⟨Al,cl,rfl,hcl,hml,hnl,_⟩:=hO.form
    clear hrg hO hB
    by_cases hkl:k<N
    ·have HKI:Hid (I64 k):=hDD ⟨by omega,by omega⟩
     go_wp2_with (at_builtin;refine push_int rfl (.tmp 31) (.tmp 33) rfl _ _ _ (OwI.alloc HO.out _) rfl _ _ rfl (cell_new1 _ _ _) HKI.out (by first | omega | (simp<;>omega)) (by first | omega | (simp<;>omega)) ?_;intro v1 wv1 o1 g1 p1)
     go_roundw
     case rel=>exact⟨k+1,l++ [k],by go_num,by omega,by omega,by simp;omega,(fun y hy=>by
      rcases List.mem_append.1 hy with hy | hy
      ·exact HRG.out y hy
      ·rw[List.mem_singleton.1 hy];omega),o1,bel_push HB.out hsb HO.out.1 (Nat.le_refl _) g1⟩
     case measure=>(simp[intOf];omega)
    ·obtain rfl:N=k:=by omega
     have G4:=hDD (HG.out.belowAt HB.out hbr (fun c hc=>(HG.out.ow.1.lt c hc).2))
     have X4:=hDD (HX.out.belowAt HB.out (by omega))
     have I4:=hDD (HI.out.bel HB.out)
     generalize wr=wq at*
     go_wp2
     go_loopw [7,9] (fun lv nv wr=> ∃(k:Int) (l:List Int) (es:List EdD) (Ar:Option Addr) (cr:Nat),nv= .int .i64 k∧0≤k∧k≤N∧(l.length:Int)=N-k∧rgL N l∧OwI wr wo.heap.size lv l∧(es.length:Int)≤(x-1)*5+k∧grB (r,N,es)=true∧GBx wr b (w.heap.size+1) Ar cr (r,N,es)∧CBx wr w.heap.size (.int .i64 0) (.int .i64 0) (.slice none 0 0)∧DrI p A cap cs w wr∧wo.heap.size≤wr.heap.size) (fun _ nv _=>(N-intOf nv).toNat)
     case atStart=>exact⟨0,l,es,Ar,cr,rfl,by omega,by omega,by omega,HRG.out,HO.out,by omega,HGR.out,G4.out,X4.out,I4.out,hsb⟩
     case round=>
      clear G4 X4 I4 HO HRG HB HGR HG HX HI hel hll hcl hml hnl hkl O1
      obtain⟨k,l,es,Ar,cr,rfl,hk0,hkN,hll,hrg,hO,hel,hgr,hG,hX,hI,hsw⟩:=hrel
      have HRG:=hDD hrg
      have HO:=hDD hO
      have HGR:=hDD hgr
      have HG:=hDD hG
      have HX:=hDD hX
      have HI:=hDD hI
      obtain⟨Al,cl,rfl,hcl,hml,hnl,hat⟩:=hO.form
      have HAT:=hDD hat
      have hbq:=hG.lt
      have HLK:=hDD hll
      clear hrg hO hgr hG hX hI hat
      by_cases hkl:k<N
      ·obtain⟨lg,rfl,hlg1,hlg2⟩:=HAT.out (by omega)
       have hl1:0<(l.length:Int):=by omega
       have hl5:(l.length:Int)≤5:=by omega
       clear hll
       go_wp2_with fail
       refine(l1Below_any p A cap cs l.length _ HI.out.cur (by omega) (by omega)).mono ?_
       rintro e w5 ⟨j0,rfl,hj,c5,t5⟩
       obtain⟨j,rfl⟩: ∃j:Nat,j0=j:=⟨j0.toNat,by omega⟩
       have hjl:j<l.length:=by omega
       have hjI:(j:Int)<(l.length:Int):=by omega
       have I5:=hDD (HI.out.to t5 c5)
       have X5:=hDD (HX.out.trP t5 (by omega))
       have G5:=hDD (HG.out.trP t5 (by omega) (by omega))
       have O5:=hDD (HO.out.trP t5 (by omega))
       have hs5:=t5.size
       have hcj:=O5.out.cellAt j hjl
       have HY:=hDD (HRG.out l[j] (List.getElem_mem hjl))
       have HRE:Hid (rgL N (l.take j++l.drop (j+1))):=hDD fun y hy=>by
        rcases List.mem_append.1 hy with hy | hy
        ·exact HRG.out y (List.mem_of_mem_take hy)
        ·exact HRG.out y (List.mem_of_mem_drop hy)
       have HLL:Hid (((l.take j++l.drop (j+1)).length:Int)=l.length-1):=hDD (by simp;omega)
       clear c5 t5 HI HX HG HO HAT HRG
       generalize l[j]=y at*
       have HPU:=hDD (fun W (h:ArgE W (.slice Ar es.length cr) es)=>l4Put_any _ es (k,x,y) W h ⟨⟨by simp only;omega,by simp only;omega⟩,⟨by simp only;omega,by simp only;omega⟩,⟨by simp only;have:=HY.out;omega,by simp only;have:=HY.out;omega⟩⟩ (by omega))
       unfold edV at HPU
       simp only at HPU
       have HG2:Hid (grB (r,N,insF cmpE es (k,x,y))=true):=hDD (gr_put HGR.out ⟨⟨by simp only;omega,by simp only;omega⟩,⟨by simp only;omega,by simp only;omega⟩,HY.out⟩ (by simp only;omega))
       have hl2:(insF cmpE es (k,x,y)).length≤es.length+1:=insF_len (c:=cmpE) es (k,x,y)
       generalize insF cmpE es (k,x,y)=es2 at*
       go_wp2_with fail
       refine wp_region_genH [.val (.pointer (some ⟨b,2,none⟩)), .val (.slice Ar es.length cr), .val (.int .i64 k), .val (.int .i64 x), .val (.slice (some ⟨lg,0,none⟩) l.length cl), .val (.int .i64 j), .val (.pointer (some ⟨lg,j,none⟩)), .val (.int .i64 y), .val (.agg #[.int .i64 k, .int .i64 x, .int .i64 y]), .mem (fun _ W v=> ∃A' c',v= .slice A' es2.length c'∧OwE W w5.heap.size v es2), .val (.pointer (some ⟨b,2,none⟩)), .mem (fun us W _=> ∃Wp A' c',Below w5.heap.size w5 Wp∧OwE Wp w5.heap.size (.slice A' es2.length c') es2∧W=Wp.setCell ⟨b,2,none⟩ (.slice A' es2.length c'))]
        [none,none,none,none,none,none,none,none,none,some (fun W W'=>Below W.heap.size W W'),none,some (fun W W'=> ∃v,W'=W.setCell ⟨b,2,none⟩ v)]
        (fun _=>True) (fun W=>Below w5.heap.size w5 W) [11] [(9,11)] (by kernel_rfl) (by kernel_rfl) (by rfl) (by rfl)
        trivial (Below.refl _ _).drew
        ⟨fun _ _ _ _=>trivial,fun _ _ _ _=>trivial,trivial⟩
        ⟨.inr fun _ _ _ h t=>h.trans (t.mono h.size), .inl (by simp),trivial⟩
        ⟨fun _ _ _ _ _ _ ⟨u,t⟩ ⟨A',c',e,o⟩=>by subst t;exact⟨A',c',e,o.keep fun d hd=>Below.heap_setCell _ _ _ d (show d≠b by have:=(o.1.lt d hd).1;omega)⟩,trivial⟩ (fun vs=> ?_)
       refine⟨fun W' K' Q0 hI hD hK=> ?_,?_⟩
       ·skip
        go_simp
        exact hK.out _ _ rfl rfl
       simp only[Act.put,List.setIfInBounds_toArray,List.set_cons_zero,List.set_cons_succ,Sg.pick,Nat.reduceAdd]
       refine⟨fun W' K' Q0 hI hD hK=> ?_,?_⟩
       ·have z2:=(G5.out.below (hI.out.2 (by kernel_rfl))).c2
        go_simp
        exact hK.out _ _ rfl rfl
       simp only[Act.put,List.setIfInBounds_toArray,List.set_cons_zero,List.set_cons_succ,Sg.pick,Nat.reduceAdd]
       refine⟨fun W' K' Q0 hI hD hK=> ?_,?_⟩
       ·skip
        go_simp
        exact hK.out _ _ rfl rfl
       simp only[Act.put,List.setIfInBounds_toArray,List.set_cons_zero,List.set_cons_succ,Sg.pick,Nat.reduceAdd]
       refine⟨fun W' K' Q0 hI hD hK=> ?_,?_⟩
       ·skip
        go_simp
        exact hK.out _ _ rfl rfl
       simp only[Act.put,List.setIfInBounds_toArray,List.set_cons_zero,List.set_cons_succ,Sg.pick,Nat.reduceAdd]
       refine⟨fun W' K' Q0 hI hD hK=> ?_,?_⟩
       ·skip
        go_simp
        exact hK.out _ _ rfl rfl
       simp only[Act.put,List.setIfInBounds_toArray,List.set_cons_zero,List.set_cons_succ,Sg.pick,Nat.reduceAdd]
       refine⟨fun W' K' Q0 hI hD hK=> ?_,?_⟩
       ·skip
        go_simp
        exact hK.out _ _ rfl rfl
       simp only[Act.put,List.setIfInBounds_toArray,List.set_cons_zero,List.set_cons_succ,Sg.pick,Nat.reduceAdd]
       refine⟨fun W' K' Q0 hI hD hK=> ?_,?_⟩
       ·skip
        go_simp
        exact hK.out _ _ rfl rfl
       simp only[Act.put,List.setIfInBounds_toArray,List.set_cons_zero,List.set_cons_succ,Sg.pick,Nat.reduceAdd]
       refine⟨fun W' K' Q0 hI hD hK=> ?_,?_⟩
       ·have z0:=((hI.out.2 (by kernel_rfl)).cell (p:=⟨lg,j,none⟩) (by show lg<_;omega)).trans hcj
        go_simp
        exact hK.out _ _ rfl rfl
       simp only[Act.put,List.setIfInBounds_toArray,List.set_cons_zero,List.set_cons_succ,Sg.pick,Nat.reduceAdd]
       refine⟨fun W' K' Q0 hI hD hK=> ?_,?_⟩
       ·skip
        go_simp
        exact hK.out _ _ rfl rfl
       simp only[Act.put,List.setIfInBounds_toArray,List.set_cons_zero,List.set_cons_succ,Sg.pick,Nat.reduceAdd]
       refine⟨fun W' K' Q0 hI hD hK=> ?_,?_⟩
       ·skip
        go_simp
        refine(HPU.out _ (G5.out.below (hI.out.2 (by kernel_rfl))).ow.arg).mono ?_;rintro e w' ⟨rv,rfl,oe,b'⟩;obtain⟨A',c',rfl,_⟩:=oe.form;exact hK.out _ _ b' ⟨A',c',rfl,oe.mono (hI.out.2 (by kernel_rfl)).size⟩
       simp only[Act.put,List.setIfInBounds_toArray,List.set_cons_zero,List.set_cons_succ,Sg.pick,Nat.reduceAdd]
       refine⟨fun W' K' Q0 hI hD hK=> ?_,?_⟩
       ·skip
        go_simp
        exact hK.out _ _ rfl rfl
       simp only[Act.put,List.setIfInBounds_toArray,List.set_cons_zero,List.set_cons_succ,Sg.pick,Nat.reduceAdd]
       refine⟨fun W' K' Q0 hI hD hK=> ?_,?_⟩
       ·obtain⟨A',c',e9,o⟩:=(show ∃A' c',vs 9= .slice A' es2.length c'∧OwE W' w5.heap.size (vs 9) es2 from hD.out 9 (by kernel_rfl))
        rw[e9] at hK o⊢
        have hG:=G5.out.below (hI.out.2 (by kernel_rfl))
        have z2:=hG.c2
        have u2:=hG.fz 2
        go_simp
        exact hK.out undef _ ⟨_,rfl⟩ ⟨W',A',c',hI.out.2 (by kernel_rfl),o,rfl⟩
       simp only[Act.put,List.setIfInBounds_toArray,List.set_cons_zero,List.set_cons_succ,Sg.pick,Nat.reduceAdd]
       intro W9 hI9 hD9
       obtain⟨Wp,A9,c9,bp,op,hW9⟩:=(show ∃Wp A' c',Below w5.heap.size w5 Wp∧OwE Wp w5.heap.size (.slice A' es2.length c') es2∧W9=Wp.setCell ⟨b,2,none⟩ (.slice A' es2.length c') from hD9.out 11 (by decide))
       have G9:=hDD (((G5.out.below bp).put (ms:=es2) op (fun c hc=>by have:=(op.1.lt c hc).1;omega)).mono (show w.heap.size+1≤w5.heap.size by omega))
       have X9:=hDD ((X5.out.below bp).one (q:=b) (j:=2) (v:= .slice A9 es2.length c9) (by omega))
       have I9:=hDD ((I5.out.bel bp).hi H.out (Nat.le_refl _) ((Below.refl w.heap.size Wp).setCell (p:=⟨b,2,none⟩) (by show w.heap.size≤b;omega) (.slice A9 es2.length c9)))
       have O9:=hDD ((O5.out.below bp).far (p:=⟨b,2,none⟩) (by show b<wo.heap.size;exact hbr) (.slice A9 es2.length c9))
       have hs9:w5.heap.size≤W9.heap.size:=by rw[hW9];simpa using bp.size
       simp only at G9
       rw[←hW9] at G9 X9 I9 O9
       clear hI9 hD9 hW9 op bp G5 X5 I5 O5 HPU hcj
       generalize W9=w9 at*
       have HH:=hDD (O9.out.rd.head (k:=j) rfl (by omega))
       have z1:(0:Int)≤(j:Int):=by omega
       have z2:(j:Int)≤(cl:Int):=by omega
       have z3:(j:Int)+1≤(l.length:Int):=by omega
       have z4:(j:Int)≤(l.length:Int):=by omega
       have z5:(0:Int)≤(j:Int)+1:=by omega
       have z6:(j:Int)+1≤(cl:Int):=by omega
       have z7:((j:Int)+1).toNat=j+1:=by omega
       have zw:IntKind.i64.wrap ((j:Int)+1)=(j:Int)+1:=by rw[IntKind.wrap_i64];omega
       have HD:Hid (RdI w9 (.slice (if cl=j+1 then some ⟨lg,0,none⟩ else some ⟨lg,j+1,none⟩) (l.length-(j+1)) (cl-(j+1))) (l.drop (j+1))):=hDD (by
        have:=O9.out.rd.cut (k:=j+1) rfl (by omega)
        simpa[Addr.add_lit] using this)
       have E9:Hid (OwI (w9.drew.alloc (.cells #[] 3)) w9.heap.size (.slice (some ⟨w9.heap.size,0,none⟩) 0 0) []):=hDD (OwI_lit w9.drew [] I64s_nil (by simp) (Nat.le_refl _))
       have BA0:Hid (Below w9.heap.size w9 (w9.drew.alloc (.cells #[] 3))):=hDD (((Below.refl _ _).drew).alloc (Nat.le_refl _) (.cells #[] 3))
       have HH0:=hDD (HH.out.below BA0.out)
       have hhl:(l.take j).length=j:=by rw[List.length_take];omega
       have hdl:(l.drop (j+1)).length=l.length-(j+1):=List.length_drop
       have HRE2:=HRE.out
       have HLL2:=HLL.out
       have hlj:l.length-(j+1)≤5:=by omega
       obtain⟨la,hla⟩: ∃a,a=l.take j:=⟨_,rfl⟩
       obtain⟨lb,hlb⟩: ∃a,a=l.drop (j+1):=⟨_,rfl⟩
       rw[←hla] at HH HH0 hhl HRE2 HLL2
       rw[←hlb] at HD hdl HRE2 HLL2
       have HRE:=hDD HRE2
       have HLL:=hDD HLL2
       clear hla hlb HRE2 HLL2
       go_wp2_with fail
       go_region_held3 (fun w'=>True) (trivial)
        (first
         | (refine step_append_ints rfl (.tmp 55) (.tmp 58) rfl w9.heap.size _ [] E9.out (by rfl) _ la HH0.out (by rfl) (by simp only[List.length_nil];omega) BA0.out.size ?_;intro va wa oa ga pa;rw[List.nil_append] at oa;have BA:Hid (Below w9.heap.size w9 wa):=hDD (BA0.out.grown ga BA0.out.size (fun c hc=>(E9.out.1.lt c hc).1));have OA:=hDD oa;clear oa ga pa)
         | (refine step_append_ints rfl (.tmp 59) (.tmp 63) rfl w9.heap.size _ la OA.out (by rfl) _ lb (HD.out.below BA.out) (by rfl) (by omega) BA.out.size ?_;intro vb wb ob gb pb;have BB:Hid (Below w9.heap.size w9 wb):=hDD (BA.out.grown gb BA.out.size (fun c hc=>(OA.out.1.lt c hc).1));have OB:=hDD ob;clear ob gb pb OA BA))
       obtain⟨Ab,mb,cb,rfl⟩:=OB.out.any2
       go_wp2
       go_roundw
       case rel=>exact⟨k+1,la++lb,es2,A9,c9,by go_num,by omega,by omega,by have:=HLL.out;have:=HLK.out;omega,HRE.out,OB.out.mono (by omega),by omega,HG2.out,G9.out.below BB.out,X9.out.below BB.out,I9.out.bel BB.out,by have:=BB.out.size;omega⟩
       case measure=>(simp[intOf];omega)
      ·obtain rfl:k=N:=by omega
       have hwx:IntKind.i64.wrap (x+1)=x+1:=by rw[IntKind.wrap_i64];omega
       go_wp2
       go_roundw
       case rel=>exact⟨x+1,es,Ar,cr,by go_num,by omega,by omega,by omega,HGR.out,HG.out,HX.out,HI.out⟩
       case measure=>(simp[intOf];omega)
  ·have HCO:=hDD (fun W v (h:ArgG W v (r,N,es))=>specCoreGraph_any v (r,N,es) W h HGR.out)
   have HCB:=hDD (coreB_coreG HGR.out)
   generalize coreG (r,N,es)=qg at*
   obtain⟨q1,q2,qs⟩:=qg
   have y0:=HG.out.c0
   have y1:=HG.out.c1
   have y2:=HG.out.c2
   simp only at y0 y1 y2
   go_wp2_with fail
   refine(HCO.out wo _ HG.out.arg).mono ?_
   rintro e w2 ⟨v2,rfl,⟨s2,rfl,j1,j2,oe2⟩,b2⟩
   obtain⟨A2,cp2,rfl,_⟩:=oe2.form
   simp only at j1 j2 oe2⊢
   have I2:=hDD (HI.out.bel b2)
   have X2:=hDD (HX.out.below b2)
   have OE2:=hDD oe2
   clear b2 oe2
   have u0:=X2.out.c0
   have u1:=X2.out.c1
   have u2:=X2.out.c2
   have f0:=X2.out.fz 0
   have f1:=X2.out.fz 1
   have f2:=X2.out.fz 2
   go_wp2
   have XF:=X2.out.setv (.int .i64 q1) (.int .i64 q2) (.slice A2 qs.length cp2)
   have e0:=XF.c0
   have e1:=XF.c1
   have e2:=XF.c2
   have IF:=I2.out.hi H.out (Nat.le_refl _) (set3_below (.int .i64 q1) (.int .i64 q2) (.slice A2 qs.length cp2) (Below.refl _ _) (Nat.le_refl w.heap.size))
   exact bodyPost_ret (v:= .agg #[.int .i64 q1, .int .i64 q2, .slice A2 qs.length cp2]) (by simp[results,Tryz.results104,go_sem,e0,e1,e2]) rfl ⟨_,rfl,q1,q2,qs,⟨_,rfl,j1,j2,(OE2.out.keep fun c hc=>set3_heap _ _ _ _ _ (by have:=(OE2.out.1.lt c hc).1;omega)).mono (by omega)⟩,HCB.out,IF.cur,IF.tr⟩
end Go.Proofs.YteobmaambgmdbaaGreat
namespace Go.Proofs.YteobmaambgmdbaaGreat
set_option maxRecDepth 20000
set_option linter.unusedVariables false
set_option linter.unusedSimpArgs false
open Go.RowKit
theorem stripGo_lt {c:List Int} (h:redP c): ∀(n f:Nat),2*f<c.length→2*stripGo c n f<c.length:=by
 intro n
 induction n with
 | zero=>intro f hf;exact hf
 | succ n ih=>
   intro f hf
   unfold stripGo
   split
   ·rename_i hc
    refine ih _ ?_
    rcases Nat.lt_or_ge (2*(f+1)) c.length with h1 | h1
    ·exact h1
    ·have e:c.length-1-f=f+1:=by omega
     rw[e,h f (by omega)] at hc
     exact absurd hc.2 (by simp)
   ·exact hf
theorem coreF_ne {x:List Int} (h:redP x) (h0:x≠ []):0<(coreF x).length:=by
 have h1:0<x.length:=List.length_pos_iff.2 h0
 have e:redL [] x=x:=redL_id (acc:= []) h
 unfold coreF
 rw[e,coreC_len]
 have:=stripGo_lt h x.length 0 (by omega)
 unfold stripN
 omega
theorem coreF_nil:coreF []= []:=by
 have:=coreF_len []
 exact List.eq_nil_of_length_eq_zero (by simpa using this)
def powGo (es:List EdD) (c:List Int) (v:Int):Nat→Int→Int→Int
 | 0,_,_=>0
 | f+1,u,k=>if walkF es u c<0 then 0 else if walkF es u c=v then k else powGo es c v f (walkF es u c) (k+1)
def powF (g:GrD) (w:List Int):Int:=
 if coreB g&&wordB g.1 (redL [] w) then(if redL [] w= [] then 1 else if walkF g.2.2 0 (prefF (redL [] w))<0 then 0 else powGo g.2.2 (coreF (redL [] w)) (walkF g.2.2 0 (prefF (redL [] w))) g.2.1.toNat (walkF g.2.2 0 (prefF (redL [] w))) 1) else 0
theorem coreB_foldB {g:GrD} (h:coreB g=true):foldB g=true:=by
 unfold coreB at h
 simp only[Bool.and_eq_true] at h
 exact h.1.1
set_option maxHeartbeats 1000000 in
theorem specPowerIn_any (v vw:Value) (g:GrD) (ws:List Int) (w:World) (h:ArgG w v g) (hw:RdI w vw ws) (hl:ws.length≤536870912):
  Calls Tryz.prog 9 #[v,vw] w fun e w'=>e= .returned (.int .i64 (powF g ws))∧Below w.heap.size w w':=by
 have HG:=hDD h
 have HW:=hDD hw
 have HP:Hid (powF g ws=if coreB g&&wordB g.1 (redL [] ws) then(if redL [] ws= [] then 1 else if walkF g.2.2 0 (prefF (redL [] ws))<0 then 0 else powGo g.2.2 (coreF (redL [] ws)) (walkF g.2.2 0 (prefF (redL [] ws))) g.2.1.toNat (walkF g.2.2 0 (prefF (redL [] ws))) 1) else 0):=hDD rfl
 generalize powF g ws=P at*
 have hxl:(redL [] ws).length≤536870912:=by have:=redL_len [] ws;simp only[List.length_nil] at this;omega
 have HRP:Hid (redP (redL [] ws)):=hDD (redL_red redP_nil)
 have HCL:Hid ((coreF (redL [] ws)).length≤536870912∧(prefF (redL [] ws)).length≤536870912):=hDD (by
  have h1:=coreF_len (redL [] ws)
  have h2:(prefF (redL [] ws)).length≤(redL [] (redL [] ws)).length:=by unfold prefF;rw[List.length_take];omega
  have h3:=redL_len [] (redL [] ws)
  simp only[List.length_nil] at h3
  omega)
 obtain⟨s,rfl,hi1,hi2,ha⟩:=h
 obtain⟨A,cap,rfl⟩:=ha.form
 obtain⟨Aw,capw,rfl,hcw,hmw,_⟩:=hw.arg
 clear ha hw
 go_enter Tryz.func9,Tryz.ntmps9
 go_wp2_with fail
 have bx:Below w.heap.size w (w.alloc (Obj.cells #[Value.int IntKind.i64 g.1,Value.int IntKind.i64 g.2.1, .slice A g.2.2.length cap] 26)):=(by repeat(first | exact Below.refl _ _ | (refine Below.setCell ?_ (by first | omega | (simp<;>omega)) _) | (refine bel_drewN ?_ _) | (refine Below.drew ?_) | (refine Below.alloc ?_ (by first | omega | (simp<;>omega)) _)))
 have l0:(w.alloc (Obj.cells #[Value.int IntKind.i64 g.1,Value.int IntKind.i64 g.2.1, .slice A g.2.2.length cap] 26)).cell? ⟨w.heap.size,0,none⟩=some (.int .i64 g.1):=by simp[go_sem]
 have l1:(w.alloc (Obj.cells #[Value.int IntKind.i64 g.1,Value.int IntKind.i64 g.2.1, .slice A g.2.2.length cap] 26)).cell? ⟨w.heap.size,1,none⟩=some (.int .i64 g.2.1):=by simp[go_sem]
 have l2:(w.alloc (Obj.cells #[Value.int IntKind.i64 g.1,Value.int IntKind.i64 g.2.1, .slice A g.2.2.length cap] 26)).cell? ⟨w.heap.size,2,none⟩=some (.slice A g.2.2.length cap):=by simp[go_sem]
 have sA:w.heap.size<(w.alloc (Obj.cells #[Value.int IntKind.i64 g.1,Value.int IntKind.i64 g.2.1, .slice A g.2.2.length cap] 26)).heap.size:=by simp
 generalize w.alloc (Obj.cells #[Value.int IntKind.i64 g.1,Value.int IntKind.i64 g.2.1, .slice A g.2.2.length cap] 26)=W at bx l0 l1 l2 sA⊢
 have BX:=hDD bx
 have HA:Hid (∀w',Below W.heap.size W w'→ArgG w' (.agg #[.int .i64 g.1, .int .i64 g.2.1, .slice A g.2.2.length cap]) g):=hDD fun w' hb=>HG.out.below (BX.out.trans (hb.mono (by omega)))
 have L0:=hDD l0
 have L1:=hDD l1
 have L2:=hDD l2
 clear bx l0 l1 l2
 refine(specReduceLetters_any _ ws W (HW.out.below BX.out) (by omega)).mono ?_
 rintro e w1 ⟨rx,rfl,ox,b1⟩
 generalize redL [] ws=x at*
 have s1:=b1.size
 obtain⟨Ax,capx,rfl,hcx,hmx,_⟩:=OwI.form ox
 have OX:=hDD ox
 have B1:=hDD b1
 have q0:=(b1.cell (p:=⟨w.heap.size,0,none⟩) sA).trans L0.out
 have q1:=(b1.cell (p:=⟨w.heap.size,1,none⟩) sA).trans L1.out
 have q2:=(b1.cell (p:=⟨w.heap.size,2,none⟩) sA).trans L2.out
 clear b1 ox
 go_wp2_with fail
 refine(specIsSubgroup_any _ g w1 (HA.out _ B1.out)).mono ?_
 rintro e w2 ⟨rfl,b2⟩
 have B2:=hDD (B1.out.trans (b2.mono s1))
 have OX2:=hDD (OX.out.below b2)
 have s2:=B2.out.size
 clear b2 q0 q1 q2
 have q0:=(B2.out.cell (p:=⟨w.heap.size,0,none⟩) sA).trans L0.out
 have q1:=(B2.out.cell (p:=⟨w.heap.size,1,none⟩) sA).trans L1.out
 have q2:=(B2.out.cell (p:=⟨w.heap.size,2,none⟩) sA).trans L2.out
 rcases e1:coreB g with _ | _
 ·have HR:Hid (P=0):=hDD (by rw[HP.out,e1];rfl)
  clear e1
  go_wp2
  exact bodyPost_ret (v:= .int .i64 0) (by simp[results,Tryz.results9]) rfl ⟨by rw[HR.out],BX.out.trans (B2.out.mono (Nat.le_of_lt sA))⟩
 have HC:=hDD e1
 have hfold:=coreB_foldB e1
 have HF:=hDD hfold
 obtain⟨hr13,hsz40,hl120,_⟩:=grB_parts (foldB_parts hfold).1
 obtain⟨N,hN⟩: ∃N:Nat,g.2.1=(N:Int):=⟨g.2.1.toNat,by omega⟩
 have HWR:Hid (∀(u:Int) (c:List Int),0≤u∧u<N→walkF g.2.2 u c= -1∨(0≤walkF g.2.2 u c∧walkF g.2.2 u c<N)):=hDD fun u c hu=>by
  have:=walkF_range (foldB_parts hfold).1 c u (by rw[hN];exact hu)
  rwa [hN] at this
 have hN1:1≤N:=by omega
 have hN2:N≤40:=by omega
 have HN:=hDD hN
 have HNT:Hid (g.2.1.toNat=N):=hDD (by omega)
 clear hfold e1 hN
 go_wp2_with fail
 refine(specIsWord_any _ _ x _ OX2.out.rd.arg (by omega)).mono ?_
 rintro e w3 ⟨rfl,nn,rfl⟩
 have B3:=hDD (bel_drewN B2.out nn)
 have OX3:=hDD (OX2.out.drewN nn)
 clear OX2
 generalize w2.drewN nn=w3 at*
 have s3:=B3.out.size
 clear q0 q1 q2
 have q0:=(B3.out.cell (p:=⟨w.heap.size,0,none⟩) sA).trans L0.out
 have q1:=(B3.out.cell (p:=⟨w.heap.size,1,none⟩) sA).trans L1.out
 have q2:=(B3.out.cell (p:=⟨w.heap.size,2,none⟩) sA).trans L2.out
 rcases e2:wordB g.1 x with _ | _
 ·have HR:Hid (P=0):=hDD (by rw[HP.out,HC.out,e2];rfl)
  clear e2
  go_wp2
  exact bodyPost_ret (v:= .int .i64 0) (by simp[results,Tryz.results9]) rfl ⟨by rw[HR.out],BX.out.trans (B3.out.mono (Nat.le_of_lt sA))⟩
 have HP2:Hid (P=if x= [] then 1 else if walkF g.2.2 0 (prefF x)<0 then 0 else powGo g.2.2 (coreF x) (walkF g.2.2 0 (prefF x)) g.2.1.toNat (walkF g.2.2 0 (prefF x)) 1):=hDD (by rw[HP.out,HC.out,e2];rfl)
 clear e2
 go_wp2_with fail
 refine(specCyclicCore_any _ x _ OX3.out.rd hxl).mono ?_
 rintro e w4 ⟨rc,rp,rfl,oc,op,b4⟩
 have B4:=hDD (B3.out.trans (b4.mono s3))
 have s4:=B4.out.size
 obtain⟨Ac,capc,rfl,hcc,hmc,_⟩:=OwI.form oc
 obtain⟨Ap,capp,rfl,_⟩:=op.arg
 have OC:=hDD oc.rd
 have OP:=hDD op
 clear oc op b4 q0 q1 q2
 have q0:=(B4.out.cell (p:=⟨w.heap.size,0,none⟩) sA).trans L0.out
 have q1:=(B4.out.cell (p:=⟨w.heap.size,1,none⟩) sA).trans L1.out
 have q2:=(B4.out.cell (p:=⟨w.heap.size,2,none⟩) sA).trans L2.out
 go_wp2_with fail
 refine(walkWord_any _ _ g 0 (prefF x) _ (HA.out _ B4.out) OP.out HF.out ⟨Int.le_refl _,by rw[HN.out];omega⟩).mono ?_
 rintro e w5 ⟨rfl,b5⟩
 have B5:=hDD (B4.out.trans (b5.mono s4))
 have s5:=B5.out.size
 have OC5:=hDD (OC.out.below b5)
 clear b5 q0 q1 q2
 have HV:=hDD (HWR.out 0 (prefF x) ⟨Int.le_refl _,by omega⟩)
 have q1:=(B5.out.cell (p:=⟨w.heap.size,1,none⟩) sA).trans L1.out
 rw[HN.out] at q1
 generalize walkF g.2.2 0 (prefF x)=v0 at*
 by_cases hx0:x= []
 ·have HR:Hid (P=1):=hDD (by rw[HP2.out,if_pos hx0])
  have hc0:(coreF x).length=0:=by rw[hx0,coreF_nil];rfl
  rw[hc0] at OC5⊢
  go_wp2
  exact bodyPost_ret (v:= .int .i64 1) (by simp[results,Tryz.results9]) rfl ⟨by rw[HR.out],BX.out.trans (B5.out.mono (Nat.le_of_lt sA))⟩
 have hc0:=coreF_ne HRP.out hx0
 have HP3:Hid (P=if v0<0 then 0 else powGo g.2.2 (coreF x) v0 N v0 1):=hDD (by rw[HP2.out,if_neg hx0,HNT.out])
 generalize hcc':coreF x=c at*
 clear hcc' hx0
 have g0:((c.length:Int)==0)=false:=by rw[beq_eq_false_iff_ne];omega
 go_wp2
 go_loopw [8,9,11] (fun a b i wr=> ∃(u:Int) (is:Bool) (k:Nat),a= .int .i64 u∧b= .bool is∧i= .int .i64 k∧1≤k∧k≤N+1∧(is=true→(0≤u∧u<N)∧P=powGo g.2.2 c v0 (N+1-k) u k)∧(is=false→P=0)∧Below W.heap.size W wr∧RdI wr (.slice Ac c.length capc) c) (fun _ _ i _=>N+1-(intOf i).toNat)
 case atStart=>exact⟨v0,decide (0≤v0),1,rfl,rfl,rfl,Nat.le_refl _,by omega,(fun h=>by
  have h1:0≤v0:=of_decide_eq_true h
  have h2:=HV.out
  refine⟨⟨h1,by omega⟩,?_⟩
  rw[HP3.out,if_neg (by omega)]
  rfl),(fun h=>by
  have h1: ¬0≤v0:=of_decide_eq_false h
  rw[HP3.out,if_pos (by omega)]),B5.out,OC5.out⟩
 case round=>
  obtain⟨u,is,k,rfl,rfl,rfl,hk1,hk,ht,hf,hbel,hrd⟩:=hrel
  have HB:=hDD hbel
  have HT:=hDD ht
  have HFA:=hDD hf
  have HRD:=hDD hrd
  have hs:=hbel.size
  have q0:=(hbel.cell (p:=⟨w.heap.size,0,none⟩) sA).trans L0.out
  have q2:=(hbel.cell (p:=⟨w.heap.size,2,none⟩) sA).trans L2.out
  have q1':=(hbel.cell (p:=⟨w.heap.size,1,none⟩) sA).trans L1.out
  rw[HN.out] at q1'
  clear ht hf hbel hrd
  by_cases hlt:k≤N
  ·have hki:(k:Int)≤(N:Int):=by omega
   cases is with
   | false=>
     have F:=hDD (HFA.out rfl)
     go_wp2
     exact bodyPost_ret (v:= .int .i64 0) (by simp[results,Tryz.results9]) rfl ⟨by rw[F.out],BX.out.trans (HB.out.mono (by omega))⟩
   | true=>
     obtain⟨hu,hPk⟩:=HT.out rfl
     have HPK:=hDD hPk
     have ST:Hid (powGo g.2.2 c v0 (N+1-k) u k=if walkF g.2.2 u c<0 then 0 else if walkF g.2.2 u c=v0 then(k:Int) else powGo g.2.2 c v0 (N+1-(k+1)) (walkF g.2.2 u c) ((k:Int)+1)):=hDD (by
      rw[show N+1-k=(N+1-(k+1))+1 by omega]
      rfl)
     clear hPk
     go_wp2_with fail
     rw[←HN.out]
     refine(walkWord_any _ _ g u c _ (HA.out _ HB.out) HRD.out HF.out ⟨hu.1,by rw[HN.out];omega⟩).mono ?_
     rintro e w9 ⟨rfl,b9⟩
     have B9:=hDD (HB.out.trans (b9.mono (by omega)))
     have RD9:=hDD (HRD.out.below b9)
     clear b9 q0 q1' q2
     have HY:=hDD (HWR.out u c hu)
     generalize walkF g.2.2 u c=y at*
     by_cases hy:0≤y
     ·have hd:decide (0≤y)=true:=by simp[hy]
      rw[hd]
      rcases hyv:(y==v0) with _ | _
      ·have F:Hid (P=powGo g.2.2 c v0 (N+1-(k+1)) y ((k:Int)+1)):=hDD (by rw[HPK.out,ST.out,if_neg (by omega),if_neg (by simpa using hyv)])
       go_wp2
       go_roundw
       case rel=>exact⟨y,true,k+1,rfl,rfl,by go_num,by omega,by omega,(fun _=>⟨by have:=HY.out;omega,by rw[F.out];rfl⟩),(fun h=>by cases h),B9.out,RD9.out⟩
       case measure=>simp[intOf];omega
      ·have F:Hid (P=(k:Int)):=hDD (by rw[HPK.out,ST.out,if_neg (by omega),if_pos (by simpa using hyv)])
       go_wp2
       exact bodyPost_ret (v:= .int .i64 k) (by simp[results,Tryz.results9]) rfl ⟨by rw[F.out],BX.out.trans (B9.out.mono (by omega))⟩
     ·have hd:decide (0≤y)=false:=by simp;omega
      rw[hd]
      have F:Hid (P=0):=hDD (by rw[HPK.out,ST.out,if_pos (by omega)])
      go_wp2
      go_roundw
      case rel=>exact⟨y,false,k+1,rfl,rfl,by go_num,by omega,by omega,(fun h=>by cases h),(fun _=>F.out),B9.out,RD9.out⟩
      case measure=>simp[intOf];omega
  ·have hki: ¬(k:Int)≤(N:Int):=by omega
   have F:Hid (P=0):=hDD (by
    cases is with
    | false=>exact HFA.out rfl
    | true=>
      rw[(HT.out rfl).2,show N+1-k=0 by omega]
      rfl)
   go_wp2
   exact bodyPost_ret (v:= .int .i64 0) (by simp[results,Tryz.results9]) rfl ⟨by rw[F.out],BX.out.trans (HB.out.mono (by omega))⟩
set_option maxHeartbeats 1000000 in
theorem implPowerIn_any (v vw:Value) (g:GrD) (ws:List Int) (w:World) (h:ArgG w v g) (hw:RdI w vw ws) (hl:ws.length≤536870912):
  Calls Tryz.prog 8 #[v,vw] w fun e w'=>e= .returned (.int .i64 (powF g ws))∧Below w.heap.size w w':=by
 have HG:=hDD h
 have HW:=hDD hw
 have HP:Hid (powF g ws=if coreB g&&wordB g.1 (redL [] ws) then(if redL [] ws= [] then 1 else if walkF g.2.2 0 (prefF (redL [] ws))<0 then 0 else powGo g.2.2 (coreF (redL [] ws)) (walkF g.2.2 0 (prefF (redL [] ws))) g.2.1.toNat (walkF g.2.2 0 (prefF (redL [] ws))) 1) else 0):=hDD rfl
 generalize powF g ws=P at*
 have hxl:(redL [] ws).length≤536870912:=by have:=redL_len [] ws;simp only[List.length_nil] at this;omega
 have HRP:Hid (redP (redL [] ws)):=hDD (redL_red redP_nil)
 have HCL:Hid ((coreF (redL [] ws)).length≤536870912∧(prefF (redL [] ws)).length≤536870912):=hDD (by
  have h1:=coreF_len (redL [] ws)
  have h2:(prefF (redL [] ws)).length≤(redL [] (redL [] ws)).length:=by unfold prefF;rw[List.length_take];omega
  have h3:=redL_len [] (redL [] ws)
  simp only[List.length_nil] at h3
  omega)
 obtain⟨s,rfl,hi1,hi2,ha⟩:=h
 obtain⟨A,cap,rfl⟩:=ha.form
 obtain⟨Aw,capw,rfl,hcw,hmw,_⟩:=hw.arg
 clear ha hw
 go_enter Tryz.func8,Tryz.ntmps8
 go_wp2_with fail
 have bx:Below w.heap.size w (w.alloc (Obj.cells #[Value.int IntKind.i64 g.1,Value.int IntKind.i64 g.2.1, .slice A g.2.2.length cap] 26)):=(by repeat(first | exact Below.refl _ _ | (refine Below.setCell ?_ (by first | omega | (simp<;>omega)) _) | (refine bel_drewN ?_ _) | (refine Below.drew ?_) | (refine Below.alloc ?_ (by first | omega | (simp<;>omega)) _)))
 have l0:(w.alloc (Obj.cells #[Value.int IntKind.i64 g.1,Value.int IntKind.i64 g.2.1, .slice A g.2.2.length cap] 26)).cell? ⟨w.heap.size,0,none⟩=some (.int .i64 g.1):=by simp[go_sem]
 have l1:(w.alloc (Obj.cells #[Value.int IntKind.i64 g.1,Value.int IntKind.i64 g.2.1, .slice A g.2.2.length cap] 26)).cell? ⟨w.heap.size,1,none⟩=some (.int .i64 g.2.1):=by simp[go_sem]
 have l2:(w.alloc (Obj.cells #[Value.int IntKind.i64 g.1,Value.int IntKind.i64 g.2.1, .slice A g.2.2.length cap] 26)).cell? ⟨w.heap.size,2,none⟩=some (.slice A g.2.2.length cap):=by simp[go_sem]
 have sA:w.heap.size<(w.alloc (Obj.cells #[Value.int IntKind.i64 g.1,Value.int IntKind.i64 g.2.1, .slice A g.2.2.length cap] 26)).heap.size:=by simp
 generalize w.alloc (Obj.cells #[Value.int IntKind.i64 g.1,Value.int IntKind.i64 g.2.1, .slice A g.2.2.length cap] 26)=W at bx l0 l1 l2 sA⊢
 have BX:=hDD bx
 have HA:Hid (∀w',Below W.heap.size W w'→ArgG w' (.agg #[.int .i64 g.1, .int .i64 g.2.1, .slice A g.2.2.length cap]) g):=hDD fun w' hb=>HG.out.below (BX.out.trans (hb.mono (by omega)))
 have L0:=hDD l0
 have L1:=hDD l1
 have L2:=hDD l2
 clear bx l0 l1 l2
 refine(implReduceLetters_any _ ws W (HW.out.below BX.out) (by omega)).mono ?_
 rintro e w1 ⟨rx,rfl,ox,b1⟩
 generalize redL [] ws=x at*
 have s1:=b1.size
 obtain⟨Ax,capx,rfl,hcx,hmx,_⟩:=OwI.form ox
 have OX:=hDD ox
 have B1:=hDD b1
 have q0:=(b1.cell (p:=⟨w.heap.size,0,none⟩) sA).trans L0.out
 have q1:=(b1.cell (p:=⟨w.heap.size,1,none⟩) sA).trans L1.out
 have q2:=(b1.cell (p:=⟨w.heap.size,2,none⟩) sA).trans L2.out
 clear b1 ox
 go_wp2_with fail
 refine(implIsCore_any _ g w1 (HA.out _ B1.out)).mono ?_
 rintro e w2 ⟨rfl,b2⟩
 have B2:=hDD (B1.out.trans (b2.mono s1))
 have OX2:=hDD (OX.out.below b2)
 have s2:=B2.out.size
 clear b2 q0 q1 q2
 have q0:=(B2.out.cell (p:=⟨w.heap.size,0,none⟩) sA).trans L0.out
 have q1:=(B2.out.cell (p:=⟨w.heap.size,1,none⟩) sA).trans L1.out
 have q2:=(B2.out.cell (p:=⟨w.heap.size,2,none⟩) sA).trans L2.out
 rcases e1:coreB g with _ | _
 ·have HR:Hid (P=0):=hDD (by rw[HP.out,e1];rfl)
  clear e1
  go_wp2
  exact bodyPost_ret (v:= .int .i64 0) (by simp[results,Tryz.results8]) rfl ⟨by rw[HR.out],BX.out.trans (B2.out.mono (Nat.le_of_lt sA))⟩
 have HC:=hDD e1
 have hfold:=coreB_foldB e1
 have HF:=hDD hfold
 obtain⟨hr13,hsz40,hl120,_⟩:=grB_parts (foldB_parts hfold).1
 obtain⟨N,hN⟩: ∃N:Nat,g.2.1=(N:Int):=⟨g.2.1.toNat,by omega⟩
 have HWR:Hid (∀(u:Int) (c:List Int),0≤u∧u<N→walkF g.2.2 u c= -1∨(0≤walkF g.2.2 u c∧walkF g.2.2 u c<N)):=hDD fun u c hu=>by
  have:=walkF_range (foldB_parts hfold).1 c u (by rw[hN];exact hu)
  rwa [hN] at this
 have hN1:1≤N:=by omega
 have hN2:N≤40:=by omega
 have HN:=hDD hN
 have HNT:Hid (g.2.1.toNat=N):=hDD (by omega)
 clear hfold e1 hN
 go_wp2_with fail
 refine(implIsWord_any _ _ x _ OX2.out.rd.arg (by omega)).mono ?_
 rintro e w3 ⟨rfl,rfl⟩
 rcases e2:wordB g.1 x with _ | _
 ·have HR:Hid (P=0):=hDD (by rw[HP.out,HC.out,e2];rfl)
  clear e2
  go_wp2
  exact bodyPost_ret (v:= .int .i64 0) (by simp[results,Tryz.results8]) rfl ⟨by rw[HR.out],BX.out.trans (B2.out.mono (Nat.le_of_lt sA))⟩
 have HP2:Hid (P=if x= [] then 1 else if walkF g.2.2 0 (prefF x)<0 then 0 else powGo g.2.2 (coreF x) (walkF g.2.2 0 (prefF x)) g.2.1.toNat (walkF g.2.2 0 (prefF x)) 1):=hDD (by rw[HP.out,HC.out,e2];rfl)
 clear e2
 by_cases hx0:x= []
 ·have HR:Hid (P=1):=hDD (by rw[HP2.out,if_pos hx0])
  have hc0:x.length=0:=by rw[hx0];rfl
  rw[hc0]
  go_wp2
  exact bodyPost_ret (v:= .int .i64 1) (by simp[results,Tryz.results8]) rfl ⟨by rw[HR.out],BX.out.trans (B2.out.mono (Nat.le_of_lt sA))⟩
 have hx1:0<x.length:=List.length_pos_iff.2 hx0
 have gx:((x.length:Int)==0)=false:=by rw[beq_eq_false_iff_ne];omega
 have HX0:=hDD hx0
 clear hx0
 go_wp2_with fail
 refine(implCyclicCore_any _ x _ OX2.out.rd hxl).mono ?_
 rintro e w4 ⟨rc,rp,rfl,oc,op,b4⟩
 have B4:=hDD (B2.out.trans (b4.mono s2))
 have s4:=B4.out.size
 obtain⟨Ac,capc,rfl,hcc,hmc,_⟩:=OwI.form oc
 obtain⟨Ap,capp,rfl,_⟩:=op.arg
 have OC:=hDD oc.rd
 have OP:=hDD op
 clear oc op b4 q0 q1 q2
 have q0:=(B4.out.cell (p:=⟨w.heap.size,0,none⟩) sA).trans L0.out
 have q1:=(B4.out.cell (p:=⟨w.heap.size,1,none⟩) sA).trans L1.out
 have q2:=(B4.out.cell (p:=⟨w.heap.size,2,none⟩) sA).trans L2.out
 go_wp2_with fail
 refine(read_any _ _ g 0 (prefF x) _ (HA.out _ B4.out) OP.out HF.out ⟨Int.le_refl _,by rw[HN.out];omega⟩).mono ?_
 rintro e w5 ⟨rfl,b5⟩
 have B5:=hDD (B4.out.trans (b5.mono s4))
 have s5:=B5.out.size
 have OC5:=hDD (OC.out.below b5)
 clear b5 q0 q1 q2
 have HV:=hDD (HWR.out 0 (prefF x) ⟨Int.le_refl _,by omega⟩)
 have hwr:=walk_read g.2.2 (prefF x) 0 (Int.le_refl _)
 have hrl:=readF_le g.2.2 (prefF x) 0
 have hpl:=HCL.out.2
 have HP3:Hid (P=if walkF g.2.2 0 (prefF x)<0 then 0 else powGo g.2.2 (coreF x) (walkF g.2.2 0 (prefF x)) N (walkF g.2.2 0 (prefF x)) 1):=hDD (by rw[HP2.out,if_neg HX0.out,HNT.out])
 clear HP2
 generalize walkF g.2.2 0 (prefF x)=v0 at*
 generalize (prefF x).length=pl at hwr hrl hpl⊢
 generalize readF g.2.2 0 (prefF x)=rr at*
 obtain⟨r1,r2⟩:=rr
 simp only at hwr hrl⊢
 rcases hwr with ⟨hv0,hlt2⟩ | ⟨hv0,hlt2,hv1⟩
 ·have HR:Hid (P=0):=hDD (by rw[HP3.out,if_pos hv0])
  have hi:(r2:Int)<(pl:Int):=by omega
  go_wp2
  exact bodyPost_ret (v:= .int .i64 0) (by simp[results,Tryz.results8]) rfl ⟨by rw[HR.out],BX.out.trans (B5.out.mono (Nat.le_of_lt sA))⟩
 subst hlt2 hv1
 have hv2:r1<N:=by have:=HV.out;omega
 have HP4:Hid (P=powGo g.2.2 (coreF x) r1 N r1 1):=hDD (by rw[HP3.out,if_neg (by omega)])
 generalize hcc':coreF x=c at*
 have hcl:=HCL.out.1
 clear hcc' HCL
 go_wp2
 go_loopw [10,11] (fun a i wr=> ∃(u:Int) (k:Nat),a= .int .i64 u∧i= .int .i64 k∧1≤k∧k≤N+1∧(0≤u∧u<N)∧P=powGo g.2.2 c r1 (N+1-k) u k∧Below W.heap.size W wr∧RdI wr (.slice Ac c.length capc) c) (fun _ i _=>N+1-(intOf i).toNat)
 case atStart=>exact⟨r1,1,rfl,rfl,Nat.le_refl _,by omega,⟨hv0,hv2⟩,by rw[HP4.out];rfl,B5.out,OC5.out⟩
 case round=>
  obtain⟨u,k,rfl,rfl,hk1,hk,hu,hPk,hbel,hrd⟩:=hrel
  have HB:=hDD hbel
  have HPK:=hDD hPk
  have HRD:=hDD hrd
  have hs:=hbel.size
  have q0:=(hbel.cell (p:=⟨w.heap.size,0,none⟩) sA).trans L0.out
  have q2:=(hbel.cell (p:=⟨w.heap.size,2,none⟩) sA).trans L2.out
  have q1':=(hbel.cell (p:=⟨w.heap.size,1,none⟩) sA).trans L1.out
  rw[HN.out] at q1'
  clear hPk hbel hrd
  by_cases hlt:k≤N
  ·have hki:(k:Int)≤(N:Int):=by omega
   have ST:Hid (powGo g.2.2 c r1 (N+1-k) u k=if walkF g.2.2 u c<0 then 0 else if walkF g.2.2 u c=r1 then(k:Int) else powGo g.2.2 c r1 (N+1-(k+1)) (walkF g.2.2 u c) ((k:Int)+1)):=hDD (by
    rw[show N+1-k=(N+1-(k+1))+1 by omega]
    rfl)
   go_wp2_with fail
   rw[←HN.out]
   refine(read_any _ _ g u c _ (HA.out _ HB.out) HRD.out HF.out ⟨hu.1,by rw[HN.out];omega⟩).mono ?_
   rintro e w9 ⟨rfl,b9⟩
   have B9:=hDD (HB.out.trans (b9.mono (by omega)))
   have RD9:=hDD (HRD.out.below b9)
   clear b9 q0 q1' q2
   have HY:=hDD (HWR.out u c hu)
   have hwr:=walk_read g.2.2 c u hu.1
   generalize walkF g.2.2 u c=y at*
   generalize readF g.2.2 u c=rr at*
   obtain⟨y1,y2⟩:=rr
   simp only at hwr⊢
   rcases hwr with ⟨hy,hy2⟩ | ⟨hy,hy2,hy1⟩
   ·have hi:(y2:Int)<(c.length:Int):=by omega
    have F:Hid (P=0):=hDD (by rw[HPK.out,ST.out,if_pos hy])
    go_wp2
    exact bodyPost_ret (v:= .int .i64 0) (by simp[results,Tryz.results8]) rfl ⟨by rw[F.out],BX.out.trans (B9.out.mono (by omega))⟩
   ·subst hy2 hy1
    rcases hyv:(y1==r1) with _ | _
    ·have F:Hid (P=powGo g.2.2 c r1 (N+1-(k+1)) y1 ((k:Int)+1)):=hDD (by rw[HPK.out,ST.out,if_neg (by omega),if_neg (by simpa using hyv)])
     go_wp2
     go_roundw
     case rel=>exact⟨y1,k+1,rfl,by go_num,by omega,by omega,by have:=HY.out;omega,by rw[F.out];rfl,B9.out,RD9.out⟩
     case measure=>simp[intOf];omega
    ·have F:Hid (P=(k:Int)):=hDD (by rw[HPK.out,ST.out,if_neg (by omega),if_pos (by simpa using hyv)])
     go_wp2
     exact bodyPost_ret (v:= .int .i64 k) (by simp[results,Tryz.results8]) rfl ⟨by rw[F.out],BX.out.trans (B9.out.mono (by omega))⟩
  ·have hki: ¬(k:Int)≤(N:Int):=by omega
   have F:Hid (P=0):=hDD (by
    rw[HPK.out,show N+1-k=0 by omega]
    rfl)
   go_wp2
   exact bodyPost_ret (v:= .int .i64 0) (by simp[results,Tryz.results8]) rfl ⟨by rw[F.out],BX.out.trans (HB.out.mono (by omega))⟩
end Go.Proofs.YteobmaambgmdbaaGreat
namespace Go.Proofs.YteobmaambgmdbaaGreat
set_option maxRecDepth 20000
set_option linter.unusedVariables false
set_option linter.unusedSimpArgs false
open Go.RowKit
set_option maxHeartbeats 1000000 in
theorem l1BelowN_any (p:Nat) (A:Option Addr) (cap:Nat) (cs:List Int) (n:Int) (w:World) (h:Cur p A cap cs w) (hn0:0<n) (hn:n≤1000000):
  Calls Tryz.prog 73 #[.pointer (some ⟨p,0,none⟩), .int .i64 n] w fun e w'=> ∃x:Int,e= .returned (.int .i64 x)∧(0≤x∧x<n)∧Cur p A cap cs w'∧Tr p (p+1) w w':=by
 by_cases h256:n≤256
 ·exact l1Below_any p A cap cs n w h hn0 h256
 have H:=hDD h
 have h1: ¬n≤0:=by omega
 have h2: ¬n=0:=by omega
 clear h
 go_enter Tryz.func73,Tryz.ntmps73
 go_wp2_with fail
 refine(l1Byte_any p A cap cs _ H.out).mono ?_
 rintro e w1 ⟨y1,rfl,⟨ya,yb⟩,c1,t1⟩
 have C1:=hDD c1
 have T1:=hDD t1
 clear c1 t1
 go_wp2_with fail
 refine(l1Byte_any p A cap cs _ C1.out).mono ?_
 rintro e w2 ⟨y2,rfl,⟨yc,yd⟩,c2,t2⟩
 have C2:=hDD c2
 have T2:=hDD (T1.out.trans t2)
 clear c2 t2
 go_wp2_with fail
 refine(l1Byte_any p A cap cs _ C2.out).mono ?_
 rintro e w3 ⟨y3,rfl,⟨ye,yf⟩,c3,t3⟩
 have C3:=hDD c3
 have T3:=hDD (T2.out.trans t3)
 clear c3 t3
 go_wp2_with fail
 refine(l1Byte_any p A cap cs _ C3.out).mono ?_
 rintro e w4 ⟨y4,rfl,⟨yg,yh⟩,c4,t4⟩
 have C4:=hDD c4
 have T4:=hDD (T3.out.trans t4)
 clear c4 t4
 have e1:IntKind.i64.wrap (y1*16777216)=y1*16777216:=by rw[IntKind.wrap_i64];omega
 have e2:IntKind.i64.wrap (y2*65536)=y2*65536:=by rw[IntKind.wrap_i64];omega
 have e3:IntKind.i64.wrap (y3*256)=y3*256:=by rw[IntKind.wrap_i64];omega
 obtain⟨z,hz⟩: ∃z,z=y1*16777216+y2*65536:=⟨_,rfl⟩
 have e4:IntKind.i64.wrap (y1*16777216+y2*65536)=z:=by rw[IntKind.wrap_i64];omega
 have e5:IntKind.i64.wrap (z+y3*256)=z+y3*256:=by rw[IntKind.wrap_i64];omega
 have e6:IntKind.i64.wrap (z+y3*256+y4)=z+y3*256+y4:=by rw[IntKind.wrap_i64];omega
 have hz0:0≤z+y3*256+y4:=by omega
 obtain⟨a1,ha1⟩: ∃a,a=y1*16777216:=⟨_,rfl⟩
 obtain⟨a2,ha2⟩: ∃a,a=y2*65536:=⟨_,rfl⟩
 obtain⟨a3,ha3⟩: ∃a,a=y3*256:=⟨_,rfl⟩
 have HT:Hid (y1*16777216+y2*65536+y3*256+y4=z+a3+y4):=hDD (by omega)
 rw[←ha1] at e1 e4
 rw[←ha2] at e2 e4
 rw[←ha3] at e3 e5 e6 hz0
 have hz1:z+a3+y4≤9000000000000000000:=by omega
 clear ha1 ha2 ha3
 clear hz
 go_wp2
 rw[HT.out]
 obtain⟨t,ht⟩: ∃t,t=z+a3+y4:=⟨_,rfl⟩
 rw[←ht]
 exact bodyPost_ret (v:= .int .i64 (t%n)) (by simp[results,Tryz.results73,go_sem]) rfl ⟨t%n,rfl,⟨Int.emod_nonneg _ h2,Int.emod_lt_of_pos _ hn0⟩,C4.out,T4.out⟩
theorem lp4_len (es:List EdD) (v:Int) {r:Nat} (hr:r≤3):(lpG es v (lettersL r) 4).length≤1296:=lpG_len es v (lettersL r) (by rw[lettersL_len];omega) 4
set_option maxRecDepth 100000 in
set_option maxHeartbeats 4000000 in
theorem l9Word_any (p:Nat) (A:Option Addr) (cap:Nat) (cs:List Int) (v:Value) (g:GrD) (w:World) (h:Cur p A cap cs w) (hg:ArgG w v g) (hnp: ∀w',Tr p (p+1) w w'→ArgG w' v g):
  Calls Tryz.prog 57 #[.pointer (some ⟨p,0,none⟩),v] w fun e w'=> ∃rv xs,e= .returned rv∧OwI w' w.heap.size rv xs∧xs.length≤100∧Cur p A cap cs w'∧Tr p (p+1) w w':=by
 have H:=hDD h
 have HG:=hDD hnp
 have hp:=h.lt
 obtain⟨s,rfl,hi1,hi2,hga⟩:=hg
 obtain⟨Ag,cg,rfl⟩:=hga.form
 obtain⟨g1,N,es⟩:=g
 simp only at*
 clear h hga hnp
 go_enter Tryz.func57,Tryz.ntmps57
 go_wp2_with fail
 obtain⟨W0,hW0⟩: ∃W,W=w.alloc (Obj.cells #[Value.int IntKind.i64 g1,Value.int IntKind.i64 N, .slice Ag es.length cg] 26):=⟨_,rfl⟩
 rw[←hW0]
 obtain⟨xb,b0,s0⟩:=CBx.new hW0
 clear hW0
 have XB:=hDD xb
 have I0:Hid (DrI p A cap cs w W0):=hDD ((DrI.refl H.out).bel b0)
 clear xb b0
 refine(l1Once_any p A cap cs 2 _ I0.out.cur (by omega) (by omega)).mono ?_
 rintro e w1 ⟨x,rfl,c1,t1⟩
 have I1:=hDD (I0.out.to t1 c1)
 have X1:=hDD (XB.out.trP t1 (by omega))
 have hs1:=X1.out.lt
 clear c1 t1 I0 XB
 have L9: ∀wk,DrI p A cap cs w wk→CBx wk w.heap.size (.int .i64 g1) (.int .i64 N) (.slice Ag es.length cg)→ ∀r:Int,1≤r→r≤3→
   Calls Tryz.prog 88 #[.pointer (some ⟨p,0,none⟩), .int .i64 r, .int .i64 6] wk fun e w'=> ∃(v:Value) (xs:List Int),e= .returned v∧OwI w' w.heap.size v xs∧xs.length≤100∧Cur p A cap cs w'∧Tr p (p+1) w w':=fun wk hI _ r h1 h3=>
  (l2Of_any p A cap cs r 6 wk hI.cur h1 h3 (by omega) (by omega)).mono fun e w' ⟨v,xs,he,o,hx,c,t⟩=>⟨v,xs,he,o.mono hI.tr.size,by omega,c,hI.tr.trans t⟩
 have HL9:=hDD L9
 clear L9
 have FIN:Hid (∀r0:Int,1≤max 1 (min r0 3)∧max 1 (min r0 3)≤3):=hDD fun r0=>by omega
 have u0:=X1.out.c0
 have u1:=X1.out.c1
 have u2:=X1.out.c2
 rcases x with _ | _
 ·go_wp2_with fail
  refine(HL9.out w1 I1.out X1.out (max 1 (min g1 3)) (FIN.out g1).1 (FIN.out g1).2).mono ?_
  rintro e w9 ⟨v9,xs,rfl,o9,hl9,c9,t9⟩
  obtain⟨A9,m9,cp9,rfl⟩:=o9.any2
  have O9:=hDD o9
  have C9:=hDD c9
  have T9:=hDD t9
  clear o9 c9 t9
  go_wp2
  exact bodyPost_ret (v:= .slice A9 m9 cp9) (by simp[results,Tryz.results57,go_sem]) rfl ⟨_,xs,rfl,O9.out,hl9,C9.out,T9.out⟩
 ·go_wp2_with fail
  refine(specIsSubgroup_any _ (g1,N,es) w1 (HG.out w1 I1.out.tr)).mono ?_
  rintro e w2 ⟨rfl,b2⟩
  have I2:=hDD (I1.out.bel b2)
  have HS2:Hid (p<w2.heap.size):=hDD (by have:=I2.out.tr.size;omega)
  have X2:=hDD (X1.out.below b2)
  clear b2 u0 u1 u2 I1 X1
  have u0:=X2.out.c0
  have u1:=X2.out.c1
  have u2:=X2.out.c2
  rcases ec:coreB (g1,N,es) with _ | _
  ·go_wp2_with fail
   refine(HL9.out w2 I2.out X2.out (max 1 (min g1 3)) (FIN.out g1).1 (FIN.out g1).2).mono ?_
   rintro e w9 ⟨v9,xs,rfl,o9,hl9,c9,t9⟩
   obtain⟨A9,m9,cp9,rfl⟩:=o9.any2
   have O9:=hDD o9
   have C9:=hDD c9
   have T9:=hDD t9
   clear o9 c9 t9
   go_wp2
   exact bodyPost_ret (v:= .slice A9 m9 cp9) (by simp[results,Tryz.results57,go_sem]) rfl ⟨_,xs,rfl,O9.out,hl9,C9.out,T9.out⟩
  ·have hfo:=coreB_foldB ec
   have hgp:=grB_parts (coreB_grB ec)
   simp only at hgp
   have HLW:=hDD (specLoopWords_any _ (g1,N,es) 0 3 w2 (HG.out w2 I2.out.tr) hfo (by simp only;omega) (by omega))
   have hl4:(lpG es 0 (lettersL g1.toNat) 4).length≤1296:=lp4_len es 0 (by omega)
   have HM:Hid (∀x∈lpG es 0 (lettersL g1.toNat) 4,x.length≤3):=hDD fun x hx=>by have:=(lpG_mem es 0 (lettersL g1.toNat) (by omega) 4 x hx).1;omega
   simp only[Nat.reduceAdd] at HLW
   clear hfo hgp
   generalize lpG es 0 (lettersL g1.toNat) 4=L at*
   go_wp2_with fail
   refine HLW.out.mono ?_
   rintro e w3 ⟨v3,rfl,o3,b3⟩
   have I3:=hDD (I2.out.bel b3)
   have X3:=hDD (X2.out.below b3)
   have O3:=hDD o3
   obtain⟨A3,c3,rfl,_⟩:=o3.rd.form
   clear o3 b3 u0 u1 u2 I2 X2 HLW
   have u0:=X3.out.c0
   have u1:=X3.out.c1
   have u2:=X3.out.c2
   by_cases h1:1<L.length
   ·have h1I:(1:Int)<(L.length:Int):=by omega
    obtain⟨lb,off,_,_,rfl,hlb,_⟩:=O3.out.rd.at (k:=0) (by omega)
    have hlp:p≠lb:=by have:=(O3.out.lt (b:=lb) rfl).1;have:=HS2.out;omega
    go_wp2_with fail
    refine wp_region_gen [.val (.slice (some ⟨lb,off,none⟩) L.length c3), .val (.pointer (some ⟨p,0,none⟩)), .val (.slice (some ⟨lb,off,none⟩) L.length c3), .val (.int .i64 L.length), .pur (fun _ v=> ∃k:Nat,k<L.length∧v= .int .i64 k), .pur (fun _ v=> ∃k:Nat,k<L.length∧v= .pointer (some ⟨lb,off+k,none⟩)), .pur (fun _ v=> ∃k:Nat,k<L.length∧w3.cell? ⟨lb,off+k,none⟩=some v),
      .val (.slice (some ⟨lb,off,none⟩) L.length c3), .val (.pointer (some ⟨p,0,none⟩)), .val (.slice (some ⟨lb,off,none⟩) L.length c3), .val (.int .i64 L.length), .pur (fun _ v=> ∃k:Nat,k<L.length∧v= .int .i64 k), .pur (fun _ v=> ∃k:Nat,k<L.length∧v= .pointer (some ⟨lb,off+k,none⟩)), .pur (fun _ v=> ∃k:Nat,k<L.length∧w3.cell? ⟨lb,off+k,none⟩=some v),
      .mem (fun _ W v=> ∃xs A' c',v= .slice A' xs.length c'∧OwI W w3.heap.size v xs∧xs.length≤100), .pur (fun us v=>v=us 14)]
     [none,none,none,none,some (fun W W'=>Tr p (p+1) W W'∧Cur p A cap cs W'),none,none,none,none,none,none,some (fun W W'=>Tr p (p+1) W W'∧Cur p A cap cs W'),none,none,some (fun W W'=>Below W.heap.size W W'),none]
     (DrI p A cap cs w3) [] (by kernel_rfl) (by kernel_rfl) (by rfl) (by rfl)
     ((DrI.refl I3.out.cur).bel (Below.refl _ _).drew)
     ⟨fun _ _ h t=>h.to t.1 t.2,fun _ _ h t=>h.to t.1 t.2,fun _ _ h t=>h.bel t,trivial⟩
     trivial (fun vs=> ?_)
    have HCE:Hid (∀W',Tr p (p+1) w3 W'→ ∀k,W'.cell? ⟨lb,off+k,none⟩=w3.cell? ⟨lb,off+k,none⟩):=hDD fun W' ht k=>World.cell?_of_block (w:=w3) (ht.block lb hlb (by omega))
    have HRE:Hid (∀W',Tr p (p+1) w3 W'→ ∀(k:Nat) (v:Value),(hk:k<L.length)→w3.cell? ⟨lb,off+k,none⟩=some v→RdI W' v L[k]∧L[k].length≤3):=hDD fun W' ht k v hk hv=>by
     have hrd:RdII W' (.slice (some ⟨lb,off,none⟩) L.length c3) L:=(O3.out.trP ht HS2.out (Nat.le_refl _)).rd
     obtain⟨b',off',A1,cap1,e1,_,hc,_,_,hr⟩:=hrd.at hk
     injection e1 with e1
     injection e1 with e1 e2
     subst e1;subst e2
     rw[HCE.out W' ht k,hv] at hc
     injection hc with hc
     rw[hc]
     exact⟨hr,HM.out _ (List.getElem_mem hk)⟩
    refine⟨fun W' K' Q0 hI hD hK=> ?_,?_⟩
    ·skip
     go_simp
     exact hK.out _ _ rfl rfl
    simp only[Act.put,List.setIfInBounds_toArray,List.set_cons_zero,List.set_cons_succ,Sg.pick,Nat.reduceAdd]
    refine⟨fun W' K' Q0 hI hD hK=> ?_,?_⟩
    ·skip
     go_simp
     exact hK.out _ _ rfl rfl
    simp only[Act.put,List.setIfInBounds_toArray,List.set_cons_zero,List.set_cons_succ,Sg.pick,Nat.reduceAdd]
    refine⟨fun W' K' Q0 hI hD hK=> ?_,?_⟩
    ·skip
     go_simp
     exact hK.out _ _ rfl rfl
    simp only[Act.put,List.setIfInBounds_toArray,List.set_cons_zero,List.set_cons_succ,Sg.pick,Nat.reduceAdd]
    refine⟨fun W' K' Q0 hI hD hK=> ?_,?_⟩
    ·skip
     go_simp
     exact hK.out _ _ rfl rfl
    simp only[Act.put,List.setIfInBounds_toArray,List.set_cons_zero,List.set_cons_succ,Sg.pick,Nat.reduceAdd]
    refine⟨fun W' K' Q0 hI hD hK=> ?_,?_⟩
    ·skip
     go_simp
     refine(l1BelowN_any p A cap cs L.length _ hI.out.cur (by omega) (by omega)).mono ?_;rintro e w' ⟨x,rfl,hx,c,t⟩;exact hK.out _ _ ⟨t,c⟩ ⟨x.toNat,by omega,by rw[Int.toNat_of_nonneg hx.1]⟩
    simp only[Act.put,List.setIfInBounds_toArray,List.set_cons_zero,List.set_cons_succ,Sg.pick,Nat.reduceAdd]
    refine⟨fun W' K' Q0 hI hD hK=> ?_,?_⟩
    ·obtain⟨k,hk,e4⟩:=(show ∃k:Nat,k<L.length∧vs 4= .int .i64 k from hD.out 4 (by kernel_rfl))
     have hkI:(k:Int)<(L.length:Int):=(by omega)
     rw[e4] at hK⊢
     go_simp
     exact hK.out _ _ rfl ⟨k,hk,rfl⟩
    simp only[Act.put,List.setIfInBounds_toArray,List.set_cons_zero,List.set_cons_succ,Sg.pick,Nat.reduceAdd]
    refine⟨fun W' K' Q0 hI hD hK=> ?_,?_⟩
    ·obtain⟨k,hk,e5⟩:=(show ∃k:Nat,k<L.length∧vs 5= .pointer (some ⟨lb,off+k,none⟩) from hD.out 5 (by kernel_rfl))
     rw[e5] at hK⊢
     obtain⟨_,_,A1,cap1,e1,_,hc,_⟩:=((O3.out.trP hI.out.tr HS2.out (Nat.le_refl _)).rd).at hk
     injection e1 with e1
     injection e1 with e1 e2
     subst e1
     subst e2
     have hcw:=(HCE.out _ hI.out.tr k).symm.trans hc
     go_simp
     exact hK.out _ _ rfl ⟨k,hk,hcw⟩
    simp only[Act.put,List.setIfInBounds_toArray,List.set_cons_zero,List.set_cons_succ,Sg.pick,Nat.reduceAdd]
    refine⟨fun W' K' Q0 hI hD hK=> ?_,?_⟩
    ·skip
     go_simp
     exact hK.out _ _ rfl rfl
    simp only[Act.put,List.setIfInBounds_toArray,List.set_cons_zero,List.set_cons_succ,Sg.pick,Nat.reduceAdd]
    refine⟨fun W' K' Q0 hI hD hK=> ?_,?_⟩
    ·skip
     go_simp
     exact hK.out _ _ rfl rfl
    simp only[Act.put,List.setIfInBounds_toArray,List.set_cons_zero,List.set_cons_succ,Sg.pick,Nat.reduceAdd]
    refine⟨fun W' K' Q0 hI hD hK=> ?_,?_⟩
    ·skip
     go_simp
     exact hK.out _ _ rfl rfl
    simp only[Act.put,List.setIfInBounds_toArray,List.set_cons_zero,List.set_cons_succ,Sg.pick,Nat.reduceAdd]
    refine⟨fun W' K' Q0 hI hD hK=> ?_,?_⟩
    ·skip
     go_simp
     exact hK.out _ _ rfl rfl
    simp only[Act.put,List.setIfInBounds_toArray,List.set_cons_zero,List.set_cons_succ,Sg.pick,Nat.reduceAdd]
    refine⟨fun W' K' Q0 hI hD hK=> ?_,?_⟩
    ·skip
     go_simp
     refine(l1BelowN_any p A cap cs L.length _ hI.out.cur (by omega) (by omega)).mono ?_;rintro e w' ⟨x,rfl,hx,c,t⟩;exact hK.out _ _ ⟨t,c⟩ ⟨x.toNat,by omega,by rw[Int.toNat_of_nonneg hx.1]⟩
    simp only[Act.put,List.setIfInBounds_toArray,List.set_cons_zero,List.set_cons_succ,Sg.pick,Nat.reduceAdd]
    refine⟨fun W' K' Q0 hI hD hK=> ?_,?_⟩
    ·obtain⟨k,hk,e4⟩:=(show ∃k:Nat,k<L.length∧vs 11= .int .i64 k from hD.out 11 (by kernel_rfl))
     have hkI:(k:Int)<(L.length:Int):=(by omega)
     rw[e4] at hK⊢
     go_simp
     exact hK.out _ _ rfl ⟨k,hk,rfl⟩
    simp only[Act.put,List.setIfInBounds_toArray,List.set_cons_zero,List.set_cons_succ,Sg.pick,Nat.reduceAdd]
    refine⟨fun W' K' Q0 hI hD hK=> ?_,?_⟩
    ·obtain⟨k,hk,e5⟩:=(show ∃k:Nat,k<L.length∧vs 12= .pointer (some ⟨lb,off+k,none⟩) from hD.out 12 (by kernel_rfl))
     rw[e5] at hK⊢
     obtain⟨_,_,A1,cap1,e1,_,hc,_⟩:=((O3.out.trP hI.out.tr HS2.out (Nat.le_refl _)).rd).at hk
     injection e1 with e1
     injection e1 with e1 e2
     subst e1
     subst e2
     have hcw:=(HCE.out _ hI.out.tr k).symm.trans hc
     go_simp
     exact hK.out _ _ rfl ⟨k,hk,hcw⟩
    simp only[Act.put,List.setIfInBounds_toArray,List.set_cons_zero,List.set_cons_succ,Sg.pick,Nat.reduceAdd]
    refine⟨fun W' K' Q0 hI hD hK=> ?_,?_⟩
    ·obtain⟨k,hk,e6⟩:=(show ∃k:Nat,k<L.length∧w3.cell? ⟨lb,off+k,none⟩=some (vs 6) from hD.out 6 (by kernel_rfl))
     obtain⟨k',hk',e13⟩:=(show ∃k:Nat,k<L.length∧w3.cell? ⟨lb,off+k,none⟩=some (vs 13) from hD.out 13 (by kernel_rfl))
     obtain⟨ra,la⟩:=HRE.out _ hI.out.tr k _ hk e6
     obtain⟨rb,lb'⟩:=HRE.out _ hI.out.tr k' _ hk' e13
     have HMU:=hDD (specMultiplyWords_any _ _ _ _ W' ra rb (by omega) (by omega))
     have HLE:=hDD (redL_len [] (L[k]++L[k']))
     obtain⟨Aa,ca,ea,_⟩:=ra.arg
     obtain⟨Ab,cb,eb,_⟩:=rb.arg
     rw[ea,eb] at HMU hK⊢
     go_simp
     refine HMU.out.mono ?_;rintro e w' ⟨r,rfl,o,b⟩;obtain⟨A',c',rfl,_⟩:=o.form;exact hK.out _ _ b ⟨_,A',c',rfl,o.mono hI.out.tr.size,by have:=HLE.out;simp only[List.length_append,List.length_nil] at this;omega⟩
    simp only[Act.put,List.setIfInBounds_toArray,List.set_cons_zero,List.set_cons_succ,Sg.pick,Nat.reduceAdd]
    refine⟨fun W' K' Q0 hI hD hK=> ?_,?_⟩
    ·obtain⟨xs,A',c',e14,_⟩:=(show ∃xs A' c',vs 14= .slice A' xs.length c'∧OwI W' w3.heap.size (vs 14) xs∧xs.length≤100 from hD.out 14 (by kernel_rfl))
     rw[e14] at hK⊢
     go_simp
     exact hK.out _ _ rfl ((mask_at (by kernel_rfl)).trans e14).symm
    simp only[Act.put,List.setIfInBounds_toArray,List.set_cons_zero,List.set_cons_succ,Sg.pick,Nat.reduceAdd]
    intro W9 hI9 hD9
    obtain⟨xs,A',c',e14,o14,hl14⟩:=(show ∃xs A' c',vs 14= .slice A' xs.length c'∧OwI W9 w3.heap.size (vs 14) xs∧xs.length≤100 from hD9.out 14 (by decide))
    have e15:=(show vs 15=maskV _ 15 vs 14 from hD9.out 15 (by decide))
    rw[mask_at (by kernel_rfl),e14] at e15
    rw[e14] at o14
    rw[e15]
    have I9:=hDD (I3.out.trans hI9.out)
    have O9:=hDD o14
    have hs3:=I3.out.tr.size
    clear hD9 hI9 o14 e14 e15
    go_wp2
    exact bodyPost_ret (v:= .slice A' xs.length c') (by simp[results,Tryz.results57,go_sem]) rfl ⟨_,xs,rfl,O9.out.mono hs3,hl14,I9.out.cur,I9.out.tr⟩
   ·have h1I: ¬(1:Int)<(L.length:Int):=by omega
    go_wp2_with fail
    refine(HL9.out w3 I3.out X3.out (max 1 (min g1 3)) (FIN.out g1).1 (FIN.out g1).2).mono ?_
    rintro e w9 ⟨v9,xs,rfl,o9,hl9,c9,t9⟩
    obtain⟨A9,m9,cp9,rfl⟩:=o9.any2
    have O9:=hDD o9
    have C9:=hDD c9
    have T9:=hDD t9
    clear o9 c9 t9
    go_wp2
    exact bodyPost_ret (v:= .slice A9 m9 cp9) (by simp[results,Tryz.results57,go_sem]) rfl ⟨_,xs,rfl,O9.out,hl9,C9.out,T9.out⟩
end Go.Proofs.YteobmaambgmdbaaGreat
namespace Go.Proofs.YteobmaambgmdbaaGreat
set_option maxRecDepth 20000
set_option linter.unusedVariables false
set_option linter.unusedSimpArgs false
open Go.RowKit
end Go.Proofs.YteobmaambgmdbaaGreat
namespace Go.Proofs.YteobmaambgmdbaaGreat
set_option maxRecDepth 20000
set_option linter.unusedVariables false
set_option linter.unusedSimpArgs false
open Go.RowKit
theorem rot_idx {i k n:Nat} (hn:0<n):((((i:Int)+(k:Int))%(n:Int)+(n:Int))%(n:Int))=(((k+i)%n:Nat):Int):=by
 rw[Int.add_emod_right,Int.emod_emod]
 rw[show(i:Int)+(k:Int)=((k+i:Nat):Int) by omega]
 rfl
set_option maxHeartbeats 1000000 in
theorem specRotateWord_any (v:Value) (xs:List Int) (k:Nat) (w:World) (h:RdI w v xs) (hk:k<xs.length) (hl:xs.length≤1073741824):
  Calls Tryz.prog 107 #[v, .int .i64 k] w fun e w'=> ∃r,e= .returned r∧OwI w' w.heap.size r (rotF xs k)∧Below w.heap.size w w':=by
 have H:=hDD h
 obtain⟨A,cap,rfl,hcap,hm,_⟩:=h.arg
 unfold maxLen at hm
 clear h
 have hrl:=rotF_len xs k
 have hn0:(0:Int)<(xs.length:Int):=by omega
 have hkI:(k:Int)<(xs.length:Int):=by omega
 go_enter Tryz.func107,Tryz.ntmps107
 go_wp2
 go_loopw [5,6] (fun out i wr=> ∃m:Nat,m≤xs.length∧i= .int .i64 m∧OwI wr w.heap.size out ((rotF xs k).take m)∧Below w.heap.size w wr)
  (fun _ i _=>xs.length-(intOf i).toNat)
 case atStart=>exact⟨0,Nat.zero_le _,rfl,OwI_lit _ [] I64s_nil (by simp) (Nat.le_refl _),(Below.refl _ _).alloc (Nat.le_refl _) _⟩
 case round=>
  obtain⟨m,hm',rfl,hown,hbel⟩:=hrel
  have hsz:=hbel.size
  have hal:((rotF xs k).take m).length≤m:=List.length_take_le _ _
  by_cases hlt:m<xs.length
  ·obtain⟨b,off,rfl,hbl,hc⟩:=(H.out.below hbel).at (by omega)
   have hix:(k+m)%xs.length<xs.length:=Nat.mod_lt _ (by omega)
   have hcell:=hc _ hix
   have hix2:=rot_idx (i:=m) (k:=k) (n:=xs.length) (by omega)
   have hkm:(k:Int)%(xs.length:Int)=(k:Int):=Int.emod_eq_of_lt (by omega) hkI
   have hq0:0≤((m:Int)+(k:Int))%(xs.length:Int):=Int.emod_nonneg _ (by omega)
   have hq1:((m:Int)+(k:Int))%(xs.length:Int)<(xs.length:Int):=Int.emod_lt_of_pos _ hn0
   have HX:=hDD (H.out.2 xs[(k+m)%xs.length] (by simp))
   have HS:Hid ((rotF xs k).take (m+1)=(rotF xs k).take m++ [xs[(k+m)%xs.length]]):=hDD (by
    have h1:m<(rotF xs k).length:=by rw[rotF_len];exact hlt
    rw[List.take_succ_eq_append_getElem h1]
    congr 2
    have h2:=rotF_getD xs k m (by omega) hlt
    simpa[List.getD,h1,hix] using h2)
   generalize (rotF xs k).take m=acc at hown HS hal
   have HO:=hDD hown
   obtain⟨A1,cap1,rfl,hcap1,hm1,_⟩:=hown.form
   clear hc hown
   generalize hxx:xs[(k+m)%xs.length]=x at hcell HX HS
   rw[Nat.add_comm k m] at hcell
   clear hxx hix2
   go_wp2_with (at_builtin;refine push_int rfl (.tmp 14) (.tmp 33) rfl _ _ _ (OwI.alloc HO.out _) rfl _ _ rfl (cell_new1 _ _ _) HX.out (by first | omega | (simp<;>omega)) (by first | omega | (simp<;>omega)) ?_;intro v1 wv1 o1 g1 p1)
   go_roundw
   case rel=>exact⟨m+1,by omega,by go_num,by rw[HS.out];exact o1,bel_push hbel hsz HO.out.1 (Nat.le_refl _) g1⟩
   case measure=>simp[intOf];omega
  ·obtain rfl:m=xs.length:=by omega
   rw[List.take_of_length_le (by rw[rotF_len];omega)] at hown
   go_wp2
   go_ret
   exact⟨_,rfl,hown,hbel⟩
end Go.Proofs.YteobmaambgmdbaaGreat
namespace Go.Proofs.YteobmaambgmdbaaGreat
set_option maxRecDepth 20000
set_option linter.unusedVariables false
set_option linter.unusedSimpArgs false
open Go.RowKit
set_option maxHeartbeats 1000000 in
theorem specEqualWords_any (v u:Value) (xs ys:List Int) (w:World) (h:ArgI w v xs) (h':ArgI w u ys):
  Calls Tryz.prog 106 #[v,u] w fun e w'=>e= .returned (.bool (decide (xs=ys)))∧ ∃n,w'=w.drewN n:=by
 obtain⟨A,cap,rfl,hcap,hm,hr,hb⟩:=h
 obtain⟨A',cap',rfl,hcap',hm',hr',hb'⟩:=h'
 unfold maxLen at hm hm'
 by_cases hne:xs.length=ys.length
 ·have hd:((xs.length:Int) != (ys.length:Int))=false:=by simp[hne]
  have HNE:=hDD hne
  clear hne
  go_enter Tryz.func106,Tryz.ntmps106
  go_wp2
  go_loopw [5] (fun i wr=> ∃k:Nat,k≤xs.length∧i= .int .i64 k∧xs.take k=ys.take k∧ ∃n,wr=w.drewN n) (fun i _=>xs.length-(intOf i).toNat)
  case atStart=>exact⟨0,Nat.zero_le _,rfl,by simp,0,rfl⟩
  case round=>
   obtain⟨k,hk,rfl,heq,n,rfl⟩:=hrel
   have HEQ:=hDD heq
   clear heq
   by_cases hlt:k<xs.length
   ·obtain⟨b,off,rfl,hc⟩:=hb (by omega)
    have hlt':k<ys.length:=by have:=HNE.out;omega
    obtain⟨b',off',rfl,hc'⟩:=hb' (by omega)
    have hcell:=hc k hlt
    have hcell':=hc' k hlt'
    clear hc hc' hb hb'
    by_cases hx:xs[k]=ys[k]
    ·have hx1:(xs[k] != ys[k])=false:=by simp[hx]
     have HX:=hDD hx
     clear hx
     go_wp2
     go_quiet (fail)
     go_wp2
     go_roundw
     case rel=>exact⟨k+1,by omega,by go_num,take_eq_succ HEQ.out hlt hlt' HX.out,_,rfl⟩
     case measure=>simp[intOf];omega
    ·have hx1:(xs[k] != ys[k])=true:=by simp[hx]
     go_wp2
     go_quiet (fail)
     go_wp2
     go_ret
     exact⟨ret_bool (by symm;rw[decide_eq_false_iff_not];rintro rfl;exact hx rfl),_,World.drewN_drewN _ _ _⟩
   ·obtain rfl:k=xs.length:=by omega
    go_wp2
    go_ret
    refine⟨ret_bool ?_,n,rfl⟩
    have h1:=HEQ.out
    rw[List.take_length,HNE.out,List.take_length] at h1
    simp[h1]
 ·have hd:((xs.length:Int) != (ys.length:Int))=true:=by simp;omega
  go_enter Tryz.func106,Tryz.ntmps106
  go_wp2
  go_ret
  exact⟨ret_bool (by symm;rw[decide_eq_false_iff_not];rintro rfl;exact hne rfl),0,rfl⟩
end Go.Proofs.YteobmaambgmdbaaGreat
namespace Go.Proofs.YteobmaambgmdbaaGreat
set_option maxRecDepth 20000
set_option linter.unusedVariables false
set_option linter.unusedSimpArgs false
open Go.RowKit
def repW (w:List Int):Nat→List Int
 | 0=> []
 | k+1=>repW w k++w
def itS (es:List EdD) (w:List Int):Nat→Int×List Int→Int×List Int
 | 0,s=>s
 | k+1,s=>runS es (itS es w k s) w
theorem repW_add (w:List Int) (a:Nat): ∀b,repW w (a+b)=repW w a++repW w b
 | 0=>by simp[repW]
 | b+1=>by rw[←Nat.add_assoc];show repW w (a+b)++w=_++(repW w b++w);rw[repW_add w a b,List.append_assoc]
theorem repW_mem {w:List Int} {x:Int}: ∀ {k:Nat},x∈repW w k→x∈w
 | k+1,h=>by
   rcases List.mem_append.1 h with h | h
   ·exact repW_mem h
   ·exact h
theorem repW_len (w:List Int): ∀k,(repW w k).length=k*w.length
 | 0=>by simp[repW]
 | k+1=>by show(repW w k++w).length=_;rw[List.length_append,repW_len w k,Nat.succ_mul]
theorem rep_run (es:List EdD) (w:List Int) (s:Int×List Int): ∀k,runS es s (repW w k)=itS es w k s
 | 0=>rfl
 | k+1=>by show runS es s (repW w k++w)=_;rw[runS_app,rep_run es w s k];rfl
theorem it_add (es:List EdD) (w:List Int) (s:Int×List Int) (a:Nat): ∀b,itS es w (a+b) s=itS es w b (itS es w a s)
 | 0=>rfl
 | b+1=>by show runS es (itS es w (a+b) s) w=runS es (itS es w b (itS es w a s)) w;rw[it_add es w s a b]
theorem it_fix {es:List EdD} {w:List Int} {s:Int×List Int} {n:Nat} (h:itS es w n s=s): ∀q,itS es w (n*q) s=s
 | 0=>rfl
 | q+1=>by rw[Nat.mul_succ,it_add,it_fix h q,h]
section
variable {g:GrD} (hg:grB g=true) (hf:Fol g.2.2) {w:List Int} (hw: ∀y∈w,Lt3 y) {s:Int×List Int} (hs:okS g s)
include hg hw
omit hs in
theorem it_ok: ∀ {k:Nat} {s:Int×List Int},okS g s→okS g (itS g.2.2 w k s)
 | 0,_,h=>h
 | k+1,_,h=>run_ok hg (it_ok (k:=k) h) hw
include hf
omit hs in
theorem run_inj {s t:Int×List Int} (h:okS g s) (h':okS g t) (e:runS g.2.2 s w=runS g.2.2 t w):s=t:=by
 rw[←run_inv hg hf h hw,←run_inv hg hf h' hw,e]
omit hs in
theorem it_inj: ∀ {k:Nat} {s t:Int×List Int},okS g s→okS g t→itS g.2.2 w k s=itS g.2.2 w k t→s=t
 | 0,_,_,_,_,e=>e
 | k+1,_,_,h,h',e=>it_inj (k:=k) h h' (run_inj hg hf hw (it_ok hg hw h) (it_ok hg hw h') e)
include hs
theorem it_cancel {a b:Nat} (e:itS g.2.2 w (a+b) s=itS g.2.2 w a s):itS g.2.2 w b s=s:=by
 rw[Nat.add_comm,it_add] at e
 exact it_inj hg hf hw (it_ok hg hw hs) hs e
omit hg hf hw hs in
theorem it_least {n k:Nat} (h0:0<n) (h1:itS g.2.2 w n s=s) (h2: ∀j,1≤j→j<n→itS g.2.2 w j s≠s):itS g.2.2 w k s=s↔k%n=0:=by
 have e:itS g.2.2 w k s=itS g.2.2 w (k%n) s:=by
  conv=>lhs;rw[←Nat.div_add_mod k n]
  rw[it_add,it_fix h1]
 rw[e]
 have hlt:=Nat.mod_lt k h0
 constructor
 ·intro q
  rcases Nat.eq_zero_or_pos (k%n) with z | z
  ·exact z
  ·exact absurd q (h2 _ z hlt)
 ·intro q
  rw[q];rfl
omit hw hs in
theorem inv_run {p:List Int} {s:Int×List Int} (h:okS g s) (hp: ∀y∈p,Lt3 y):runS g.2.2 (runS g.2.2 s (invN p)) p=s:=by
 have hi: ∀y∈invN p,Lt3 y:=fun y hy=>by have:=(hp _ (invN_mem hy)).neg;rwa [Int.neg_neg] at this
 have:=run_inv hg hf h hi
 rwa [invN_inv] at this
end
section
variable {g:GrD} (hg:grB g=true) (hf:Fol g.2.2)
include hg hf
theorem it_conj {p c:List Int} (hp: ∀y∈p,Lt3 y) (hc: ∀y∈c,Lt3 y) {s:Int×List Int} (hs:okS g s): ∀k,itS g.2.2 (p++c++invN p) k s=runS g.2.2 (itS g.2.2 c k (runS g.2.2 s p)) (invN p)
 | 0=>(run_inv hg hf hs hp).symm
 | k+1=>by
   show runS g.2.2 (itS g.2.2 (p++c++invN p) k s) (p++c++invN p)=runS g.2.2 (runS g.2.2 (itS g.2.2 c k (runS g.2.2 s p)) c) (invN p)
   rw[it_conj hp hc hs k,runS_app,runS_app,inv_run hg hf (it_ok hg hc (run_ok hg hs hp)) hp]
theorem it_conj_fix {p c:List Int} (hp: ∀y∈p,Lt3 y) (hc: ∀y∈c,Lt3 y) {s:Int×List Int} (hs:okS g s) (k:Nat):itS g.2.2 (p++c++invN p) k s=s↔itS g.2.2 c k (runS g.2.2 s p)=runS g.2.2 s p:=by
 rw[it_conj hg hf hp hc hs k]
 constructor
 ·intro e
  have q:runS g.2.2 (runS g.2.2 (itS g.2.2 c k (runS g.2.2 s p)) (invN p)) p=runS g.2.2 s p:=by rw[e]
  rwa [inv_run hg hf (it_ok hg hc (run_ok hg hs hp)) hp] at q
 ·intro e
  rw[e,run_inv hg hf hs hp]
end
theorem strip_inv {c:List Int}: ∀(n f:Nat),(∀i,i<f→invB (c.getD i 0) (c.getD (c.length-1-i) 0)=true)→ ∀i,i<stripGo c n f→invB (c.getD i 0) (c.getD (c.length-1-i) 0)=true
 | 0,_,h=>h
 | n+1,f,h=>by
   rw[strip_step]
   split
   ·rename_i q
    refine strip_inv n (f+1) fun i hi=> ?_
    rcases Nat.lt_or_ge i f with z | z
    ·exact h i z
    ·have:i=f:=by omega
     subst this
     exact q.2
   ·exact h
theorem invN_getD (l:List Int) (j:Nat) (h:j<l.length):(invN l).getD j 0= -(l.getD (l.length-1-j) 0):=by
 unfold invN
 have h1:j<((l.map fun x=> -x).reverse).length:=by simpa using h
 rw[List.getD_eq_getElem?_getD,List.getElem?_eq_getElem h1,List.getD_eq_getElem?_getD,List.getElem?_eq_getElem (by omega)]
 simp
theorem core_split {x:List Int} (h: ∀y∈x,Lt3 y):x=x.take (stripN x)++coreC x++invN (x.take (stripN x)):=by
 have hle:=stripN_le x
 have hin:=strip_inv (c:=x) x.length 0 (fun i hi=>by omega)
 refine list_ext_getD ?_ fun i hi=> ?_
 ·simp only[List.length_append,coreC_len]
  simp[invN]
  omega
 ·have l1:(x.take (stripN x)).length=stripN x:=by simp;omega
  have l2:=coreC_len x
  rcases Nat.lt_or_ge i (stripN x) with q | q
  ·rw[List.append_assoc,getD_app_l _ _ _ (by omega)]
   simp[q]
  ·rcases Nat.lt_or_ge i (x.length-stripN x) with q2 | q2
   ·rw[getD_app_l _ _ _ (by rw[List.length_append];omega),getD_app_r _ _ _ (by omega),coreC_getD _ _ (by omega),l1]
    congr 1;omega
   ·rw[getD_app_r _ _ _ (by rw[List.length_append];omega),List.length_append,l1,l2]
    have hj:x.length-1-i<stripN x:=by omega
    have hx:=hin (x.length-1-i) hj
    rw[show x.length-1-(x.length-1-i)=i by omega] at hx
    have h3:Lt3 (x.getD (x.length-1-i) 0):=h _ (by rw[List.getD_eq_getElem?_getD,List.getElem?_eq_getElem (by omega)];simp)
    rw[Lt3.inv h3] at hx
    rw[hx]
    rw[invN_getD _ _ (by omega),l1,show stripN x-1-(i-(stripN x+(x.length-2*stripN x)))=x.length-1-i by omega]
    congr 1
    rw[List.getD_eq_getElem?_getD,List.getD_eq_getElem?_getD,List.getElem?_take_of_lt (by omega)]
section
variable {es:List EdD} {c:List Int} {v:Int}
theorem walk_app_neg: ∀ {a:List Int} {v:Int} (b:List Int),walkF es v a<0→0≤v→walkF es v (a++b)<0:=fun {a v} b h hv=>by
 rcases Int.lt_or_le (walkF es v (a++b)) 0 with q | q
 ·exact q
 ·have:=walkF_pre es a v b hv q;omega
theorem powGo_spec (hv:0≤v): ∀(f:Nat) (u:Int) (k:Nat),1≤k→0≤u→u=walkF es v (repW c (k-1))→
  (powGo es c v f u k=0∧ ∀j,k≤j→j<k+f→walkF es v (repW c j)≠v)∨
  (∃n:Nat,k≤n∧n<k+f∧powGo es c v f u k=n∧walkF es v (repW c n)=v∧ ∀j,k≤j→j<n→walkF es v (repW c j)≠v)
 | 0,u,k,_,_,_=> .inl ⟨rfl,fun j h1 h2=>by omega⟩
 | f+1,u,k,hk,hu,he=>by
   have hst:0≤walkF es u c→walkF es v (repW c k)=walkF es u c:=fun _=>by
    obtain⟨m,rfl⟩: ∃m,k=m+1:=⟨k-1,by omega⟩
    rw[Nat.add_sub_cancel] at he
    show walkF es v (repW c m++c)=_
    rw[walkF_app es _ _ _ (by omega),←he]
   unfold powGo
   by_cases h1:walkF es u c<0
   ·rw[if_pos h1]
    refine .inl ⟨rfl,fun j hj _ e=> ?_⟩
    obtain⟨m,rfl⟩: ∃m,k=m+1:=⟨k-1,by omega⟩
    rw[Nat.add_sub_cancel] at he
    have hneg:walkF es v (repW c (m+1))<0:=by
     show walkF es v (repW c m++c)<0
     rw[walkF_app es _ _ _ (by omega),←he];exact h1
    obtain⟨d,rfl⟩: ∃d,j=m+1+d:=⟨j-(m+1),by omega⟩
    rw[repW_add] at e
    have:=walk_app_neg (repW c d) hneg hv
    omega
   ·rw[if_neg h1]
    by_cases h2:walkF es u c=v
    ·rw[if_pos h2]
     exact .inr ⟨k,Nat.le_refl _,by omega,rfl,by rw[hst (by omega),h2],fun j _ _=>by omega⟩
    ·rw[if_neg h2]
     have hne:walkF es v (repW c k)≠v:=by rw[hst (by omega)];exact h2
     have:=powGo_spec hv f (walkF es u c) (k+1) (by omega) (by omega) (by rw[Nat.add_sub_cancel];exact(hst (by omega)).symm)
     have ec:((k+1:Nat):Int)=(k:Int)+1:=by omega
     rw[ec] at this
     rcases this with ⟨e,hj⟩ | ⟨n,h3,h4,h5,h6,h7⟩
     ·refine .inl ⟨e,fun j hj1 hj2=> ?_⟩
      rcases Nat.lt_or_ge k j with q | q
      ·exact hj j q (by omega)
      ·have:j=k:=by omega
       subst this;exact hne
     ·refine .inr ⟨n,by omega,by omega,h5,h6,fun j hj1 hj2=> ?_⟩
      rcases Nat.lt_or_ge k j with q | q
      ·exact h7 j q hj2
      ·have:j=k:=by omega
       subst this;exact hne
end
end Go.Proofs.YteobmaambgmdbaaGreat
namespace Go.Proofs.YteobmaambgmdbaaGreat
set_option maxRecDepth 20000
set_option linter.unusedVariables false
set_option linter.unusedSimpArgs false
open Go.RowKit
theorem rep_le {xs:List Int} {k m:Nat} (hl:xs.length≤24) (hm:m≤k) (hk:k≤24):(repW xs m).length≤576:=by
 rw[repW_len]
 exact Nat.le_trans (Nat.mul_le_mul (Nat.le_trans hm hk) hl) (by decide)
set_option maxHeartbeats 1000000 in
theorem specPowerWord_any (v:Value) (xs:List Int) (k:Nat) (w:World) (h:RdI w v xs) (hl:xs.length≤24) (hk:k≤24):
  Calls Tryz.prog 13 #[v, .int .i64 k] w fun e w'=> ∃r,e= .returned r∧OwI w' w.heap.size r (redL [] (repW xs k))∧Below w.heap.size w w':=by
 have H:=hDD h
 clear h
 have hk0: ¬(k:Int)<0:=by omega
 go_enter Tryz.func13,Tryz.ntmps13
 go_wp2
 go_loopw [5,6] (fun out i wr=> ∃m:Nat,m≤k∧i= .int .i64 m∧OwI wr w.heap.size out (repW xs m)∧Below w.heap.size w wr) (fun _ i _=>k-(intOf i).toNat)
 case atStart=>exact⟨0,Nat.zero_le _,rfl,OwI_lit _ [] I64s_nil (by simp) (Nat.le_refl _),(Below.refl _ _).alloc (Nat.le_refl _) _⟩
 case round=>
  obtain⟨m,hm',rfl,hown,hbel⟩:=hrel
  have hsz:=hbel.size
  have hal:=rep_le hl hm' hk
  have HO:=hDD hown
  have HB:=hDD hbel
  clear hown hbel
  by_cases hlt:m<k
  ·have hmk:(m:Int)<(k:Int):=by omega
   have hm24: ¬(24:Int)≤(m:Int):=by omega
   have HS:Hid (repW xs (m+1)=repW xs m++xs):=hDD rfl
   generalize repW xs m=acc at*
   go_wp2_with (at_builtin;refine append_ints rfl (.tmp 26) (.tmp 27) rfl w.heap.size _ _ HO.out rfl _ _ (H.out.below HB.out) rfl (by omega) hsz ?_;intro v1 w1 o1 g1 p1;have O1:=hDD o1;have B1:=hDD (HB.out.grown g1 hsz (fun c hc=>(HO.out.1.lt c hc).1));clear o1 g1 p1)
   go_roundw
   case rel=>exact⟨m+1,by omega,by go_num,by rw[HS.out];exact O1.out,B1.out⟩
   case measure=>simp[intOf];omega
  ·obtain rfl:m=k:=by omega
   have hwn:IntKind.i64.wrap (-(m:Int))= -(m:Int):=by rw[IntKind.wrap_i64];omega
   have hmn: ¬(m:Int)< -(m:Int):=by omega
   have hmm: ¬(m:Int)<(m:Int):=by omega
   obtain⟨A1,m1,c1,rfl⟩:=HO.out.any2
   go_wp2_with (go_at_call 35;(with_reducible refine(specReduceLetters_any _ (repW xs m) _ HO.out.rd (by omega)).mono ?_);rintro e w5 ⟨r5,rfl,o5,b5⟩;have O5:=hDD o5;have B5:=hDD b5;obtain⟨A5,m5,c5,rfl⟩:=o5.any2;clear o5 b5)
   exact bodyPost_ret (v:= .slice A5 m5 c5) (by simp[results,Tryz.results13,go_sem]) rfl ⟨_,rfl,O5.out.mono hsz,HB.out.trans (B5.out.mono hsz)⟩
set_option maxHeartbeats 1000000 in
theorem specRotateAll_any (v:Value) (xs:List Int) (w:World) (h:RdI w v xs) (h0:0<xs.length) (hl:xs.length≤1073741824):
  Calls Tryz.prog 107 #[v, .int .i64 xs.length] w fun e w'=> ∃r,e= .returned r∧OwI w' w.heap.size r xs∧Below w.heap.size w w':=by
 have H:=hDD h
 obtain⟨A,cap,rfl,hcap,hm,_⟩:=h.arg
 unfold maxLen at hm
 clear h
 have hn0:(0:Int)<(xs.length:Int):=by omega
 have hkm:(xs.length:Int)%(xs.length:Int)=0:=Int.emod_self
 go_enter Tryz.func107,Tryz.ntmps107
 go_wp2
 go_loopw [5,6] (fun out i wr=> ∃m:Nat,m≤xs.length∧i= .int .i64 m∧OwI wr w.heap.size out (xs.take m)∧Below w.heap.size w wr)
  (fun _ i _=>xs.length-(intOf i).toNat)
 case atStart=>exact⟨0,Nat.zero_le _,rfl,OwI_lit _ [] I64s_nil (by simp) (Nat.le_refl _),(Below.refl _ _).alloc (Nat.le_refl _) _⟩
 case round=>
  obtain⟨m,hm',rfl,hown,hbel⟩:=hrel
  have hsz:=hbel.size
  have hal:(xs.take m).length≤m:=List.length_take_le _ _
  by_cases hlt:m<xs.length
  ·obtain⟨b,off,rfl,hbl,hc⟩:=(H.out.below hbel).at (by omega)
   have hcell:=hc _ hlt
   have hmI:(m:Int)<(xs.length:Int):=by omega
   have hm1:(m:Int)%(xs.length:Int)=(m:Int):=Int.emod_eq_of_lt (by omega) hmI
   have hm2:((m:Int)+(xs.length:Int))%(xs.length:Int)=(m:Int):=by rw[Int.add_emod_right];exact hm1
   have HX:=hDD (H.out.2 xs[m] (by simp))
   have HS:Hid (xs.take (m+1)=xs.take m++ [xs[m]]):=hDD (List.take_succ_eq_append_getElem hlt)
   generalize xs.take m=acc at hown HS hal
   have HO:=hDD hown
   obtain⟨A1,cap1,rfl,hcap1,hm1',_⟩:=hown.form
   clear hc hown
   generalize hxx:xs[m]=x at hcell HX HS
   clear hxx
   go_wp2_with (at_builtin;refine push_int rfl (.tmp 14) (.tmp 33) rfl _ _ _ (OwI.alloc HO.out _) rfl _ _ rfl (cell_new1 _ _ _) HX.out (by first | omega | (simp<;>omega)) (by first | omega | (simp<;>omega)) ?_;intro v1 wv1 o1 g1 p1)
   go_roundw
   case rel=>exact⟨m+1,by omega,by go_num,by rw[HS.out];exact o1,bel_push hbel hsz HO.out.1 (Nat.le_refl _) g1⟩
   case measure=>simp[intOf];omega
  ·obtain rfl:m=xs.length:=by omega
   rw[List.take_length] at hown
   go_wp2
   go_ret
   exact⟨_,rfl,hown,hbel⟩
theorem specRotLen_any (v:Value) (xs:List Int) (k:Nat) (w:World) (h:RdI w v xs) (hk0:0<k) (hk:k≤xs.length) (hl:xs.length≤1073741824):
  Calls Tryz.prog 107 #[v, .int .i64 k] w fun e w'=> ∃r ys,e= .returned r∧OwI w' w.heap.size r ys∧ys.length=xs.length∧Below w.heap.size w w':=by
 rcases Nat.lt_or_ge k xs.length with q | q
 ·exact(specRotateWord_any v xs k w h q hl).mono fun e w' ⟨r,h1,h2,h3⟩=>⟨r,_,h1,h2,rotF_len xs k,h3⟩
 ·obtain rfl:k=xs.length:=by omega
  exact(specRotateAll_any v xs w h hk0 hl).mono fun e w' ⟨r,h1,h2,h3⟩=>⟨r,_,h1,h2,rfl,h3⟩
set_option maxRecDepth 100000 in
set_option maxHeartbeats 4000000 in
theorem specRootOf_any (v:Value) (xs:List Int) (w:World) (h:RdI w v xs) (hl:xs.length≤1000):
  Calls Tryz.prog 59 #[v] w fun e w'=> ∃(r:Value) (k:Int) (ys:List Int),e= .returned (.tuple #[r, .int .i64 k])∧OwI w' w.heap.size r ys∧ys.length≤3000∧Below w.heap.size w w':=by
 have H:=hDD h
 clear h
 go_enter Tryz.func59,Tryz.ntmps59
 go_wp2_with fail
 refine(specCyclicCore_any _ xs w H.out (by omega)).mono ?_
 rintro e w1 ⟨cv,pv,rfl,oc,rp,b1⟩
 have hcl:=coreF_len xs
 have hpl:(prefF xs).length≤1000:=by
  have h1:=redL_len [] xs
  unfold prefF
  rw[List.length_take]
  simp only[List.length_nil] at h1
  omega
 have OC:=hDD oc
 have RP:=hDD rp
 have B1:=hDD b1
 obtain⟨Ac,cc,rfl,hcc,hmc,_⟩:=oc.form
 obtain⟨Ap,cp,rfl,_⟩:=rp.arg
 clear oc rp b1
 generalize coreF xs=c at*
 generalize prefF xs=p at*
 go_wp2
 go_loopw [6] (fun nv wr=> ∃k:Nat,1≤k∧k≤c.length+1∧nv= .int .i64 k∧Below w1.heap.size w1 wr) (fun nv _=>c.length+1-(intOf nv).toNat)
 case atStart=>exact⟨1,by omega,by omega,rfl,Below.refl _ _⟩
 case round=>
  obtain⟨k,hk1,hk2,rfl,hb⟩:=hrel
  have HB:=hDD hb
  have hsr:=hb.size
  clear hb
  by_cases hlt:k≤c.length
  ·have hkI:(k:Int)≤(c.length:Int):=by omega
   have hk0: ¬(k:Int)=0:=by omega
   have hkn: ¬k=0:=by omega
   have NEXT:k+1≤c.length+1:=by omega
   rcases e1:((c.length:Int)%(k:Int)==0) with _ | _
   ·have e1': ¬(c.length:Int)%(k:Int)=0:=by simpa using e1
    clear e1
    go_wp2
    go_roundw
    case rel=>exact⟨k+1,by omega,by omega,by go_num,HB.out⟩
    case measure=>(simp[intOf];omega)
   ·have e1':(c.length:Int)%(k:Int)=0:=by simpa using e1
    clear e1
    have HRO:=hDD (specRotLen_any _ c k wr (OC.out.below HB.out).rd (by omega) hlt (by omega))
    go_wp2_with fail
    refine HRO.out.mono ?_
    rintro e w2 ⟨r2,ys,rfl,o2,hy2,b2⟩
    have O2:=hDD o2
    have B2:=hDD (HB.out.trans (b2.mono hsr))
    obtain⟨A2,m2,c2,rfl⟩:=o2.any2
    have HEQ:=hDD (specEqualWords_any _ _ ys c w2 o2.arg (OC.out.below B2.out).arg)
    clear o2 b2 HRO hy2
    go_wp2_with fail
    refine HEQ.out.mono ?_
    rintro e w3 ⟨rfl,nd,rfl⟩
    obtain⟨w3,hw3⟩: ∃W,W=w2.drewN nd:=⟨_,rfl⟩
    rw[←hw3]
    have B3:Hid (Below w1.heap.size w1 w3):=hDD (by rw[hw3];exact bel_drewN B2.out _)
    clear hw3 HEQ
    generalize decide (ys=c)=o at*
    rcases o with _ | _
    ·go_wp2
     go_roundw
     case rel=>exact⟨k+1,by omega,by omega,by go_num,B3.out⟩
     case measure=>(simp[intOf];omega)
    ·have hkc:(k:Int)≤(cc:Int):=by omega
     have hkp:(0:Int)≤(k:Int):=by omega
     have HP:=hDD (RP.out.below B3.out)
     have HC:=hDD ((OC.out.below B3.out).rd.head (k:=k) rfl hlt)
     have hck:(c.take k).length≤1000:=by rw[List.length_take];omega
     generalize c.take k=ck at*
     go_wp2_with fail
     refine wp_region_gen [.val (.slice Ap p.length cp), .val (.slice Ac c.length cc), .val (.int .i64 k), .val (.slice Ac k cc),
       .mem (fun _ W v=> ∃ys A' c',v= .slice A' ys.length c'∧RdI W v ys∧ys.length≤2000),
       .val (.slice Ap p.length cp), .mem (fun _ W v=> ∃ys A' c',v= .slice A' ys.length c'∧RdI W v ys∧ys.length≤1000),
       .mem (fun _ W v=> ∃ys A' c',v= .slice A' ys.length c'∧OwI W w3.heap.size v ys∧ys.length≤3000),
       .val (.slice Ac c.length cc), .val (.int .i64 c.length), .val (.int .i64 k), .pur (fun _ v=> ∃y:Int,v= .int .i64 y), .pur (fun us v=>v=us 7), .pur (fun us v=>v=us 11)]
      [none,none,none,none,some (fun W W'=>Below W.heap.size W W'),none,some (fun W W'=>Below W.heap.size W W'),some (fun W W'=>Below W.heap.size W W'),none,none,none,none,none,none]
      (fun W=>Below w3.heap.size w3 W) [(4,6),(4,7),(6,7)] (by kernel_rfl) (by kernel_rfl) (by rfl) (by rfl)
      (Below.refl _ _).drew
      ⟨fun _ _ h t=>h.trans (t.mono h.size),fun _ _ h t=>h.trans (t.mono h.size),fun _ _ h t=>h.trans (t.mono h.size),trivial⟩
      ⟨fun _ _ _ _ _ _ t h=>by obtain⟨ys,A',c',e,r,hl⟩:=h;exact⟨ys,A',c',e,r.below t,hl⟩,fun _ _ _ _ _ _ t h=>by obtain⟨ys,A',c',e,r,hl⟩:=h;exact⟨ys,A',c',e,r.below t,hl⟩,fun _ _ _ _ _ _ t h=>by obtain⟨ys,A',c',e,r,hl⟩:=h;exact⟨ys,A',c',e,r.below t,hl⟩,trivial⟩ (fun vs=> ?_)
     refine⟨fun W' K' Q0 hI hD hK=> ?_,?_⟩
     ·skip
      go_simp
      exact hK.out _ _ rfl rfl
     simp only[Act.put,List.setIfInBounds_toArray,List.set_cons_zero,List.set_cons_succ,Sg.pick,Nat.reduceAdd]
     refine⟨fun W' K' Q0 hI hD hK=> ?_,?_⟩
     ·skip
      go_simp
      exact hK.out _ _ rfl rfl
     simp only[Act.put,List.setIfInBounds_toArray,List.set_cons_zero,List.set_cons_succ,Sg.pick,Nat.reduceAdd]
     refine⟨fun W' K' Q0 hI hD hK=> ?_,?_⟩
     ·skip
      go_simp
      exact hK.out _ _ rfl rfl
     simp only[Act.put,List.setIfInBounds_toArray,List.set_cons_zero,List.set_cons_succ,Sg.pick,Nat.reduceAdd]
     refine⟨fun W' K' Q0 hI hD hK=> ?_,?_⟩
     ·skip
      go_simp
      exact hK.out _ _ rfl rfl
     simp only[Act.put,List.setIfInBounds_toArray,List.set_cons_zero,List.set_cons_succ,Sg.pick,Nat.reduceAdd]
     refine⟨fun W' K' Q0 hI hD hK=> ?_,?_⟩
     ·skip
      go_simp
      refine(specMultiplyWords_any _ _ p ck _ (HP.out.below hI.out) (HC.out.below hI.out) (by omega) (by omega)).mono ?_;rintro e w' ⟨r,rfl,o,b⟩;have hle:=redL_len [] (p++ck);obtain⟨A',c',rfl,_⟩:=o.form;exact hK.out _ _ b ⟨_,A',c',rfl,o.rd,by simp only[List.length_append,List.length_nil] at hle;omega⟩
     simp only[Act.put,List.setIfInBounds_toArray,List.set_cons_zero,List.set_cons_succ,Sg.pick,Nat.reduceAdd]
     refine⟨fun W' K' Q0 hI hD hK=> ?_,?_⟩
     ·skip
      go_simp
      exact hK.out _ _ rfl rfl
     simp only[Act.put,List.setIfInBounds_toArray,List.set_cons_zero,List.set_cons_succ,Sg.pick,Nat.reduceAdd]
     refine⟨fun W' K' Q0 hI hD hK=> ?_,?_⟩
     ·skip
      go_simp
      refine(specInvertWord_any _ p _ (HP.out.below hI.out) (by omega)).mono ?_;rintro e w' ⟨r,rfl,o,b⟩;obtain⟨A',c',rfl,_⟩:=o.form;exact hK.out _ _ b ⟨_,A',c',rfl,o.rd,by simp[invL,negL];omega⟩
     simp only[Act.put,List.setIfInBounds_toArray,List.set_cons_zero,List.set_cons_succ,Sg.pick,Nat.reduceAdd]
     refine⟨fun W' K' Q0 hI hD hK=> ?_,?_⟩
     ·obtain⟨y4,A4,c4,e4,r4,l4⟩:=(show ∃ys A' c',vs 4= .slice A' ys.length c'∧RdI W' (vs 4) ys∧ys.length≤2000 from hD.out 4 (by kernel_rfl))
      obtain⟨y6,A6,c6,e6,r6,l6⟩:=(show ∃ys A' c',vs 6= .slice A' ys.length c'∧RdI W' (vs 6) ys∧ys.length≤1000 from hD.out 6 (by kernel_rfl))
      rw[e4] at r4
      rw[e6] at r6
      rw[e4,e6] at hK⊢
      have HM7:=hDD (specMultiplyWords_any _ _ y4 y6 _ r4 r6 (by omega) (by omega))
      go_simp
      refine HM7.out.mono ?_;rintro e w' ⟨r,rfl,o,b⟩;have hle:=redL_len [] (y4++y6);obtain⟨A',c',rfl,_⟩:=o.form;exact hK.out _ _ b ⟨_,A',c',rfl,o.mono hI.out.size,by simp only[List.length_append,List.length_nil] at hle;omega⟩
     simp only[Act.put,List.setIfInBounds_toArray,List.set_cons_zero,List.set_cons_succ,Sg.pick,Nat.reduceAdd]
     refine⟨fun W' K' Q0 hI hD hK=> ?_,?_⟩
     ·skip
      go_simp
      exact hK.out _ _ rfl rfl
     simp only[Act.put,List.setIfInBounds_toArray,List.set_cons_zero,List.set_cons_succ,Sg.pick,Nat.reduceAdd]
     refine⟨fun W' K' Q0 hI hD hK=> ?_,?_⟩
     ·skip
      go_simp
      exact hK.out _ _ rfl rfl
     simp only[Act.put,List.setIfInBounds_toArray,List.set_cons_zero,List.set_cons_succ,Sg.pick,Nat.reduceAdd]
     refine⟨fun W' K' Q0 hI hD hK=> ?_,?_⟩
     ·skip
      go_simp
      exact hK.out _ _ rfl rfl
     simp only[Act.put,List.setIfInBounds_toArray,List.set_cons_zero,List.set_cons_succ,Sg.pick,Nat.reduceAdd]
     refine⟨fun W' K' Q0 hI hD hK=> ?_,?_⟩
     ·skip
      go_simp
      exact hK.out _ _ rfl ⟨_,rfl⟩
     simp only[Act.put,List.setIfInBounds_toArray,List.set_cons_zero,List.set_cons_succ,Sg.pick,Nat.reduceAdd]
     refine⟨fun W' K' Q0 hI hD hK=> ?_,?_⟩
     ·obtain⟨y7,A7,c7,e7,_⟩:=(show ∃ys A' c',vs 7= .slice A' ys.length c'∧OwI W' w3.heap.size (vs 7) ys∧ys.length≤3000 from hD.out 7 (by kernel_rfl))
      rw[e7] at hK⊢
      go_simp
      exact hK.out _ _ rfl ((mask_at (by kernel_rfl)).trans e7).symm
     simp only[Act.put,List.setIfInBounds_toArray,List.set_cons_zero,List.set_cons_succ,Sg.pick,Nat.reduceAdd]
     refine⟨fun W' K' Q0 hI hD hK=> ?_,?_⟩
     ·obtain⟨y,e11⟩:=(show ∃y:Int,vs 11= .int .i64 y from hD.out 11 (by kernel_rfl))
      rw[e11] at hK⊢
      go_simp
      exact hK.out _ _ rfl ((mask_at (by kernel_rfl)).trans e11).symm
     simp only[Act.put,List.setIfInBounds_toArray,List.set_cons_zero,List.set_cons_succ,Sg.pick,Nat.reduceAdd]
     intro W9 hI9 hD9
     obtain⟨y7,A7,c7,e7,o7,l7⟩:=(show ∃ys A' c',vs 7= .slice A' ys.length c'∧OwI W9 w3.heap.size (vs 7) ys∧ys.length≤3000 from hD9.out 7 (by decide))
     obtain⟨y,e11⟩:=(show ∃y:Int,vs 11= .int .i64 y from hD9.out 11 (by decide))
     have e12:=(show vs 12=maskV _ 12 vs 7 from hD9.out 12 (by decide))
     have e13:=(show vs 13=maskV _ 13 vs 11 from hD9.out 13 (by decide))
     rw[mask_at (by kernel_rfl),e7] at e12
     rw[mask_at (by kernel_rfl),e11] at e13
     rw[e7] at o7
     have O7:=hDD o7
     have I9:=hDD hI9.out
     have hs1:=B1.out.size
     have hs3:=B3.out.size
     rw[e12,e13]
     clear hD9 hI9 o7 e7 e11 e12 e13
     go_wp2
     exact bodyPost_ret (v:= .tuple #[.slice A7 y7.length c7, .int .i64 y]) (by simp[results,Tryz.results59,go_sem]) rfl ⟨_,⟨_,rfl⟩,y7,O7.out.mono (by omega),l7,B1.out.trans ((B3.out.trans (I9.out.mono hs3)).mono hs1)⟩
  ·have hkI: ¬(k:Int)≤(c.length:Int):=by omega
   have O9:=hDD (OwI_lit (base:=w.heap.size) wr [] I64s_nil (by simp) (by have:=B1.out.size;omega))
   go_wp2
   exact bodyPost_ret (v:= .tuple #[.slice (some ⟨wr.heap.size,0,none⟩) 0 0, .int .i64 0]) (by simp[results,Tryz.results59,go_sem]) rfl ⟨_,⟨_,rfl⟩,[],by simpa using O9.out,by simp,((B1.out.trans (HB.out.mono B1.out.size))).alloc (by have:=B1.out.size;omega) _⟩
end Go.Proofs.YteobmaambgmdbaaGreat
namespace Go.Proofs.YteobmaambgmdbaaGreat
set_option maxRecDepth 20000
set_option linter.unusedVariables false
set_option linter.unusedSimpArgs false
open Go.RowKit
theorem Tr.bw {p B:Nat} {w W W':World} (hb:Below B w W) (ht:Tr p (p+1) W W') (hp:B≤p) (hB:B≤W.heap.size):Below B w W':=
 ⟨ht.os.trans hb.os,ht.tape.trans hb.tape,ht.output.trans hb.output,Nat.le_trans hb.size ht.size,fun k hk=>(ht.block k (by omega) (by omega)).trans (hb.block k hk)⟩
set_option maxHeartbeats 4000000 in
theorem l12Any_any (p:Nat) (A:Option Addr) (cap:Nat) (cs:List Int) (w:World) (h:Cur p A cap cs w):
  Calls Tryz.prog 56 #[.pointer (some ⟨p,0,none⟩)] w fun e w'=> ∃v g,e= .returned v∧OwG w' w.heap.size v g∧g.2.2.length≤120∧Cur p A cap cs w'∧Tr p (p+1) w w':=by
 have H:=hDD h
 have hp:=h.lt
 clear h
 go_enter Tryz.func56,Tryz.ntmps56
 go_wp2_with fail
 obtain⟨W0,hW0⟩: ∃W,W=w.alloc (Obj.cells #[Value.int IntKind.i64 0,Value.int IntKind.i64 0, .slice none 0 0] 26):=⟨_,rfl⟩
 rw[←hW0]
 obtain⟨xb,b0,s0⟩:=CBx.new hW0
 clear hW0
 have XB:=hDD xb
 have I0:Hid (DrI p A cap cs w W0):=hDD ((DrI.refl H.out).bel b0)
 clear xb b0
 refine(l1Once_any p A cap cs 2 _ I0.out.cur (by omega) (by omega)).mono ?_
 rintro e w1 ⟨x,rfl,c1,t1⟩
 have I1:=hDD (I0.out.to t1 c1)
 have X1:=hDD (XB.out.trP t1 (by omega))
 have hs1:=X1.out.lt
 clear c1 t1 I0 XB
 have END: ∀w2 q1 q2 qs A2 cp2,DrI p A cap cs w w2→CBx w2 w.heap.size (.int .i64 0) (.int .i64 0) (.slice none 0 0)→OwE w2 w1.heap.size (.slice A2 (List.length (α:=EdD) qs) cp2) qs→I64 q1→I64 q2→qs.length≤120→
   ∃W,W=((w2.setCell ⟨w.heap.size,0,none⟩ (.int .i64 q1)).setCell ⟨w.heap.size,1,none⟩ (.int .i64 q2)).setCell ⟨w.heap.size,2,none⟩ (.slice A2 qs.length cp2)∧CBx W w.heap.size (.int .i64 q1) (.int .i64 q2) (.slice A2 qs.length cp2)∧DrI p A cap cs w W∧OwG W w.heap.size (.agg #[.int .i64 q1, .int .i64 q2, .slice A2 qs.length cp2]) (q1,q2,qs):=fun w2 q1 q2 qs A2 cp2 hI hX hO h1 h2 _=>
  ⟨_,rfl,hX.setv _ _ _,hI.hi H.out (Nat.le_refl _) (set3_below _ _ _ (Below.refl _ _) (Nat.le_refl w.heap.size)),_,rfl,h1,h2,(hO.keep fun c hc=>set3_heap _ _ _ _ _ (by have:=(hO.1.lt c hc).1;omega)).mono (by omega)⟩
 have HEND:=hDD END
 clear END
 rcases x with _ | _
 ·go_wp2_with fail
  refine(l9Any_any p A cap cs _ I1.out.cur).mono ?_
  rintro e w2 ⟨v2,⟨q1,q2,qs⟩,rfl,⟨s2,rfl,j1,j2,oe2⟩,hl,c2,t2⟩
  obtain⟨A2,cp2,rfl,_⟩:=oe2.form
  simp only at j1 j2 oe2 hl⊢
  have X2:=hDD (X1.out.trP t2 (by omega))
  have HE:=hDD (HEND.out w2 q1 q2 qs A2 cp2 (I1.out.to t2 c2) X2.out oe2 j1 j2 hl)
  clear c2 t2 oe2 I1 X1
  have u0:=X2.out.c0
  have u1:=X2.out.c1
  have u2:=X2.out.c2
  have f0:=X2.out.fz 0
  have f1:=X2.out.fz 1
  have f2:=X2.out.fz 2
  go_wp2
  obtain⟨W,hW,XF,IF,OF⟩:=HE.out
  rw[←hW]
  have e0:=XF.c0
  have e1:=XF.c1
  have e2:=XF.c2
  exact bodyPost_ret (v:= .agg #[.int .i64 q1, .int .i64 q2, .slice A2 qs.length cp2]) (by simp[results,Tryz.results56,go_sem,e0,e1,e2]) rfl ⟨_,rfl,q1,q2,qs,OF,hl,IF.cur,IF.tr⟩
 ·go_wp2_with fail
  refine(l12Finite_any p A cap cs _ I1.out.cur).mono ?_
  rintro e w2 ⟨v2,⟨q1,q2,qs⟩,rfl,⟨s2,rfl,j1,j2,oe2⟩,hcb,c2,t2⟩
  have hl:qs.length≤120:=(grB_parts (coreB_grB hcb)).2.2.1
  obtain⟨A2,cp2,rfl,_⟩:=oe2.form
  simp only at j1 j2 oe2⊢
  have X2:=hDD (X1.out.trP t2 (by omega))
  have HE:=hDD (HEND.out w2 q1 q2 qs A2 cp2 (I1.out.to t2 c2) X2.out oe2 j1 j2 hl)
  clear c2 t2 oe2 I1 X1 hcb
  have u0:=X2.out.c0
  have u1:=X2.out.c1
  have u2:=X2.out.c2
  have f0:=X2.out.fz 0
  have f1:=X2.out.fz 1
  have f2:=X2.out.fz 2
  go_wp2
  obtain⟨W,hW,XF,IF,OF⟩:=HE.out
  rw[←hW]
  have e0:=XF.c0
  have e1:=XF.c1
  have e2:=XF.c2
  exact bodyPost_ret (v:= .agg #[.int .i64 q1, .int .i64 q2, .slice A2 qs.length cp2]) (by simp[results,Tryz.results56,go_sem,e0,e1,e2]) rfl ⟨_,rfl,q1,q2,qs,OF,hl,IF.cur,IF.tr⟩
set_option maxHeartbeats 4000000 in
theorem drawPow_any (v:Value) (cs:List Int) (w:World) (h:ArgC w v cs) (hl:cs.length≤1048576):
  Calls Tryz.prog 7 #[v] w fun e w'=> ∃gv wv g xs,e= .returned (.tuple #[gv,wv])∧OwG w' w.heap.size gv g∧g.2.2.length≤120∧OwI w' w.heap.size wv xs∧xs.length≤3000∧Below w.heap.size w w':=by
 have H:=hDD h
 have HN:=hDD (fun W (h:ArgC W v cs)=>l1New_any v cs W h hl)
 have HB0: ∀W,Below w.heap.size w W→ArgC W v cs:=fun W hb=>by
  obtain⟨A,cap,e,h1,h2,h3,h4⟩:=h
  exact⟨A,cap,e,h1,h2,h3,fun h0=>by
   obtain⟨b,off,hA,hc⟩:=h4 h0
   exact⟨b,off,hA,fun i hi=>(hb.cell (p:=⟨b,off+i,none⟩) (lt_cell (hc 0 h0))).trans (hc i hi)⟩⟩
 have HBW:=hDD HB0
 clear h HB0
 go_enter Tryz.func7,Tryz.ntmps7
 go_wp2_with fail
 obtain⟨W0,hW0⟩: ∃W,W=w.alloc (Obj.cells #[Value.int IntKind.i64 0,Value.int IntKind.i64 0, .slice none 0 0] 26):=⟨_,rfl⟩
 rw[←hW0]
 obtain⟨xb,b0,s0⟩:=CBx.new hW0
 clear hW0
 have XB:=hDD xb
 have B0:=hDD b0
 clear xb b0
 refine(HN.out W0 (HBW.out _ B0.out)).mono ?_
 rintro e w1 ⟨p,A,cap,rfl,c1,hp,b1⟩
 have X1:=hDD (XB.out.below b1)
 have B1:=hDD (B0.out.trans (b1.mono (by omega)))
 have hs1:=b1.size
 have I1:=hDD (DrI.refl c1)
 have hpl:=c1.lt
 clear b1 c1 XB B0 HN HBW
 go_wp2_with fail
 refine(l12Any_any p A cap cs w1 I1.out.cur).mono ?_
 rintro e w2 ⟨v2,⟨q1,q2,qs⟩,rfl,⟨s2,rfl,j1,j2,oe2⟩,hql,c2,t2⟩
 obtain⟨A2,cp2,rfl,_⟩:=oe2.form
 simp only at j1 j2 oe2 hql⊢
 have I2:=hDD (I1.out.to t2 c2)
 have X2:=hDD (X1.out.trP t2 (by omega))
 have OE2:=hDD oe2
 have hs2:=t2.size
 clear c2 t2 oe2 X1
 go_wp2_with fail
 obtain⟨W3,hW3⟩: ∃W,W=w2.alloc (Obj.cells #[Value.int IntKind.i64 q1,Value.int IntKind.i64 q2, .slice A2 qs.length cp2] 26):=⟨_,rfl⟩
 have g3:=GBx.new (m:=(q1,q2,qs)) OE2.out j1 j2 hW3
 obtain⟨_,b3,s3⟩:=CBx.new hW3
 rw[←hW3]
 have G3:=hDD g3
 have X3:=hDD (X2.out.below b3)
 have I3:=hDD (I2.out.bel b3)
 clear hW3 g3 b3 I2 X2 OE2
 refine(l9Word_any p A cap cs _ (q1,q2,qs) W3 I3.out.cur G3.out.arg (fun w' ht=>(G3.out.trP ht (by omega) (by omega)).arg)).mono ?_
 rintro e w4 ⟨wv,xs,rfl,ox,hxl,c4,t4⟩
 obtain⟨Ax,cx,rfl,_⟩:=ox.form
 have I4:=hDD (I3.out.to t4 c4)
 have X4:=hDD (X3.out.trP t4 (by omega))
 have G4:=hDD (G3.out.trP t4 (by omega) (by omega))
 have OX4:=hDD ox
 have hs4:=t4.size
 clear c4 t4 ox I3 X3 G3
 go_wp2_with fail
 refine(l1Once_any p A cap cs 2 _ I4.out.cur (by omega) (by omega)).mono ?_
 rintro e w5 ⟨x,rfl,c5,t5⟩
 have I5:=hDD (I4.out.to t5 c5)
 have X5:=hDD (X4.out.trP t5 (by omega))
 have G5:=hDD (G4.out.trP t5 (by omega) (by omega))
 have OX5:=hDD (OX4.out.trP t5 (by omega))
 have hs5:=t5.size
 clear c5 t5 I4 X4 G4 OX4
 rcases x with _ | _
 ·have y0:=G5.out.c0
  have y1:=G5.out.c1
  have y2:=G5.out.c2
  have u0:=X5.out.c0
  have u1:=X5.out.c1
  have u2:=X5.out.c2
  have f0:=X5.out.fz 0
  have f1:=X5.out.fz 1
  have f2:=X5.out.fz 2
  simp only at y0 y1 y2
  go_wp2
  have XF:=X5.out.setv (.int .i64 q1) (.int .i64 q2) (.slice A2 qs.length cp2)
  have e0:=XF.c0
  have e1:=XF.c1
  have e2:=XF.c2
  exact bodyPost_ret (v:= .tuple #[.agg #[.int .i64 q1, .int .i64 q2, .slice A2 qs.length cp2], .slice Ax xs.length cx]) (by simp[results,Tryz.results7,go_sem,e0,e1,e2]) rfl ⟨_,_,(q1,q2,qs),xs,rfl,⟨_,rfl,j1,j2,(G5.out.ow.keep fun c hc=>set3_heap _ _ _ _ _ (by have:=(G5.out.ow.1.lt c hc).1;omega)).mono (by omega)⟩,hql,(OX5.out.keepB fun c hc=>set3_heap _ _ _ _ _ (by have:=(OX5.out.1.lt c hc).1;omega)).mono (by omega),by omega,set3_below _ _ _ (Tr.bw B1.out I5.out.tr (by omega) (by omega)) (Nat.le_refl _)⟩
 ·go_wp2_with fail
  refine(specRootOf_any _ xs w5 OX5.out.rd (by omega)).mono ?_
  rintro e w6 ⟨rv,rk,ys,rfl,oy,hyl,b6⟩
  obtain⟨Ay,cy,rfl,_⟩:=oy.form
  have B6:=hDD ((Tr.bw B1.out I5.out.tr (by omega) (by omega)).trans (b6.mono (show w.heap.size≤w5.heap.size by omega)))
  have X6:=hDD (X5.out.below b6)
  have G6:=hDD (G5.out.below b6)
  have OY6:=hDD oy
  clear b6 oy X5 G5 OX5 I5
  have y0:=G6.out.c0
  have y1:=G6.out.c1
  have y2:=G6.out.c2
  have u0:=X6.out.c0
  have u1:=X6.out.c1
  have u2:=X6.out.c2
  have f0:=X6.out.fz 0
  have f1:=X6.out.fz 1
  have f2:=X6.out.fz 2
  simp only at y0 y1 y2
  go_wp2
  have XF:=X6.out.setv (.int .i64 q1) (.int .i64 q2) (.slice A2 qs.length cp2)
  have e0:=XF.c0
  have e1:=XF.c1
  have e2:=XF.c2
  exact bodyPost_ret (v:= .tuple #[.agg #[.int .i64 q1, .int .i64 q2, .slice A2 qs.length cp2], .slice Ay ys.length cy]) (by simp[results,Tryz.results7,go_sem,e0,e1,e2]) rfl ⟨_,_,(q1,q2,qs),ys,rfl,⟨_,rfl,j1,j2,(G6.out.ow.keep fun c hc=>set3_heap _ _ _ _ _ (by have:=(G6.out.ow.1.lt c hc).1;omega)).mono (by omega)⟩,hql,(OY6.out.keepB fun c hc=>set3_heap _ _ _ _ _ (by have:=(OY6.out.1.lt c hc).1;omega)).mono (by omega),by omega,set3_below _ _ _ B6.out (Nat.le_refl _)⟩
set_option maxRecDepth 100000 in
set_option maxHeartbeats 4000000 in
theorem drawRts_any (v:Value) (cs:List Int) (w:World) (h:ArgC w v cs) (hl:cs.length≤1048576):
  Calls Tryz.prog 16 #[v] w fun e w'=> ∃(gv:Value) (g:GrD) (m:Int),e= .returned (.tuple #[gv, .int .i64 m])∧OwG w' w.heap.size gv g∧g.2.2.length≤120∧(-1≤m∧m≤3)∧Below w.heap.size w w':=by
 have H:=hDD h
 have HN:=hDD (fun W (h:ArgC W v cs)=>l1New_any v cs W h hl)
 have HB0: ∀W,Below w.heap.size w W→ArgC W v cs:=fun W hb=>by
  obtain⟨A,cap,e,h1,h2,h3,h4⟩:=h
  exact⟨A,cap,e,h1,h2,h3,fun h0=>by
   obtain⟨b,off,hA,hc⟩:=h4 h0
   exact⟨b,off,hA,fun i hi=>(hb.cell (p:=⟨b,off+i,none⟩) (lt_cell (hc 0 h0))).trans (hc i hi)⟩⟩
 have HBW:=hDD HB0
 clear h HB0
 go_enter Tryz.func16,Tryz.ntmps16
 go_wp2_with fail
 obtain⟨W0,hW0⟩: ∃W,W=w.alloc (Obj.cells #[Value.int IntKind.i64 0,Value.int IntKind.i64 0, .slice none 0 0] 26):=⟨_,rfl⟩
 rw[←hW0]
 obtain⟨xb,b0,s0⟩:=CBx.new hW0
 clear hW0
 have XB:=hDD xb
 have B0:=hDD b0
 clear xb b0
 refine(HN.out W0 (HBW.out _ B0.out)).mono ?_
 rintro e w1 ⟨p,A,cap,rfl,c1,hp,b1⟩
 have X1:=hDD (XB.out.below b1)
 have B1:=hDD (B0.out.trans (b1.mono (by omega)))
 have hs1:=b1.size
 have I1:=hDD (DrI.refl c1)
 have hpl:=c1.lt
 clear b1 c1 XB B0 HN HBW
 go_wp2_with fail
 refine(l12Any_any p A cap cs w1 I1.out.cur).mono ?_
 rintro e w2 ⟨v2,⟨q1,q2,qs⟩,rfl,⟨s2,rfl,j1,j2,oe2⟩,hql,c2,t2⟩
 obtain⟨A2,cp2,rfl,_⟩:=oe2.form
 simp only at j1 j2 oe2 hql⊢
 have I2:=hDD (I1.out.to t2 c2)
 have X2:=hDD (X1.out.trP t2 (by omega))
 have OE2:=hDD oe2
 have hs2:=t2.size
 clear c2 t2 oe2 X1
 go_wp2_with fail
 obtain⟨W3,hW3⟩: ∃W,W=w2.alloc (Obj.cells #[Value.int IntKind.i64 q1,Value.int IntKind.i64 q2, .slice A2 qs.length cp2] 26):=⟨_,rfl⟩
 have g3:=GBx.new (m:=(q1,q2,qs)) OE2.out j1 j2 hW3
 obtain⟨_,b3,s3⟩:=CBx.new hW3
 rw[←hW3]
 have G3:=hDD g3
 have X3:=hDD (X2.out.below b3)
 have I3:=hDD (I2.out.bel b3)
 have B3:=hDD (Tr.bw B1.out I3.out.tr (by omega) (by omega))
 clear hW3 g3 b3 I2 X2 OE2
 generalize hb:w2.heap.size=b at*
 have hbw:w.heap.size<b:=by omega
 clear hb
 go_wp2_with fail
 refine wp_region_genH [.val (.agg #[.int .i64 q1, .int .i64 q2, .slice A2 qs.length cp2]), .val (.pointer (some ⟨p,0,none⟩)), .pur (fun _ v=> ∃x:Int,v= .int .i64 x∧0≤x∧x<4), .val (.pointer (some ⟨p,0,none⟩)), .pur (fun _ v=> ∃x:Int,v= .int .i64 x∧0≤x∧x<2), .pur (fun _ v=> ∃x:Int,v= .int .i64 x∧ -1≤x∧x≤3), .mem (fun _ W _=>CBx W w.heap.size (.int .i64 q1) (.int .i64 q2) (.slice A2 qs.length cp2)), .pur (fun us v=>v=us 5)]
  [none,none,some (fun W W'=>Tr p (p+1) W W'∧Cur p A cap cs W'),none,some (fun W W'=>Tr p (p+1) W W'∧Cur p A cap cs W'),none,some (fun W W'=> ∃x y z,W'=((W.setCell ⟨w.heap.size,0,none⟩ x).setCell ⟨w.heap.size,1,none⟩ y).setCell ⟨w.heap.size,2,none⟩ z),none]
  (fun W=>Below w.heap.size w W∧GBx W b w1.heap.size A2 cp2 (q1,q2,qs)∧w1.heap.size≤W.heap.size∧ ∃x y z,CBx W w.heap.size x y z) (fun W=>Cur p A cap cs W) [6] [] (by kernel_rfl) (by kernel_rfl) (by rfl) (by rfl)
  ⟨B3.out.drew,G3.out.below (Below.refl _ _).drew,(show w1.heap.size≤W3.heap.size by omega),_,_,_,X3.out.below (Below.refl _ _).drew⟩ (I3.out.cur.below (Below.refl _ _).drew)
  ⟨fun _ _ h t=>⟨Tr.bw h.1 t.1 (by omega) (by have:=h.2.2.1;omega),h.2.1.trP t.1 (by omega) (by omega),Nat.le_trans h.2.2.1 t.1.size,by obtain⟨x,y,z,hx⟩:=h.2.2.2;exact⟨x,y,z,hx.trP t.1 (by omega)⟩⟩,fun _ _ h t=>⟨Tr.bw h.1 t.1 (by omega) (by have:=h.2.2.1;omega),h.2.1.trP t.1 (by omega) (by omega),Nat.le_trans h.2.2.1 t.1.size,by obtain⟨x,y,z,hx⟩:=h.2.2.2;exact⟨x,y,z,hx.trP t.1 (by omega)⟩⟩,
   fun W _ h ⟨x,y,z,e⟩=>by
    subst e
    obtain⟨x',y',z',hx⟩:=h.2.2.2
    exact⟨set3_below _ _ _ h.1 (Nat.le_refl _),h.2.1.keep (by rw[set3_size];exact Nat.le_refl _) fun c hc=>set3_heap _ _ _ _ _ (hc.elim (fun e=>by omega) fun e=>by have:=(h.2.1.ow.1.lt c e).1;omega),by rw[set3_size];exact h.2.2.1,_,_,_,hx.setv _ _ _⟩,trivial⟩
  ⟨.inr fun _ _ _ h t=>t.2, .inr fun _ _ _ h t=>t.2, .inl (by simp),trivial⟩ trivial (fun vs=> ?_)
 refine⟨fun W' K' Q0 hI hD hK=> ?_,?_⟩
 ·have z0:=hI.out.1.2.1.c0
  have z1:=hI.out.1.2.1.c1
  have z2:=hI.out.1.2.1.c2
  go_simp
  exact hK.out _ _ rfl rfl
 simp only[Act.put,List.setIfInBounds_toArray,List.set_cons_zero,List.set_cons_succ,Sg.pick,Nat.reduceAdd]
 refine⟨fun W' K' Q0 hI hD hK=> ?_,?_⟩
 ·skip
  go_simp
  exact hK.out _ _ rfl rfl
 simp only[Act.put,List.setIfInBounds_toArray,List.set_cons_zero,List.set_cons_succ,Sg.pick,Nat.reduceAdd]
 refine⟨fun W' K' Q0 hI hD hK=> ?_,?_⟩
 ·skip
  go_simp
  refine(l1Below_any p A cap cs 4 _ (hI.out.2 (by kernel_rfl)) (by omega) (by omega)).mono ?_;rintro e w' ⟨x,rfl,hx,c,t⟩;exact hK.out _ _ ⟨t,c⟩ ⟨x,rfl,hx⟩
 simp only[Act.put,List.setIfInBounds_toArray,List.set_cons_zero,List.set_cons_succ,Sg.pick,Nat.reduceAdd]
 refine⟨fun W' K' Q0 hI hD hK=> ?_,?_⟩
 ·skip
  go_simp
  exact hK.out _ _ rfl rfl
 simp only[Act.put,List.setIfInBounds_toArray,List.set_cons_zero,List.set_cons_succ,Sg.pick,Nat.reduceAdd]
 refine⟨fun W' K' Q0 hI hD hK=> ?_,?_⟩
 ·skip
  go_simp
  refine(l1Below_any p A cap cs 2 _ (hI.out.2 (by kernel_rfl)) (by omega) (by omega)).mono ?_;rintro e w' ⟨x,rfl,hx,c,t⟩;exact hK.out _ _ ⟨t,c⟩ ⟨x,rfl,hx⟩
 simp only[Act.put,List.setIfInBounds_toArray,List.set_cons_zero,List.set_cons_succ,Sg.pick,Nat.reduceAdd]
 refine⟨fun W' K' Q0 hI hD hK=> ?_,?_⟩
 ·obtain⟨x2,e2,h2⟩:=(show ∃x:Int,vs 2= .int .i64 x∧0≤x∧x<4 from hD.out 2 (by kernel_rfl))
  obtain⟨x4,e4,h4⟩:=(show ∃x:Int,vs 4= .int .i64 x∧0≤x∧x<2 from hD.out 4 (by kernel_rfl))
  have hw24:IntKind.i64.wrap (x2-x4)=x2-x4:=(by rw[IntKind.wrap_i64];omega)
  rw[e2,e4] at hK⊢
  go_simp
  exact hK.out _ _ rfl ⟨x2-x4,rfl,by omega,by omega⟩
 simp only[Act.put,List.setIfInBounds_toArray,List.set_cons_zero,List.set_cons_succ,Sg.pick,Nat.reduceAdd]
 refine⟨fun W' K' Q0 hI hD hK=> ?_,?_⟩
 ·obtain⟨x',y',z',hx⟩:=hI.out.1.2.2.2
  have z0:=hx.c0
  have z1:=hx.c1
  have z2:=hx.c2
  have u0:=hx.fz 0
  have u1:=hx.fz 1
  have u2:=hx.fz 2
  go_simp
  exact hK.out undef _ ⟨_,_,_,rfl⟩ (hx.setv _ _ _)
 simp only[Act.put,List.setIfInBounds_toArray,List.set_cons_zero,List.set_cons_succ,Sg.pick,Nat.reduceAdd]
 refine⟨fun W' K' Q0 hI hD hK=> ?_,?_⟩
 ·obtain⟨x5,e5,h5⟩:=(show ∃x:Int,vs 5= .int .i64 x∧ -1≤x∧x≤3 from hD.out 5 (by kernel_rfl))
  rw[e5] at hK⊢
  go_simp
  exact hK.out _ _ rfl ((mask_at (by kernel_rfl)).trans e5).symm
 simp only[Act.put,List.setIfInBounds_toArray,List.set_cons_zero,List.set_cons_succ,Sg.pick,Nat.reduceAdd]
 intro W9 hI9 hD9
 obtain⟨m,e5,hm⟩:=(show ∃x:Int,vs 5= .int .i64 x∧ -1≤x∧x≤3 from hD9.out 5 (by decide))
 have e7:=(show vs 7=maskV _ 7 vs 5 from hD9.out 7 (by decide))
 have hX9:=(show CBx W9 w.heap.size (.int .i64 q1) (.int .i64 q2) (.slice A2 qs.length cp2) from hD9.out 6 (by decide))
 rw[mask_at (by kernel_rfl),e5] at e7
 rw[e7]
 have G9:=hDD hI9.out.1.2.1
 have B9:=hDD hI9.out.1.1
 have e0:=hX9.c0
 have e1:=hX9.c1
 have e2:=hX9.c2
 clear hD9 hI9 e5 e7
 go_wp2
 exact bodyPost_ret (v:= .tuple #[.agg #[.int .i64 q1, .int .i64 q2, .slice A2 qs.length cp2], .int .i64 m]) (by simp[results,Tryz.results16,go_sem,e0,e1,e2]) rfl ⟨_,(q1,q2,qs),m,rfl,⟨_,rfl,j1,j2,G9.out.ow.mono (by omega)⟩,hql,hm,B9.out⟩
end Go.Proofs.YteobmaambgmdbaaGreat
namespace Go.Proofs.YteobmaambgmdbaaGreat
set_option maxRecDepth 20000
set_option linter.unusedVariables false
set_option linter.unusedSimpArgs false
open Go.RowKit
end Go.Proofs.YteobmaambgmdbaaGreat
namespace Go.Proofs.YteobmaambgmdbaaGreat
set_option maxRecDepth 20000
set_option linter.unusedVariables false
set_option linter.unusedSimpArgs false
open Go.RowKit
end Go.Proofs.YteobmaambgmdbaaGreat
namespace Go.Proofs.YteobmaambgmdbaaGreat
set_option maxRecDepth 20000
set_option linter.unusedVariables false
set_option linter.unusedSimpArgs false
open Go.ChangeShapes Go.WideShapes Go.ChangeAt Go.RowKit
theorem laidOut:laidOutB Tryz.prog=true:=by kernel_rfl
theorem own:ownKnob Tryz.prog.godebug=none:=by kernel_rfl
end Go.Proofs.YteobmaambgmdbaaGreat
namespace Go.Proofs.YteobmaambgmdbaaGreat
set_option maxRecDepth 20000
set_option linter.unusedVariables false
set_option linter.unusedSimpArgs false
open Go.RowKit
theorem ArgE.same {w w':World} {v:Value} {es:List EdD} (h:ArgE w v es) (hs: ∀b,b<w.heap.size→w'.heap[b]? =w.heap[b]?):ArgE w' v es:=by
 obtain⟨A,cap,hv,hc,hm,hn,hr,hx⟩:=h
 refine⟨A,cap,hv,hc,hm,hn,hr,fun h0=> ?_⟩
 obtain⟨b,off,hA,hlt,hx⟩:=hx h0
 have hh:=hs b hlt
 refine⟨b,off,hA,?_,fun k hk=> ?_⟩
 ·rw[Array.getElem?_eq_getElem hlt] at hh
  exact lt_of_heap hh
 ·obtain⟨h1,h2,h3⟩:=hx k hk
  exact⟨(World.cell?_of_block (w:=w) hh).trans h1,(World.cell?_of_block (w:=w) hh).trans h2,(World.cell?_of_block (w:=w) hh).trans h3⟩
theorem ArgG.same {w w':World} {v:Value} {g:GrD} (h:ArgG w v g) (hs: ∀b,b<w.heap.size→w'.heap[b]? =w.heap[b]?):ArgG w' v g:=by
 obtain⟨s,hv,h1,h2,ha⟩:=h
 exact⟨s,hv,h1,h2,ha.same hs⟩
theorem ArgG.ob {w:World} {v:Value} {d:GrD} (h:ArgG w v d):Ob (Kept w fun w=>ArgG w v d) 0 w.heap.size w:=Kept.ob h
def OE (lo hi:Nat) (v:Value) (es:List EdD) (w:World):Prop:=OwE w lo v es∧ ∀b,v.ownBlock=some b→b<hi
theorem OE.loc {lo hi:Nat} {v:Value} {es:List EdD}:Loc (OE lo hi v es) lo hi:=by
 intro u u' hu hb
 exact⟨hu.1.keep fun b hv=>hb b (hu.1.1.lt b hv).1 (hu.2 b hv),hu.2⟩
theorem OwE.ob {w:World} {lo:Nat} {v:Value} {es:List EdD} (h:OwE w lo v es):Ob (OE lo w.heap.size v es) lo w.heap.size w:=
 ⟨⟨h,fun b hb=>(h.1.lt b hb).2⟩,OE.loc,Nat.le_refl _⟩
def OG (lo hi:Nat) (v:Value) (d:GrD) (w:World):Prop:= ∃s,v= .agg #[.int .i64 d.1, .int .i64 d.2.1,s]∧I64 d.1∧I64 d.2.1∧OE lo hi s d.2.2 w
theorem OG.arg {lo hi:Nat} {v:Value} {d:GrD} {w:World} (h:OG lo hi v d w):ArgG w v d:=by
 obtain⟨s,hv,h1,h2,ho⟩:=h
 exact⟨s,hv,h1,h2,ho.1.arg⟩
theorem OG.own {lo hi:Nat} {v:Value} {d:GrD} {w:World} (h:OG lo hi v d w):OwG w lo v d:=by
 obtain⟨s,hv,h1,h2,ho⟩:=h
 exact⟨s,hv,h1,h2,ho.1⟩
theorem OG.loc {lo hi:Nat} {v:Value} {d:GrD}:Loc (OG lo hi v d) lo hi:=by
 intro u u' hu hb
 obtain⟨s,hv,h1,h2,ho⟩:=hu
 exact⟨s,hv,h1,h2,OE.loc u u' ho hb⟩
theorem OwG.ob {w:World} {lo:Nat} {v:Value} {d:GrD} (h:OwG w lo v d):Ob (OG lo w.heap.size v d) lo w.heap.size w:=by
 obtain⟨s,hv,h1,h2,ho⟩:=h
 exact⟨⟨s,hv,h1,h2,ho.ob.holds⟩,OG.loc,Nat.le_refl _⟩
end Go.Proofs.YteobmaambgmdbaaGreat
namespace Go.Proofs.YteobmaambgmdbaaGreat
set_option maxRecDepth 20000
set_option linter.unusedVariables false
set_option linter.unusedSimpArgs false
open Go.RowKit
end Go.Proofs.YteobmaambgmdbaaGreat
namespace Go.Proofs.YteobmaambgmdbaaGreat
set_option maxRecDepth 20000
set_option linter.unusedVariables false
set_option linter.unusedSimpArgs false
open Go.RowKit
end Go.Proofs.YteobmaambgmdbaaGreat
namespace Go.Proofs.YteobmaambgmdbaaGreat
set_option maxRecDepth 20000
set_option linter.unusedVariables false
set_option linter.unusedSimpArgs false
open Go.RowKit
def misV (g:GrD) (v:Int) (ls:List Int):List EdD:=(ls.filter fun x=>decide (nextV g.2.2 v x<0)).map fun x=>(v,x,-1)
def misU (g:GrD):Nat→List EdD
 | 0=> []
 | k+1=>misU g k++misV g (k:Int) (lettersL g.1.toNat)
def finB (g:GrD):Bool:=coreB g&&decide ((misU g g.2.1.toNat).length=0)
theorem misV_succ (g:GrD) (v:Int) (ls:List Int) (j:Nat) (h:j<ls.length):misV g v (ls.take (j+1))=misV g v (ls.take j)++if nextV g.2.2 v ls[j]<0 then [(v,ls[j],-1)] else []:=by
 unfold misV
 rw[List.take_succ_eq_append_getElem h,List.filter_append,List.map_append]
 congr 1
 split
 ·rename_i h1;simp[h1]
 ·rename_i h1;simp[h1]
theorem misV_len (g:GrD) (v:Int) (ls:List Int):(misV g v ls).length≤ls.length:=by
 unfold misV
 rw[List.length_map]
 exact List.length_filter_le _ _
theorem misU_len (g:GrD): ∀k,(misU g k).length≤k*(2*g.1.toNat)
 | 0=>by simp[misU]
 | k+1=>by
   have h1:=misU_len g k
   have h2:=misV_len g (k:Int) (lettersL g.1.toNat)
   rw[lettersL_len] at h2
   unfold misU
   rw[List.length_append,Nat.succ_mul]
   omega
set_option maxHeartbeats 2000000 in
theorem specMissingSteps_any (v:Value) (g:GrD) (w:World) (h:ArgG w v g) (hf:foldB g=true):
  Calls Tryz.prog 42 #[v] w fun e w'=> ∃r,e= .returned r∧OwE w' w.heap.size r (misU g g.2.1.toNat)∧Below w.heap.size w w':=by
 have HG:=hDD h
 have HF:=hDD hf
 have hgr:=(foldB_parts hf).1
 have ONE:=hDD (steps_one (foldB_parts hf).2)
 obtain⟨h13,h40,h120,_⟩:=grB_parts hgr
 obtain⟨n,hn⟩: ∃n:Nat,g.2.1=(n:Int):=⟨g.2.1.toNat,by omega⟩
 obtain⟨r,hr⟩: ∃r:Nat,g.1=(r:Int):=⟨g.1.toNat,by omega⟩
 obtain⟨s,rfl,hi1,hi2,ha⟩:=h
 obtain⟨A,cap,rfl⟩:=ha.form
 obtain⟨g1,N,es⟩:=g
 simp only at*
 subst hn hr
 have HMS:Hid (∀k,misU ((r:Int),(n:Int),es) (k+1)=misU ((r:Int),(n:Int),es) k++misV ((r:Int),(n:Int),es) (k:Int) (lettersL r)):=hDD fun k=>rfl
 have HML:Hid (∀k,(misU ((r:Int),(n:Int),es) k).length≤k*(2*r)):=hDD fun k=>misU_len _ k
 have HLL:=hDD (lettersL_len r)
 have hl64:=lettersL_I64 (n:=r) (by omega)
 have HLE:=hDD (fun W=>l5Letters_any r W (by omega))
 clear ha hf hgr
 simp only[Int.toNat_natCast]
 generalize lettersL r=ls at*
 have HL64:=hDD hl64
 clear hl64
 go_enter Tryz.func42,Tryz.ntmps42
 go_wp2_with fail
 obtain⟨W1,hW1⟩: ∃W,W=w.alloc (Obj.cells #[Value.int IntKind.i64 (r:Int),Value.int IntKind.i64 (n:Int), .slice A es.length cap] 26):=⟨_,rfl⟩
 obtain⟨hs1,b1,hc1,_⟩:=gbox hW1
 obtain⟨W,hW⟩: ∃W,W=W1.alloc (Obj.cells #[] 92):=⟨_,rfl⟩
 have b2:Below W1.heap.size W1 W:=by rw[hW];exact(Below.refl _ _).alloc (Nat.le_refl _) _
 have hsW:W.heap.size=w.heap.size+2:=by rw[hW];simp;omega
 have o0:OwE W (w.heap.size+1) (.slice (some ⟨w.heap.size+1,0,none⟩) 0 0) []:=by rw[hW];exact OwE_litN W1 (w.heap.size+1) hs1 (Nat.le_refl _)
 rw[←hW1,←hW]
 have BX:Hid (Below w.heap.size w W):=hDD (b1.trans (b2.mono (by omega)))
 have B12:=hDD (b2.mono (show w.heap.size+1≤W1.heap.size by omega))
 have HC1:=hDD hc1
 have HCL:Hid (∀w',Below (w.heap.size+1) W w'→w'.cell? ⟨w.heap.size,0,none⟩=some (.int .i64 (r:Int))∧w'.cell? ⟨w.heap.size,1,none⟩=some (.int .i64 (n:Int))∧w'.cell? ⟨w.heap.size,2,none⟩=some (.slice A es.length cap)):=hDD fun w' hb=>HC1.out w' (B12.out.trans hb)
 have HA:Hid (∀w',Below (w.heap.size+1) W w'→ArgG w' (.agg #[.int .i64 (r:Int), .int .i64 (n:Int), .slice A es.length cap]) ((r:Int),(n:Int),es)):=hDD fun w' hb=>HG.out.below (BX.out.trans (hb.mono (by omega)))
 have HFO:Hid (∀w',Below (w.heap.size+1) W w'→Calls Tryz.prog 94 #[.agg #[.int .i64 (r:Int), .int .i64 (n:Int), .slice A es.length cap]] w' fun e w''=>e= .returned (.bool true)∧Below w'.heap.size w' w''):=hDD fun w' hb=>by
  have h:=specIsFolded_any _ _ w' (HA.out w' hb)
  rw[HF.out] at h
  exact h
 have O0:=hDD o0
 clear hW1 hW hc1 b1 b2 HC1 o0
 go_loopw [3,4] (fun vo i wr=> ∃k:Nat,k≤n∧i= .int .i64 k∧OwE wr (w.heap.size+1) vo (misU ((r:Int),(n:Int),es) k)∧Below (w.heap.size+1) W wr) (fun _ i _=>n-(intOf i).toNat)
 case atStart=>exact⟨0,Nat.zero_le _,rfl,O0.out,(Below.refl W.heap.size W).mono (by omega)⟩
 case round=>
  obtain⟨k,hk,rfl,ho,hb⟩:=hrel
  have HO:=hDD ho
  have HB:=hDD hb
  obtain⟨wi,rfl⟩: ∃wi:World,wi=wr:=⟨_,rfl⟩
  clear ho hb
  have hwi:=HB.out.size
  obtain⟨q0,q1,q2⟩:=HCL.out wi HB.out
  obtain⟨Ao,co,rfl,_⟩:=OwE.form HO.out
  by_cases hlt:k<n
  ·have hkI:(k:Int)<(n:Int):=by omega
   go_wp2_with fail
   refine(HFO.out wi HB.out).mono ?_
   rintro e w3 ⟨rfl,b3⟩
   have hs3:=b3.size
   have HO3:=hDD (HO.out.below b3)
   have HB3:=hDD (HB.out.trans (b3.mono (by omega)))
   clear b3 q0 q1 q2
   obtain⟨q0,q1,q2⟩:=HCL.out w3 HB3.out
   go_wp2_with fail
   refine(HLE.out w3).mono ?_
   rintro e w4 ⟨rl,rfl,ol,b4⟩
   have hs4:=b4.size
   have HO4:=hDD (HO3.out.below b4)
   have HB4:=hDD (HB3.out.trans (b4.mono (by omega)))
   obtain⟨Al,cl_,rfl,hcl,hml,_,hgl⟩:=OwI.form ol
   have hlen:0<ls.length:=by have:=HLL.out;omega
   obtain⟨bl,rfl,hbl1,hbl2⟩:=hgl hlen
   unfold maxLen at hml
   have OL:=hDD ol.rd
   have HNE:Hid ((Value.slice Ao (misU ((r:Int),(n:Int),es) k).length co).ownBlock≠some bl):=hDD fun e=>by have:=(HO3.out.1.lt bl e).2;omega
   have HMK:=hDD (HML.out k)
   have HMSK:=hDD (HMS.out k)
   have hkr:k*(2*r)≤40*6:=Nat.mul_le_mul (by omega) (by omega)
   generalize misU ((r:Int),(n:Int),es) k=L at*
   have hLl:L.length≤240:=by have:=HMK.out;omega
   clear ol b4 hgl q0 q1 q2 HO3 HB3 HMK hkr
   go_wp2
   go_loopw [3,6] (fun vo j wr=> ∃m:Nat,m≤ls.length∧j= .int .i64 m∧OwE wr (w.heap.size+1) vo (L++misV ((r:Int),(n:Int),es) (k:Int) (ls.take m))∧RdI wr (.slice (some ⟨bl,0,none⟩) ls.length cl_) ls∧vo.ownBlock≠some bl∧bl<wr.heap.size∧Below (w.heap.size+1) W wr) (fun _ j _=>ls.length-(intOf j).toNat)
   case atStart=>exact⟨0,Nat.zero_le _,rfl,by simpa[misV] using HO4.out,OL.out,HNE.out,hbl2,HB4.out⟩
   case round=>
    obtain⟨m,hm,rfl,ho,hrd,hne,hblr,hb⟩:=hrel
    have HOi:=hDD ho
    have HBi:=hDD hb
    have HRD:=hDD hrd
    have HN2:=hDD hne
    obtain⟨wj,rfl⟩: ∃wj:World,wj=wr:=⟨_,rfl⟩
    have hwj:=HBi.out.size
    have hws:w.heap.size<wj.heap.size:=by omega
    have hmv:=misV_len ((r:Int),(n:Int),es) (k:Int) (ls.take m)
    rw[List.length_take] at hmv
    by_cases hlt2:m<ls.length
    ·have HS:=hDD (misV_succ ((r:Int),(n:Int),es) (k:Int) ls m hlt2)
     obtain⟨_,_,hAl,_,hcl'⟩:=hrd.at (by omega)
     obtain⟨rfl,rfl⟩:bl=_∧0=_:=by simpa using hAl
     have c0:=hcl' m hlt2
     rw[Nat.zero_add] at c0
     have HX64:=hDD (HL64.out ls[m] (by simp))
     obtain⟨p0,p1,p2⟩:=HCL.out wj HBi.out
     generalize ls[m]=x at c0 HS HX64
     generalize misV ((r:Int),(n:Int),es) (k:Int) (ls.take m)=LV at*
     have hLV:(L++LV).length≤1000:=by have:=HLL.out;rw[List.length_append];omega
     generalize hLO:L++LV=LO at*
     have HLO:=hDD hLO
     obtain⟨A2,c2,rfl,_⟩:=OwE.form HOi.out
     have HNX:=hDD (fun W' (h:ArgG W' (.agg #[.int .i64 (r:Int), .int .i64 (n:Int), .slice A es.length cap]) ((r:Int),(n:Int),es))=>specNextVertex_any _ ((r:Int),(n:Int),es) (k:Int) x W' h (ONE.out (k:Int) x))
     clear hcl' hAl ho hb hrd hne hmv hLO
     go_wp2_with fail
     have f0:=BelW.cell p0 hws
     have f1:=BelW.cell p1 hws
     have f2:=BelW.cell p2 hws
     have f3:=BelW.cell c0 hblr
     (refine wp_region_quiet_bel (by kernel_rfl) (by kernel_rfl) ?_;(repeat(go_big_quiet_step (first | (go_at_call 83;exact Calls.bel_of (HNX.out _ (HA.out _ (HBi.out.trans ((BelW.h _).mono (by omega)))))))));refine wpQuiet_nil ?_;intro wq hw';obtain⟨pq,hw''⟩:=hw';have bq:=pq.h;rw[←hw''] at bq;clear hw'' pq)
     clear f0 f1 f2 f3 p0 p1 p2
     have sq:=bq.size
     have c1:=(bq.cell (p:=⟨bl,m,none⟩) hblr).trans c0
     have HQ:=hDD (HBi.out.trans (bq.mono (by omega)))
     have HOQ:=hDD (HOi.out.below bq)
     have HRQ:=hDD (HRD.out.below bq)
     clear bq c0
     rcases ey:decide (nextV es (k:Int) x<0) with _ | _
     ·have hy: ¬nextV es (k:Int) x<0:=by simpa using ey
      have HS2:Hid (L++misV ((r:Int),(n:Int),es) (k:Int) (ls.take (m+1))=LO):=hDD (by rw[HS.out,if_neg hy,List.append_nil];exact HLO.out)
      clear hy
      go_wp2
      go_roundw
      case rel=>exact⟨m+1,by omega,by go_num,by rw[HS2.out];exact HOQ.out,HRQ.out,HN2.out,by omega,HQ.out⟩
      case measure=>simp[intOf];omega
     ·have hy:nextV es (k:Int) x<0:=by simpa using ey
      have HS2:Hid (L++misV ((r:Int),(n:Int),es) (k:Int) (ls.take (m+1))=LO++ [((k:Int),x,-1)]):=hDD (by rw[HS.out,if_pos hy,←List.append_assoc,HLO.out])
      have HE64:Hid (E64 ((k:Int),x,(-1:Int))):=hDD ⟨(by show I64 (k:Int);unfold I64;omega),HX64.out,(show I64 (-1) from⟨by decide,by decide⟩)⟩
      clear hy
      go_wp2_with (at_builtin;refine push_edge rfl (.tmp 35) (.tmp 42) rfl (w.heap.size+1) _ _ (HOQ.out.alloc _) rfl _ ((k:Int),x,(-1:Int)) rfl (edC_new _ _ _) HE64.out (by first | omega | (simp;omega)) (by first | omega | (simp;omega)) ?_;intro v2 wv2 o2 g2 p2;have hz2:=g2.size;simp at hz2;have O2:=hDD o2;have B2:=hDD (bel_pushE HQ.out (show w.heap.size+1≤wq.heap.size by omega) HOQ.out (Nat.le_refl _) g2);have R2:=hDD ((HRQ.out.alloc (Obj.cells #[Value.int IntKind.i64 (k:Int),Value.int IntKind.i64 x,Value.int IntKind.i64 (-1)] 92)).grown g2 (fun b hb hb'=>by simp[Value.ownBlock] at hb;subst hb;exact HN2.out hb'));have N2:Hid (v2.ownBlock≠some bl):=hDD fun e=>(by rcases p2 with p2 | p2<;>rw[p2] at e<;>first | exact HN2.out e | (simp at e;done) | (simp at e;omega));clear o2 g2 p2)
      go_roundw
      case rel=>exact⟨m+1,by omega,by go_num,by rw[HS2.out];exact O2.out,R2.out,N2.out,by omega,B2.out⟩
      case measure=>simp[intOf];omega
    ·obtain rfl:m=ls.length:=by omega
     rw[List.take_length] at HOi
     have HOF:Hid (OwE wj (w.heap.size+1) _ (misU ((r:Int),(n:Int),es) (k+1))):=hDD (by rw[HMSK.out];exact HOi.out)
     obtain⟨A2,c2,rfl,_⟩:=OwE.form HOi.out
     clear ho hb hrd hne hmv
     go_wp2
     go_roundw
     case rel=>exact⟨k+1,by omega,by go_num,HOF.out,HBi.out⟩
     case measure=>simp[intOf];omega
  ·obtain rfl:k=n:=by omega
   have HBF:Hid (Below w.heap.size w wi):=hDD (BX.out.trans (HB.out.mono (by omega)))
   go_wp2
   go_ret
   exact⟨_,rfl,HO.out.mono (by omega),HBF.out⟩
set_option maxHeartbeats 2000000 in
theorem implMissingSteps_any (v:Value) (g:GrD) (w:World) (h:ArgG w v g) (hf:foldB g=true):
  Calls Tryz.prog 41 #[v] w fun e w'=> ∃r,e= .returned r∧OwE w' w.heap.size r (misU g g.2.1.toNat)∧Below w.heap.size w w':=by
 have HG:=hDD h
 have HF:=hDD hf
 have hgr:=(foldB_parts hf).1
 have HLE1:=hDD (fun e he=>(edge_of_gr hgr (e:=e) he).2.1.1)
 have ONE:=hDD (steps_one (foldB_parts hf).2)
 obtain⟨h13,h40,h120,_⟩:=grB_parts hgr
 obtain⟨n,hn⟩: ∃n:Nat,g.2.1=(n:Int):=⟨g.2.1.toNat,by omega⟩
 obtain⟨r,hr⟩: ∃r:Nat,g.1=(r:Int):=⟨g.1.toNat,by omega⟩
 obtain⟨s,rfl,hi1,hi2,ha⟩:=h
 obtain⟨A,cap,rfl⟩:=ha.form
 obtain⟨g1,N,es⟩:=g
 simp only at*
 subst hn hr
 have HMS:Hid (∀k,misU ((r:Int),(n:Int),es) (k+1)=misU ((r:Int),(n:Int),es) k++misV ((r:Int),(n:Int),es) (k:Int) (lettersL r)):=hDD fun k=>rfl
 have HML:Hid (∀k,(misU ((r:Int),(n:Int),es) k).length≤k*(2*r)):=hDD fun k=>misU_len _ k
 have HLL:=hDD (lettersL_len r)
 have hl64:=lettersL_I64 (n:=r) (by omega)
 have HLE:=hDD (fun W=>letters_any r W (by omega))
 clear ha hf hgr
 simp only[Int.toNat_natCast]
 generalize lettersL r=ls at*
 have HL64:=hDD hl64
 clear hl64
 go_enter Tryz.func41,Tryz.ntmps41
 go_wp2_with fail
 obtain⟨W1,hW1⟩: ∃W,W=w.alloc (Obj.cells #[Value.int IntKind.i64 (r:Int),Value.int IntKind.i64 (n:Int), .slice A es.length cap] 26):=⟨_,rfl⟩
 obtain⟨hs1,b1,hc1,_⟩:=gbox hW1
 obtain⟨W,hW⟩: ∃W,W=W1.alloc (Obj.cells #[] 92):=⟨_,rfl⟩
 have b2:Below W1.heap.size W1 W:=by rw[hW];exact(Below.refl _ _).alloc (Nat.le_refl _) _
 have hsW:W.heap.size=w.heap.size+2:=by rw[hW];simp;omega
 have o0:OwE W (w.heap.size+1) (.slice (some ⟨w.heap.size+1,0,none⟩) 0 0) []:=by rw[hW];exact OwE_litN W1 (w.heap.size+1) hs1 (Nat.le_refl _)
 rw[←hW1,←hW]
 have BX:Hid (Below w.heap.size w W):=hDD (b1.trans (b2.mono (by omega)))
 have B12:=hDD (b2.mono (show w.heap.size+1≤W1.heap.size by omega))
 have HC1:=hDD hc1
 have HCL:Hid (∀w',Below (w.heap.size+1) W w'→w'.cell? ⟨w.heap.size,0,none⟩=some (.int .i64 (r:Int))∧w'.cell? ⟨w.heap.size,1,none⟩=some (.int .i64 (n:Int))∧w'.cell? ⟨w.heap.size,2,none⟩=some (.slice A es.length cap)):=hDD fun w' hb=>HC1.out w' (B12.out.trans hb)
 have HA:Hid (∀w',Below (w.heap.size+1) W w'→ArgG w' (.agg #[.int .i64 (r:Int), .int .i64 (n:Int), .slice A es.length cap]) ((r:Int),(n:Int),es)):=hDD fun w' hb=>HG.out.below (BX.out.trans (hb.mono (by omega)))
 have HFO:Hid (∀w',Below (w.heap.size+1) W w'→Calls Tryz.prog 93 #[.agg #[.int .i64 (r:Int), .int .i64 (n:Int), .slice A es.length cap]] w' fun e w''=>e= .returned (.bool true)∧Below w'.heap.size w' w''):=hDD fun w' hb=>by
  have h:=implIsFolded_any _ _ w' (HA.out w' hb)
  rw[HF.out] at h
  exact h
 have O0:=hDD o0
 clear hW1 hW hc1 b1 b2 HC1 o0
 go_wp2_with fail
 refine(HFO.out W ((Below.refl W.heap.size W).mono (by omega))).mono ?_
 rintro e w3 ⟨rfl,b3⟩
 have hs3:=b3.size
 have O3:=hDD (O0.out.below b3)
 have B3:Hid (Below (w.heap.size+1) W w3):=hDD (b3.mono (by omega))
 clear b3
 go_wp2
 go_loopw [3,4] (fun vo i wr=> ∃k:Nat,k≤n∧i= .int .i64 k∧OwE wr (w.heap.size+1) vo (misU ((r:Int),(n:Int),es) k)∧Below (w.heap.size+1) W wr) (fun _ i _=>n-(intOf i).toNat)
 case atStart=>exact⟨0,Nat.zero_le _,rfl,O3.out,B3.out⟩
 case round=>
  obtain⟨k,hk,rfl,ho,hb⟩:=hrel
  have HO:=hDD ho
  have HB:=hDD hb
  obtain⟨wi,rfl⟩: ∃wi:World,wi=wr:=⟨_,rfl⟩
  clear ho hb
  have hwi:=HB.out.size
  obtain⟨q0,q1,q2⟩:=HCL.out wi HB.out
  obtain⟨Ao,co,rfl,_⟩:=OwE.form HO.out
  by_cases hlt:k<n
  ·have hkI:(k:Int)<(n:Int):=by omega
   go_wp2_with fail
   refine(HLE.out wi).mono ?_
   rintro e w4 ⟨rl,rfl,ol,b4⟩
   have hs4:=b4.size
   have HO4:=hDD (HO.out.below b4)
   have HB4:=hDD (HB.out.trans (b4.mono (by omega)))
   obtain⟨Al,cl_,rfl,hcl,hml,_,hgl⟩:=OwI.form ol
   have hlen:0<ls.length:=by have:=HLL.out;omega
   obtain⟨bl,rfl,hbl1,hbl2⟩:=hgl hlen
   unfold maxLen at hml
   have OL:=hDD ol.rd
   have HNE:Hid ((Value.slice Ao (misU ((r:Int),(n:Int),es) k).length co).ownBlock≠some bl):=hDD fun e=>by have:=(HO.out.1.lt bl e).2;omega
   have HMK:=hDD (HML.out k)
   have HMSK:=hDD (HMS.out k)
   have hkr:k*(2*r)≤40*6:=Nat.mul_le_mul (by omega) (by omega)
   generalize misU ((r:Int),(n:Int),es) k=L at*
   have hLl:L.length≤240:=by have:=HMK.out;omega
   clear ol b4 hgl q0 q1 q2 HMK hkr
   go_wp2
   go_loopw [3,22] (fun vo j wr=> ∃m:Nat,m≤ls.length∧j= .int .i64 m∧OwE wr (w.heap.size+1) vo (L++misV ((r:Int),(n:Int),es) (k:Int) (ls.take m))∧RdI wr (.slice (some ⟨bl,0,none⟩) ls.length cl_) ls∧vo.ownBlock≠some bl∧bl<wr.heap.size∧Below (w.heap.size+1) W wr) (fun _ j _=>ls.length-(intOf j).toNat)
   case atStart=>exact⟨0,Nat.zero_le _,rfl,by simpa[misV] using HO4.out,OL.out,HNE.out,hbl2,HB4.out⟩
   case round=>
    obtain⟨m,hm,rfl,ho,hrd,hne,hblr,hb⟩:=hrel
    have HOi:=hDD ho
    have HBi:=hDD hb
    have HRD:=hDD hrd
    have HN2:=hDD hne
    obtain⟨wj,rfl⟩: ∃wj:World,wj=wr:=⟨_,rfl⟩
    have hwj:=HBi.out.size
    have hws:w.heap.size<wj.heap.size:=by omega
    have hmv:=misV_len ((r:Int),(n:Int),es) (k:Int) (ls.take m)
    rw[List.length_take] at hmv
    by_cases hlt2:m<ls.length
    ·have HS:=hDD (misV_succ ((r:Int),(n:Int),es) (k:Int) ls m hlt2)
     obtain⟨_,_,hAl,_,hcl'⟩:=hrd.at (by omega)
     obtain⟨rfl,rfl⟩:bl=_∧0=_:=by simpa using hAl
     have c0:=hcl' m hlt2
     rw[Nat.zero_add] at c0
     have HX64:=hDD (HL64.out ls[m] (by simp))
     obtain⟨p0,p1,p2⟩:=HCL.out wj HBi.out
     generalize ls[m]=x at c0 HS HX64
     generalize misV ((r:Int),(n:Int),es) (k:Int) (ls.take m)=LV at*
     have hLV:(L++LV).length≤1000:=by have:=HLL.out;rw[List.length_append];omega
     generalize hLO:L++LV=LO at*
     have HLO:=hDD hLO
     obtain⟨A2,c2,rfl,_⟩:=OwE.form HOi.out
     have HNX:=hDD (fun W' (h:ArgG W' (.agg #[.int .i64 (r:Int), .int .i64 (n:Int), .slice A es.length cap]) ((r:Int),(n:Int),es))=>implNextVertex_any _ ((r:Int),(n:Int),es) (k:Int) x W' h (ONE.out (k:Int) x) HLE1.out)
     clear hcl' hAl ho hb hrd hne hmv hLO
     go_wp2_with fail
     refine(HNX.out wj (HA.out wj HBi.out)).mono ?_
     rintro e wq ⟨rfl,bq⟩
     have sq:=bq.size
     have HQ:=hDD (HBi.out.trans (bq.mono (by omega)))
     have HOQ:=hDD (HOi.out.below bq)
     have HRQ:=hDD (HRD.out.below bq)
     clear bq c0 p0 p1 p2
     rcases ey:decide (nextV es (k:Int) x<0) with _ | _
     ·have hy: ¬nextV es (k:Int) x<0:=by simpa using ey
      have HS2:Hid (L++misV ((r:Int),(n:Int),es) (k:Int) (ls.take (m+1))=LO):=hDD (by rw[HS.out,if_neg hy,List.append_nil];exact HLO.out)
      clear hy
      go_wp2
      go_roundw
      case rel=>exact⟨m+1,by omega,by go_num,by rw[HS2.out];exact HOQ.out,HRQ.out,HN2.out,by omega,HQ.out⟩
      case measure=>simp[intOf];omega
     ·have hy:nextV es (k:Int) x<0:=by simpa using ey
      have HS2:Hid (L++misV ((r:Int),(n:Int),es) (k:Int) (ls.take (m+1))=LO++ [((k:Int),x,-1)]):=hDD (by rw[HS.out,if_pos hy,←List.append_assoc,HLO.out])
      have HE64:Hid (E64 ((k:Int),x,(-1:Int))):=hDD ⟨(by show I64 (k:Int);unfold I64;omega),HX64.out,(show I64 (-1) from⟨by decide,by decide⟩)⟩
      clear hy
      go_wp2_with (at_builtin;refine push_edge rfl (.tmp 31) (.tmp 35) rfl (w.heap.size+1) _ _ (HOQ.out.alloc _) rfl _ ((k:Int),x,(-1:Int)) rfl (edC_new _ _ _) HE64.out (by first | omega | (simp;omega)) (by first | omega | (simp;omega)) ?_;intro v2 wv2 o2 g2 p2;have hz2:=g2.size;simp at hz2;have O2:=hDD o2;have B2:=hDD (bel_pushE HQ.out (show w.heap.size+1≤wq.heap.size by omega) HOQ.out (Nat.le_refl _) g2);have R2:=hDD ((HRQ.out.alloc (Obj.cells #[Value.int IntKind.i64 (k:Int),Value.int IntKind.i64 x,Value.int IntKind.i64 (-1)] 92)).grown g2 (fun b hb hb'=>by simp[Value.ownBlock] at hb;subst hb;exact HN2.out hb'));have N2:Hid (v2.ownBlock≠some bl):=hDD fun e=>(by rcases p2 with p2 | p2<;>rw[p2] at e<;>first | exact HN2.out e | (simp at e;done) | (simp at e;omega));clear o2 g2 p2)
      go_roundw
      case rel=>exact⟨m+1,by omega,by go_num,by rw[HS2.out];exact O2.out,R2.out,N2.out,by omega,B2.out⟩
      case measure=>simp[intOf];omega
    ·obtain rfl:m=ls.length:=by omega
     rw[List.take_length] at HOi
     have HOF:Hid (OwE wj (w.heap.size+1) _ (misU ((r:Int),(n:Int),es) (k+1))):=hDD (by rw[HMSK.out];exact HOi.out)
     obtain⟨A2,c2,rfl,_⟩:=OwE.form HOi.out
     clear ho hb hrd hne hmv
     go_wp2
     go_roundw
     case rel=>exact⟨k+1,by omega,by go_num,HOF.out,HBi.out⟩
     case measure=>simp[intOf];omega
  ·obtain rfl:k=n:=by omega
   have HBF:Hid (Below w.heap.size w wi):=hDD (BX.out.trans (HB.out.mono (by omega)))
   go_wp2
   go_ret
   exact⟨_,rfl,HO.out.mono (by omega),HBF.out⟩
set_option maxHeartbeats 1000000 in
theorem specIsFiniteIndex_any (v:Value) (g:GrD) (w:World) (h:ArgG w v g):
  Calls Tryz.prog 14 #[v] w fun e w'=>e= .returned (.bool (finB g))∧Below w.heap.size w w':=by
 have HG:=hDD h
 obtain⟨s,rfl,hi1,hi2,ha⟩:=h
 obtain⟨A,cap,rfl⟩:=ha.form
 obtain⟨g1,N,es⟩:=g
 simp only at*
 clear ha
 go_enter Tryz.func14,Tryz.ntmps14
 go_wp2_with fail
 obtain⟨W,hW⟩: ∃W,W=w.alloc (Obj.cells #[Value.int IntKind.i64 g1,Value.int IntKind.i64 N, .slice A es.length cap] 26):=⟨_,rfl⟩
 obtain⟨hsW,b1,hc1,_⟩:=gbox hW
 rw[←hW]
 have BX:=hDD b1
 have HCL:=hDD hc1
 have HA:Hid (∀w',Below (w.heap.size+1) W w'→ArgG w' (.agg #[.int .i64 g1, .int .i64 N, .slice A es.length cap]) (g1,N,es)):=hDD fun w' hb=>HG.out.below (BX.out.trans (hb.mono (by omega)))
 clear hW b1 hc1
 refine(specIsSubgroup_any _ (g1,N,es) W (HA.out W ((Below.refl W.heap.size W).mono (by omega)))).mono ?_
 rintro e w2 ⟨rfl,b2⟩
 have hs2:=b2.size
 have B2:Hid (Below (w.heap.size+1) W w2):=hDD (b2.mono (by omega))
 clear b2
 obtain⟨q0,q1,q2⟩:=HCL.out w2 B2.out
 rcases ec:coreB (g1,N,es) with _ | _
 ·have F:Hid (finB (g1,N,es)=false):=hDD (by unfold finB;rw[ec];rfl)
  have HBF:Hid (Below w.heap.size w w2):=hDD (BX.out.trans (B2.out.mono (by omega)))
  clear ec
  go_wp2
  go_ret
  exact⟨ret_bool F.out.symm,HBF.out⟩
 ·have hfold:foldB (g1,N,es)=true:=by have h:=ec;unfold coreB at h;simp only[Bool.and_eq_true] at h;exact h.1.1
  have F:Hid (finB (g1,N,es)=decide ((misU (g1,N,es) N.toNat).length=0)):=hDD (by unfold finB;rw[ec];rfl)
  have HML:=hDD (specMissingSteps_any _ (g1,N,es) w2 (HA.out w2 B2.out) hfold)
  clear ec hfold
  go_wp2_with fail
  refine HML.out.mono ?_
  rintro e w3 ⟨r3,rfl,o3,b3⟩
  have hs3:=b3.size
  have HBF:Hid (Below w.heap.size w w3):=hDD (BX.out.trans ((B2.out.trans (b3.mono (by omega))).mono (by omega)))
  obtain⟨A3,c3,rfl,_⟩:=o3.form
  simp only at*
  generalize (misU (g1,N,es) N.toNat).length=M at*
  clear o3 b3 q0 q1 q2 HML
  rcases eM:decide (M=0) with _ | _
  ·have hM: ¬M=0:=by simpa using eM
   have hMi: ¬(M:Int)=0:=by omega
   clear hM
   go_wp2
   go_ret
   exact⟨ret_bool (by rw[F.out,eM];simpa using hMi),HBF.out⟩
  ·obtain rfl:M=0:=by simpa using eM
   go_wp2
   go_ret
   exact⟨ret_bool (by rw[F.out,eM]),HBF.out⟩
set_option maxHeartbeats 1000000 in
theorem implIsFiniteIndex_any (v:Value) (g:GrD) (w:World) (h:ArgG w v g):
  Calls Tryz.prog 23 #[v] w fun e w'=>e= .returned (.bool (finB g))∧Below w.heap.size w w':=by
 have HG:=hDD h
 obtain⟨s,rfl,hi1,hi2,ha⟩:=h
 obtain⟨A,cap,rfl⟩:=ha.form
 obtain⟨g1,N,es⟩:=g
 simp only at*
 clear ha
 go_enter Tryz.func23,Tryz.ntmps23
 go_wp2_with fail
 obtain⟨W,hW⟩: ∃W,W=w.alloc (Obj.cells #[Value.int IntKind.i64 g1,Value.int IntKind.i64 N, .slice A es.length cap] 26):=⟨_,rfl⟩
 obtain⟨hsW,b1,hc1,_⟩:=gbox hW
 rw[←hW]
 have BX:=hDD b1
 have HCL:=hDD hc1
 have HA:Hid (∀w',Below (w.heap.size+1) W w'→ArgG w' (.agg #[.int .i64 g1, .int .i64 N, .slice A es.length cap]) (g1,N,es)):=hDD fun w' hb=>HG.out.below (BX.out.trans (hb.mono (by omega)))
 clear hW b1 hc1
 refine(implIsCore_any _ (g1,N,es) W (HA.out W ((Below.refl W.heap.size W).mono (by omega)))).mono ?_
 rintro e w2 ⟨rfl,b2⟩
 have hs2:=b2.size
 have B2:Hid (Below (w.heap.size+1) W w2):=hDD (b2.mono (by omega))
 clear b2
 obtain⟨q0,q1,q2⟩:=HCL.out w2 B2.out
 rcases ec:coreB (g1,N,es) with _ | _
 ·have F:Hid (finB (g1,N,es)=false):=hDD (by unfold finB;rw[ec];rfl)
  have HBF:Hid (Below w.heap.size w w2):=hDD (BX.out.trans (B2.out.mono (by omega)))
  clear ec
  go_wp2
  go_ret
  exact⟨ret_bool F.out.symm,HBF.out⟩
 ·have hfold:foldB (g1,N,es)=true:=by have h:=ec;unfold coreB at h;simp only[Bool.and_eq_true] at h;exact h.1.1
  have F:Hid (finB (g1,N,es)=decide ((misU (g1,N,es) N.toNat).length=0)):=hDD (by unfold finB;rw[ec];rfl)
  have HML:=hDD (implMissingSteps_any _ (g1,N,es) w2 (HA.out w2 B2.out) hfold)
  clear ec hfold
  go_wp2_with fail
  refine HML.out.mono ?_
  rintro e w3 ⟨r3,rfl,o3,b3⟩
  have hs3:=b3.size
  have HBF:Hid (Below w.heap.size w w3):=hDD (BX.out.trans ((B2.out.trans (b3.mono (by omega))).mono (by omega)))
  obtain⟨A3,c3,rfl,_⟩:=o3.form
  simp only at*
  generalize (misU (g1,N,es) N.toNat).length=M at*
  clear o3 b3 q0 q1 q2 HML
  rcases eM:decide (M=0) with _ | _
  ·have hM: ¬M=0:=by simpa using eM
   have hMi: ¬(M:Int)=0:=by omega
   clear hM
   go_wp2
   go_ret
   exact⟨ret_bool (by rw[F.out,eM];simpa using hMi),HBF.out⟩
  ·obtain rfl:M=0:=by simpa using eM
   go_wp2
   go_ret
   exact⟨ret_bool (by rw[F.out,eM]),HBF.out⟩
end Go.Proofs.YteobmaambgmdbaaGreat
