/- Parts of the proof: Conj, BasS, LawE, IdxW, Ctn, PowQ, IdxZ, IdxX, AddI, Dcl, IdxU, IdxP, NorP, ConP. -/
import Derived.Test.YteobmaambgmdbaaGreatN06
import Derived.Test.YteobmaambgmdbaaGreatN07
import Derived.Deep.RegionHeld3
import Derived.Test.YteobmaambgmdbaaGreatN02
import Derived.Test.YteobmaambgmdbaaGreatN01
namespace Go.Proofs.YteobmaambgmdbaaGreat
set_option maxRecDepth 20000
set_option linter.unusedVariables false
set_option linter.unusedSimpArgs false
open Go.RowKit
def misV (g:GrD) (v:Int) (ls:List Int):List EdD:=(ls.filter fun x=>decide (nextV g.2.2 v x<0)).map fun x=>(v,x,-1)
def misU (g:GrD):Nat→List EdD
 | 0=> []
 | k+1=>misU g k++misV g (k:Int) (lettersL g.1.toNat)
def finB (g:GrD):Bool:=coreB g&&decide ((misU g g.2.1.toNat).length=0)
theorem misV_succ (g:GrD) (v:Int) (ls:List Int) (j:Nat) (h:j<ls.length):misV g v (ls.take (j+1))=misV g v (ls.take j)++if nextV g.2.2 v ls[j]<0 then [(v,ls[j],-1)] else []:=by
 unfold misV
 rw[List.take_succ_eq_append_getElem h,List.filter_append,List.map_append]
 congr 1
 split
 ·rename_i h1;simp[h1]
 ·rename_i h1;simp[h1]
theorem misV_len (g:GrD) (v:Int) (ls:List Int):(misV g v ls).length≤ls.length:=by
 unfold misV
 rw[List.length_map]
 exact List.length_filter_le _ _
theorem misU_len (g:GrD): ∀k,(misU g k).length≤k*(2*g.1.toNat)
 | 0=>by simp[misU]
 | k+1=>by
   have h1:=misU_len g k
   have h2:=misV_len g (k:Int) (lettersL g.1.toNat)
   rw[lettersL_len] at h2
   unfold misU
   rw[List.length_append,Nat.succ_mul]
   omega
def conU (g:GrD):Nat→List GrD
 | 0=> []
 | u+1=>addGs (conU g u) (movG g u)
def conF (g:GrD):List GrD:=if finB g=true then conU g g.2.1.toNat else []
theorem conU_len (g:GrD): ∀u,(conU g u).length≤u
 | 0=>Nat.le_refl _
 | u+1=>Nat.le_trans (addGs_len _ _) (Nat.succ_le_succ (conU_len g u))
theorem finB_fold {g:GrD} (h:finB g=true):foldB g=true:=by
 unfold finB at h
 have h:=(Bool.and_eq_true_iff.1 h).1
 unfold coreB at h;simp only[Bool.and_eq_true] at h;exact h.1.1
theorem inG_take (l:List GrD) (x:GrD) (j:Nat) (h:j<l.length):inG (l.take (j+1)) x=(inG (l.take j) x||decide (l[j]=x)):=by
 rw[List.take_succ_eq_append_getElem h]
 unfold inG
 simp only[List.mem_append,List.mem_singleton,Bool.decide_or]
 congr 1
 exact decide_eq_decide.2 ⟨Eq.symm,Eq.symm⟩
set_option maxHeartbeats 2000000 in
theorem specMissingSteps_any (v:Value) (g:GrD) (w:World) (h:ArgG w v g) (hf:foldB g=true):
  Calls Tryz.prog 42 #[v] w fun e w'=> ∃r,e= .returned r∧OwE w' w.heap.size r (misU g g.2.1.toNat)∧Below w.heap.size w w':=by
 have HG:=hDD h
 have HF:=hDD hf
 have hgr:=(foldB_parts hf).1
 have ONE:=hDD (steps_one (foldB_parts hf).2)
 obtain⟨h13,h40,h120,_⟩:=grB_parts hgr
 obtain⟨n,hn⟩: ∃n:Nat,g.2.1=(n:Int):=⟨g.2.1.toNat,by omega⟩
 obtain⟨r,hr⟩: ∃r:Nat,g.1=(r:Int):=⟨g.1.toNat,by omega⟩
 obtain⟨s,rfl,hi1,hi2,ha⟩:=h
 obtain⟨A,cap,rfl⟩:=ha.form
 obtain⟨g1,N,es⟩:=g
 simp only at*
 subst hn hr
 have HMS:Hid (∀k,misU ((r:Int),(n:Int),es) (k+1)=misU ((r:Int),(n:Int),es) k++misV ((r:Int),(n:Int),es) (k:Int) (lettersL r)):=hDD fun k=>rfl
 have HML:Hid (∀k,(misU ((r:Int),(n:Int),es) k).length≤k*(2*r)):=hDD fun k=>misU_len _ k
 have HLL:=hDD (lettersL_len r)
 have hl64:=lettersL_I64 (n:=r) (by omega)
 have HLE:=hDD (fun W=>l5Letters_any r W (by omega))
 clear ha hf hgr
 simp only[Int.toNat_natCast]
 generalize lettersL r=ls at*
 have HL64:=hDD hl64
 clear hl64
 go_enter Tryz.func42,Tryz.ntmps42
 go_wp2_with fail
 obtain⟨W1,hW1⟩: ∃W,W=w.alloc (Obj.cells #[Value.int IntKind.i64 (r:Int),Value.int IntKind.i64 (n:Int), .slice A es.length cap] 26):=⟨_,rfl⟩
 obtain⟨hs1,b1,hc1,_⟩:=gbox hW1
 obtain⟨W,hW⟩: ∃W,W=W1.alloc (Obj.cells #[] 92):=⟨_,rfl⟩
 have b2:Below W1.heap.size W1 W:=by rw[hW];exact(Below.refl _ _).alloc (Nat.le_refl _) _
 have hsW:W.heap.size=w.heap.size+2:=by rw[hW];simp;omega
 have o0:OwE W (w.heap.size+1) (.slice (some ⟨w.heap.size+1,0,none⟩) 0 0) []:=by rw[hW];exact OwE_litN W1 (w.heap.size+1) hs1 (Nat.le_refl _)
 rw[←hW1,←hW]
 have BX:Hid (Below w.heap.size w W):=hDD (b1.trans (b2.mono (by omega)))
 have B12:=hDD (b2.mono (show w.heap.size+1≤W1.heap.size by omega))
 have HC1:=hDD hc1
 have HCL:Hid (∀w',Below (w.heap.size+1) W w'→w'.cell? ⟨w.heap.size,0,none⟩=some (.int .i64 (r:Int))∧w'.cell? ⟨w.heap.size,1,none⟩=some (.int .i64 (n:Int))∧w'.cell? ⟨w.heap.size,2,none⟩=some (.slice A es.length cap)):=hDD fun w' hb=>HC1.out w' (B12.out.trans hb)
 have HA:Hid (∀w',Below (w.heap.size+1) W w'→ArgG w' (.agg #[.int .i64 (r:Int), .int .i64 (n:Int), .slice A es.length cap]) ((r:Int),(n:Int),es)):=hDD fun w' hb=>HG.out.below (BX.out.trans (hb.mono (by omega)))
 have HFO:Hid (∀w',Below (w.heap.size+1) W w'→Calls Tryz.prog 94 #[.agg #[.int .i64 (r:Int), .int .i64 (n:Int), .slice A es.length cap]] w' fun e w''=>e= .returned (.bool true)∧Below w'.heap.size w' w''):=hDD fun w' hb=>by
  have h:=specIsFolded_any _ _ w' (HA.out w' hb)
  rw[HF.out] at h
  exact h
 have O0:=hDD o0
 clear hW1 hW hc1 b1 b2 HC1 o0
 go_loopw [3,4] (fun vo i wr=> ∃k:Nat,k≤n∧i= .int .i64 k∧OwE wr (w.heap.size+1) vo (misU ((r:Int),(n:Int),es) k)∧Below (w.heap.size+1) W wr) (fun _ i _=>n-(intOf i).toNat)
 case atStart=>exact⟨0,Nat.zero_le _,rfl,O0.out,(Below.refl W.heap.size W).mono (by omega)⟩
 case round=>
  obtain⟨k,hk,rfl,ho,hb⟩:=hrel
  have HO:=hDD ho
  have HB:=hDD hb
  obtain⟨wi,rfl⟩: ∃wi:World,wi=wr:=⟨_,rfl⟩
  clear ho hb
  have hwi:=HB.out.size
  obtain⟨q0,q1,q2⟩:=HCL.out wi HB.out
  obtain⟨Ao,co,rfl,_⟩:=OwE.form HO.out
  by_cases hlt:k<n
  ·have hkI:(k:Int)<(n:Int):=by omega
   go_wp2_with fail
   refine(HFO.out wi HB.out).mono ?_
   rintro e w3 ⟨rfl,b3⟩
   have hs3:=b3.size
   have HO3:=hDD (HO.out.below b3)
   have HB3:=hDD (HB.out.trans (b3.mono (by omega)))
   clear b3 q0 q1 q2
   obtain⟨q0,q1,q2⟩:=HCL.out w3 HB3.out
   go_wp2_with fail
   refine(HLE.out w3).mono ?_
   rintro e w4 ⟨rl,rfl,ol,b4⟩
   have hs4:=b4.size
   have HO4:=hDD (HO3.out.below b4)
   have HB4:=hDD (HB3.out.trans (b4.mono (by omega)))
   obtain⟨Al,cl_,rfl,hcl,hml,_,hgl⟩:=OwI.form ol
   have hlen:0<ls.length:=by have:=HLL.out;omega
   obtain⟨bl,rfl,hbl1,hbl2⟩:=hgl hlen
   unfold maxLen at hml
   have OL:=hDD ol.rd
   have HNE:Hid ((Value.slice Ao (misU ((r:Int),(n:Int),es) k).length co).ownBlock≠some bl):=hDD fun e=>by have:=(HO3.out.1.lt bl e).2;omega
   have HMK:=hDD (HML.out k)
   have HMSK:=hDD (HMS.out k)
   have hkr:k*(2*r)≤40*6:=Nat.mul_le_mul (by omega) (by omega)
   generalize misU ((r:Int),(n:Int),es) k=L at*
   have hLl:L.length≤240:=by have:=HMK.out;omega
   clear ol b4 hgl q0 q1 q2 HO3 HB3 HMK hkr
   go_wp2
   go_loopw [3,6] (fun vo j wr=> ∃m:Nat,m≤ls.length∧j= .int .i64 m∧OwE wr (w.heap.size+1) vo (L++misV ((r:Int),(n:Int),es) (k:Int) (ls.take m))∧RdI wr (.slice (some ⟨bl,0,none⟩) ls.length cl_) ls∧vo.ownBlock≠some bl∧bl<wr.heap.size∧Below (w.heap.size+1) W wr) (fun _ j _=>ls.length-(intOf j).toNat)
   case atStart=>exact⟨0,Nat.zero_le _,rfl,by simpa[misV] using HO4.out,OL.out,HNE.out,hbl2,HB4.out⟩
   case round=>
    obtain⟨m,hm,rfl,ho,hrd,hne,hblr,hb⟩:=hrel
    have HOi:=hDD ho
    have HBi:=hDD hb
    have HRD:=hDD hrd
    have HN2:=hDD hne
    obtain⟨wj,rfl⟩: ∃wj:World,wj=wr:=⟨_,rfl⟩
    have hwj:=HBi.out.size
    have hws:w.heap.size<wj.heap.size:=by omega
    have hmv:=misV_len ((r:Int),(n:Int),es) (k:Int) (ls.take m)
    rw[List.length_take] at hmv
    by_cases hlt2:m<ls.length
    ·have HS:=hDD (misV_succ ((r:Int),(n:Int),es) (k:Int) ls m hlt2)
     obtain⟨_,_,hAl,_,hcl'⟩:=hrd.at (by omega)
     obtain⟨rfl,rfl⟩:bl=_∧0=_:=by simpa using hAl
     have c0:=hcl' m hlt2
     rw[Nat.zero_add] at c0
     have HX64:=hDD (HL64.out ls[m] (by simp))
     obtain⟨p0,p1,p2⟩:=HCL.out wj HBi.out
     generalize ls[m]=x at c0 HS HX64
     generalize misV ((r:Int),(n:Int),es) (k:Int) (ls.take m)=LV at*
     have hLV:(L++LV).length≤1000:=by have:=HLL.out;rw[List.length_append];omega
     generalize hLO:L++LV=LO at*
     have HLO:=hDD hLO
     obtain⟨A2,c2,rfl,_⟩:=OwE.form HOi.out
     have HNX:=hDD (fun W' (h:ArgG W' (.agg #[.int .i64 (r:Int), .int .i64 (n:Int), .slice A es.length cap]) ((r:Int),(n:Int),es))=>specNextVertex_any _ ((r:Int),(n:Int),es) (k:Int) x W' h (ONE.out (k:Int) x))
     clear hcl' hAl ho hb hrd hne hmv hLO
     go_wp2_with fail
     have f0:=BelW.cell p0 hws
     have f1:=BelW.cell p1 hws
     have f2:=BelW.cell p2 hws
     have f3:=BelW.cell c0 hblr
     (refine wp_region_quiet_bel (by kernel_rfl) (by kernel_rfl) ?_;(repeat(go_big_quiet_step (first | (go_at_call 83;exact Calls.bel_of (HNX.out _ (HA.out _ (HBi.out.trans ((BelW.h _).mono (by omega)))))))));refine wpQuiet_nil ?_;intro wq hw';obtain⟨pq,hw''⟩:=hw';have bq:=pq.h;rw[←hw''] at bq;clear hw'' pq)
     clear f0 f1 f2 f3 p0 p1 p2
     have sq:=bq.size
     have c1:=(bq.cell (p:=⟨bl,m,none⟩) hblr).trans c0
     have HQ:=hDD (HBi.out.trans (bq.mono (by omega)))
     have HOQ:=hDD (HOi.out.below bq)
     have HRQ:=hDD (HRD.out.below bq)
     clear bq c0
     rcases ey:decide (nextV es (k:Int) x<0) with _ | _
     ·have hy: ¬nextV es (k:Int) x<0:=by simpa using ey
      have HS2:Hid (L++misV ((r:Int),(n:Int),es) (k:Int) (ls.take (m+1))=LO):=hDD (by rw[HS.out,if_neg hy,List.append_nil];exact HLO.out)
      clear hy
      go_wp2
      go_roundw
      case rel=>exact⟨m+1,by omega,by go_num,by rw[HS2.out];exact HOQ.out,HRQ.out,HN2.out,by omega,HQ.out⟩
      case measure=>simp[intOf];omega
     ·have hy:nextV es (k:Int) x<0:=by simpa using ey
      have HS2:Hid (L++misV ((r:Int),(n:Int),es) (k:Int) (ls.take (m+1))=LO++ [((k:Int),x,-1)]):=hDD (by rw[HS.out,if_pos hy,←List.append_assoc,HLO.out])
      have HE64:Hid (E64 ((k:Int),x,(-1:Int))):=hDD ⟨(by show I64 (k:Int);unfold I64;omega),HX64.out,(show I64 (-1) from⟨by decide,by decide⟩)⟩
      clear hy
      go_wp2_with (at_builtin;refine push_edge rfl (.tmp 35) (.tmp 42) rfl (w.heap.size+1) _ _ (HOQ.out.alloc _) rfl _ ((k:Int),x,(-1:Int)) rfl (edC_new _ _ _) HE64.out (by first | omega | (simp;omega)) (by first | omega | (simp;omega)) ?_;intro v2 wv2 o2 g2 p2;have hz2:=g2.size;simp at hz2;have O2:=hDD o2;have B2:=hDD (bel_pushE HQ.out (show w.heap.size+1≤wq.heap.size by omega) HOQ.out (Nat.le_refl _) g2);have R2:=hDD ((HRQ.out.alloc (Obj.cells #[Value.int IntKind.i64 (k:Int),Value.int IntKind.i64 x,Value.int IntKind.i64 (-1)] 92)).grown g2 (fun b hb hb'=>by simp[Value.ownBlock] at hb;subst hb;exact HN2.out hb'));have N2:Hid (v2.ownBlock≠some bl):=hDD fun e=>(by rcases p2 with p2 | p2<;>rw[p2] at e<;>first | exact HN2.out e | (simp at e;done) | (simp at e;omega));clear o2 g2 p2)
      go_roundw
      case rel=>exact⟨m+1,by omega,by go_num,by rw[HS2.out];exact O2.out,R2.out,N2.out,by omega,B2.out⟩
      case measure=>simp[intOf];omega
    ·obtain rfl:m=ls.length:=by omega
     rw[List.take_length] at HOi
     have HOF:Hid (OwE wj (w.heap.size+1) _ (misU ((r:Int),(n:Int),es) (k+1))):=hDD (by rw[HMSK.out];exact HOi.out)
     obtain⟨A2,c2,rfl,_⟩:=OwE.form HOi.out
     clear ho hb hrd hne hmv
     go_wp2
     go_roundw
     case rel=>exact⟨k+1,by omega,by go_num,HOF.out,HBi.out⟩
     case measure=>simp[intOf];omega
  ·obtain rfl:k=n:=by omega
   have HBF:Hid (Below w.heap.size w wi):=hDD (BX.out.trans (HB.out.mono (by omega)))
   go_wp2
   go_ret
   exact⟨_,rfl,HO.out.mono (by omega),HBF.out⟩
set_option maxHeartbeats 2000000 in
theorem implMissingSteps_any (v:Value) (g:GrD) (w:World) (h:ArgG w v g) (hf:foldB g=true):
  Calls Tryz.prog 41 #[v] w fun e w'=> ∃r,e= .returned r∧OwE w' w.heap.size r (misU g g.2.1.toNat)∧Below w.heap.size w w':=by
 have HG:=hDD h
 have HF:=hDD hf
 have hgr:=(foldB_parts hf).1
 have HLE1:=hDD (fun e he=>(edge_of_gr hgr (e:=e) he).2.1.1)
 have ONE:=hDD (steps_one (foldB_parts hf).2)
 obtain⟨h13,h40,h120,_⟩:=grB_parts hgr
 obtain⟨n,hn⟩: ∃n:Nat,g.2.1=(n:Int):=⟨g.2.1.toNat,by omega⟩
 obtain⟨r,hr⟩: ∃r:Nat,g.1=(r:Int):=⟨g.1.toNat,by omega⟩
 obtain⟨s,rfl,hi1,hi2,ha⟩:=h
 obtain⟨A,cap,rfl⟩:=ha.form
 obtain⟨g1,N,es⟩:=g
 simp only at*
 subst hn hr
 have HMS:Hid (∀k,misU ((r:Int),(n:Int),es) (k+1)=misU ((r:Int),(n:Int),es) k++misV ((r:Int),(n:Int),es) (k:Int) (lettersL r)):=hDD fun k=>rfl
 have HML:Hid (∀k,(misU ((r:Int),(n:Int),es) k).length≤k*(2*r)):=hDD fun k=>misU_len _ k
 have HLL:=hDD (lettersL_len r)
 have hl64:=lettersL_I64 (n:=r) (by omega)
 have HLE:=hDD (fun W=>letters_any r W (by omega))
 clear ha hf hgr
 simp only[Int.toNat_natCast]
 generalize lettersL r=ls at*
 have HL64:=hDD hl64
 clear hl64
 go_enter Tryz.func41,Tryz.ntmps41
 go_wp2_with fail
 obtain⟨W1,hW1⟩: ∃W,W=w.alloc (Obj.cells #[Value.int IntKind.i64 (r:Int),Value.int IntKind.i64 (n:Int), .slice A es.length cap] 26):=⟨_,rfl⟩
 obtain⟨hs1,b1,hc1,_⟩:=gbox hW1
 obtain⟨W,hW⟩: ∃W,W=W1.alloc (Obj.cells #[] 92):=⟨_,rfl⟩
 have b2:Below W1.heap.size W1 W:=by rw[hW];exact(Below.refl _ _).alloc (Nat.le_refl _) _
 have hsW:W.heap.size=w.heap.size+2:=by rw[hW];simp;omega
 have o0:OwE W (w.heap.size+1) (.slice (some ⟨w.heap.size+1,0,none⟩) 0 0) []:=by rw[hW];exact OwE_litN W1 (w.heap.size+1) hs1 (Nat.le_refl _)
 rw[←hW1,←hW]
 have BX:Hid (Below w.heap.size w W):=hDD (b1.trans (b2.mono (by omega)))
 have B12:=hDD (b2.mono (show w.heap.size+1≤W1.heap.size by omega))
 have HC1:=hDD hc1
 have HCL:Hid (∀w',Below (w.heap.size+1) W w'→w'.cell? ⟨w.heap.size,0,none⟩=some (.int .i64 (r:Int))∧w'.cell? ⟨w.heap.size,1,none⟩=some (.int .i64 (n:Int))∧w'.cell? ⟨w.heap.size,2,none⟩=some (.slice A es.length cap)):=hDD fun w' hb=>HC1.out w' (B12.out.trans hb)
 have HA:Hid (∀w',Below (w.heap.size+1) W w'→ArgG w' (.agg #[.int .i64 (r:Int), .int .i64 (n:Int), .slice A es.length cap]) ((r:Int),(n:Int),es)):=hDD fun w' hb=>HG.out.below (BX.out.trans (hb.mono (by omega)))
 have HFO:Hid (∀w',Below (w.heap.size+1) W w'→Calls Tryz.prog 93 #[.agg #[.int .i64 (r:Int), .int .i64 (n:Int), .slice A es.length cap]] w' fun e w''=>e= .returned (.bool true)∧Below w'.heap.size w' w''):=hDD fun w' hb=>by
  have h:=implIsFolded_any _ _ w' (HA.out w' hb)
  rw[HF.out] at h
  exact h
 have O0:=hDD o0
 clear hW1 hW hc1 b1 b2 HC1 o0
 go_wp2_with fail
 refine(HFO.out W ((Below.refl W.heap.size W).mono (by omega))).mono ?_
 rintro e w3 ⟨rfl,b3⟩
 have hs3:=b3.size
 have O3:=hDD (O0.out.below b3)
 have B3:Hid (Below (w.heap.size+1) W w3):=hDD (b3.mono (by omega))
 clear b3
 go_wp2
 go_loopw [3,4] (fun vo i wr=> ∃k:Nat,k≤n∧i= .int .i64 k∧OwE wr (w.heap.size+1) vo (misU ((r:Int),(n:Int),es) k)∧Below (w.heap.size+1) W wr) (fun _ i _=>n-(intOf i).toNat)
 case atStart=>exact⟨0,Nat.zero_le _,rfl,O3.out,B3.out⟩
 case round=>
  obtain⟨k,hk,rfl,ho,hb⟩:=hrel
  have HO:=hDD ho
  have HB:=hDD hb
  obtain⟨wi,rfl⟩: ∃wi:World,wi=wr:=⟨_,rfl⟩
  clear ho hb
  have hwi:=HB.out.size
  obtain⟨q0,q1,q2⟩:=HCL.out wi HB.out
  obtain⟨Ao,co,rfl,_⟩:=OwE.form HO.out
  by_cases hlt:k<n
  ·have hkI:(k:Int)<(n:Int):=by omega
   go_wp2_with fail
   refine(HLE.out wi).mono ?_
   rintro e w4 ⟨rl,rfl,ol,b4⟩
   have hs4:=b4.size
   have HO4:=hDD (HO.out.below b4)
   have HB4:=hDD (HB.out.trans (b4.mono (by omega)))
   obtain⟨Al,cl_,rfl,hcl,hml,_,hgl⟩:=OwI.form ol
   have hlen:0<ls.length:=by have:=HLL.out;omega
   obtain⟨bl,rfl,hbl1,hbl2⟩:=hgl hlen
   unfold maxLen at hml
   have OL:=hDD ol.rd
   have HNE:Hid ((Value.slice Ao (misU ((r:Int),(n:Int),es) k).length co).ownBlock≠some bl):=hDD fun e=>by have:=(HO.out.1.lt bl e).2;omega
   have HMK:=hDD (HML.out k)
   have HMSK:=hDD (HMS.out k)
   have hkr:k*(2*r)≤40*6:=Nat.mul_le_mul (by omega) (by omega)
   generalize misU ((r:Int),(n:Int),es) k=L at*
   have hLl:L.length≤240:=by have:=HMK.out;omega
   clear ol b4 hgl q0 q1 q2 HMK hkr
   go_wp2
   go_loopw [3,22] (fun vo j wr=> ∃m:Nat,m≤ls.length∧j= .int .i64 m∧OwE wr (w.heap.size+1) vo (L++misV ((r:Int),(n:Int),es) (k:Int) (ls.take m))∧RdI wr (.slice (some ⟨bl,0,none⟩) ls.length cl_) ls∧vo.ownBlock≠some bl∧bl<wr.heap.size∧Below (w.heap.size+1) W wr) (fun _ j _=>ls.length-(intOf j).toNat)
   case atStart=>exact⟨0,Nat.zero_le _,rfl,by simpa[misV] using HO4.out,OL.out,HNE.out,hbl2,HB4.out⟩
   case round=>
    obtain⟨m,hm,rfl,ho,hrd,hne,hblr,hb⟩:=hrel
    have HOi:=hDD ho
    have HBi:=hDD hb
    have HRD:=hDD hrd
    have HN2:=hDD hne
    obtain⟨wj,rfl⟩: ∃wj:World,wj=wr:=⟨_,rfl⟩
    have hwj:=HBi.out.size
    have hws:w.heap.size<wj.heap.size:=by omega
    have hmv:=misV_len ((r:Int),(n:Int),es) (k:Int) (ls.take m)
    rw[List.length_take] at hmv
    by_cases hlt2:m<ls.length
    ·have HS:=hDD (misV_succ ((r:Int),(n:Int),es) (k:Int) ls m hlt2)
     obtain⟨_,_,hAl,_,hcl'⟩:=hrd.at (by omega)
     obtain⟨rfl,rfl⟩:bl=_∧0=_:=by simpa using hAl
     have c0:=hcl' m hlt2
     rw[Nat.zero_add] at c0
     have HX64:=hDD (HL64.out ls[m] (by simp))
     obtain⟨p0,p1,p2⟩:=HCL.out wj HBi.out
     generalize ls[m]=x at c0 HS HX64
     generalize misV ((r:Int),(n:Int),es) (k:Int) (ls.take m)=LV at*
     have hLV:(L++LV).length≤1000:=by have:=HLL.out;rw[List.length_append];omega
     generalize hLO:L++LV=LO at*
     have HLO:=hDD hLO
     obtain⟨A2,c2,rfl,_⟩:=OwE.form HOi.out
     have HNX:=hDD (fun W' (h:ArgG W' (.agg #[.int .i64 (r:Int), .int .i64 (n:Int), .slice A es.length cap]) ((r:Int),(n:Int),es))=>implNextVertex_any _ ((r:Int),(n:Int),es) (k:Int) x W' h (ONE.out (k:Int) x) HLE1.out)
     clear hcl' hAl ho hb hrd hne hmv hLO
     go_wp2_with fail
     refine(HNX.out wj (HA.out wj HBi.out)).mono ?_
     rintro e wq ⟨rfl,bq⟩
     have sq:=bq.size
     have HQ:=hDD (HBi.out.trans (bq.mono (by omega)))
     have HOQ:=hDD (HOi.out.below bq)
     have HRQ:=hDD (HRD.out.below bq)
     clear bq c0 p0 p1 p2
     rcases ey:decide (nextV es (k:Int) x<0) with _ | _
     ·have hy: ¬nextV es (k:Int) x<0:=by simpa using ey
      have HS2:Hid (L++misV ((r:Int),(n:Int),es) (k:Int) (ls.take (m+1))=LO):=hDD (by rw[HS.out,if_neg hy,List.append_nil];exact HLO.out)
      clear hy
      go_wp2
      go_roundw
      case rel=>exact⟨m+1,by omega,by go_num,by rw[HS2.out];exact HOQ.out,HRQ.out,HN2.out,by omega,HQ.out⟩
      case measure=>simp[intOf];omega
     ·have hy:nextV es (k:Int) x<0:=by simpa using ey
      have HS2:Hid (L++misV ((r:Int),(n:Int),es) (k:Int) (ls.take (m+1))=LO++ [((k:Int),x,-1)]):=hDD (by rw[HS.out,if_pos hy,←List.append_assoc,HLO.out])
      have HE64:Hid (E64 ((k:Int),x,(-1:Int))):=hDD ⟨(by show I64 (k:Int);unfold I64;omega),HX64.out,(show I64 (-1) from⟨by decide,by decide⟩)⟩
      clear hy
      go_wp2_with (at_builtin;refine push_edge rfl (.tmp 31) (.tmp 35) rfl (w.heap.size+1) _ _ (HOQ.out.alloc _) rfl _ ((k:Int),x,(-1:Int)) rfl (edC_new _ _ _) HE64.out (by first | omega | (simp;omega)) (by first | omega | (simp;omega)) ?_;intro v2 wv2 o2 g2 p2;have hz2:=g2.size;simp at hz2;have O2:=hDD o2;have B2:=hDD (bel_pushE HQ.out (show w.heap.size+1≤wq.heap.size by omega) HOQ.out (Nat.le_refl _) g2);have R2:=hDD ((HRQ.out.alloc (Obj.cells #[Value.int IntKind.i64 (k:Int),Value.int IntKind.i64 x,Value.int IntKind.i64 (-1)] 92)).grown g2 (fun b hb hb'=>by simp[Value.ownBlock] at hb;subst hb;exact HN2.out hb'));have N2:Hid (v2.ownBlock≠some bl):=hDD fun e=>(by rcases p2 with p2 | p2<;>rw[p2] at e<;>first | exact HN2.out e | (simp at e;done) | (simp at e;omega));clear o2 g2 p2)
      go_roundw
      case rel=>exact⟨m+1,by omega,by go_num,by rw[HS2.out];exact O2.out,R2.out,N2.out,by omega,B2.out⟩
      case measure=>simp[intOf];omega
    ·obtain rfl:m=ls.length:=by omega
     rw[List.take_length] at HOi
     have HOF:Hid (OwE wj (w.heap.size+1) _ (misU ((r:Int),(n:Int),es) (k+1))):=hDD (by rw[HMSK.out];exact HOi.out)
     obtain⟨A2,c2,rfl,_⟩:=OwE.form HOi.out
     clear ho hb hrd hne hmv
     go_wp2
     go_roundw
     case rel=>exact⟨k+1,by omega,by go_num,HOF.out,HBi.out⟩
     case measure=>simp[intOf];omega
  ·obtain rfl:k=n:=by omega
   have HBF:Hid (Below w.heap.size w wi):=hDD (BX.out.trans (HB.out.mono (by omega)))
   go_wp2
   go_ret
   exact⟨_,rfl,HO.out.mono (by omega),HBF.out⟩
set_option maxHeartbeats 1000000 in
theorem specIsFiniteIndex_any (v:Value) (g:GrD) (w:World) (h:ArgG w v g):
  Calls Tryz.prog 14 #[v] w fun e w'=>e= .returned (.bool (finB g))∧Below w.heap.size w w':=by
 have HG:=hDD h
 obtain⟨s,rfl,hi1,hi2,ha⟩:=h
 obtain⟨A,cap,rfl⟩:=ha.form
 obtain⟨g1,N,es⟩:=g
 simp only at*
 clear ha
 go_enter Tryz.func14,Tryz.ntmps14
 go_wp2_with fail
 obtain⟨W,hW⟩: ∃W,W=w.alloc (Obj.cells #[Value.int IntKind.i64 g1,Value.int IntKind.i64 N, .slice A es.length cap] 26):=⟨_,rfl⟩
 obtain⟨hsW,b1,hc1,_⟩:=gbox hW
 rw[←hW]
 have BX:=hDD b1
 have HCL:=hDD hc1
 have HA:Hid (∀w',Below (w.heap.size+1) W w'→ArgG w' (.agg #[.int .i64 g1, .int .i64 N, .slice A es.length cap]) (g1,N,es)):=hDD fun w' hb=>HG.out.below (BX.out.trans (hb.mono (by omega)))
 clear hW b1 hc1
 refine(specIsSubgroup_any _ (g1,N,es) W (HA.out W ((Below.refl W.heap.size W).mono (by omega)))).mono ?_
 rintro e w2 ⟨rfl,b2⟩
 have hs2:=b2.size
 have B2:Hid (Below (w.heap.size+1) W w2):=hDD (b2.mono (by omega))
 clear b2
 obtain⟨q0,q1,q2⟩:=HCL.out w2 B2.out
 rcases ec:coreB (g1,N,es) with _ | _
 ·have F:Hid (finB (g1,N,es)=false):=hDD (by unfold finB;rw[ec];rfl)
  have HBF:Hid (Below w.heap.size w w2):=hDD (BX.out.trans (B2.out.mono (by omega)))
  clear ec
  go_wp2
  go_ret
  exact⟨ret_bool F.out.symm,HBF.out⟩
 ·have hfold:foldB (g1,N,es)=true:=by have h:=ec;unfold coreB at h;simp only[Bool.and_eq_true] at h;exact h.1.1
  have F:Hid (finB (g1,N,es)=decide ((misU (g1,N,es) N.toNat).length=0)):=hDD (by unfold finB;rw[ec];rfl)
  have HML:=hDD (specMissingSteps_any _ (g1,N,es) w2 (HA.out w2 B2.out) hfold)
  clear ec hfold
  go_wp2_with fail
  refine HML.out.mono ?_
  rintro e w3 ⟨r3,rfl,o3,b3⟩
  have hs3:=b3.size
  have HBF:Hid (Below w.heap.size w w3):=hDD (BX.out.trans ((B2.out.trans (b3.mono (by omega))).mono (by omega)))
  obtain⟨A3,c3,rfl,_⟩:=o3.form
  simp only at*
  generalize (misU (g1,N,es) N.toNat).length=M at*
  clear o3 b3 q0 q1 q2 HML
  rcases eM:decide (M=0) with _ | _
  ·have hM: ¬M=0:=by simpa using eM
   have hMi: ¬(M:Int)=0:=by omega
   clear hM
   go_wp2
   go_ret
   exact⟨ret_bool (by rw[F.out,eM];simpa using hMi),HBF.out⟩
  ·obtain rfl:M=0:=by simpa using eM
   go_wp2
   go_ret
   exact⟨ret_bool (by rw[F.out,eM]),HBF.out⟩
set_option maxHeartbeats 1000000 in
theorem implIsFiniteIndex_any (v:Value) (g:GrD) (w:World) (h:ArgG w v g):
  Calls Tryz.prog 23 #[v] w fun e w'=>e= .returned (.bool (finB g))∧Below w.heap.size w w':=by
 have HG:=hDD h
 obtain⟨s,rfl,hi1,hi2,ha⟩:=h
 obtain⟨A,cap,rfl⟩:=ha.form
 obtain⟨g1,N,es⟩:=g
 simp only at*
 clear ha
 go_enter Tryz.func23,Tryz.ntmps23
 go_wp2_with fail
 obtain⟨W,hW⟩: ∃W,W=w.alloc (Obj.cells #[Value.int IntKind.i64 g1,Value.int IntKind.i64 N, .slice A es.length cap] 26):=⟨_,rfl⟩
 obtain⟨hsW,b1,hc1,_⟩:=gbox hW
 rw[←hW]
 have BX:=hDD b1
 have HCL:=hDD hc1
 have HA:Hid (∀w',Below (w.heap.size+1) W w'→ArgG w' (.agg #[.int .i64 g1, .int .i64 N, .slice A es.length cap]) (g1,N,es)):=hDD fun w' hb=>HG.out.below (BX.out.trans (hb.mono (by omega)))
 clear hW b1 hc1
 refine(implIsCore_any _ (g1,N,es) W (HA.out W ((Below.refl W.heap.size W).mono (by omega)))).mono ?_
 rintro e w2 ⟨rfl,b2⟩
 have hs2:=b2.size
 have B2:Hid (Below (w.heap.size+1) W w2):=hDD (b2.mono (by omega))
 clear b2
 obtain⟨q0,q1,q2⟩:=HCL.out w2 B2.out
 rcases ec:coreB (g1,N,es) with _ | _
 ·have F:Hid (finB (g1,N,es)=false):=hDD (by unfold finB;rw[ec];rfl)
  have HBF:Hid (Below w.heap.size w w2):=hDD (BX.out.trans (B2.out.mono (by omega)))
  clear ec
  go_wp2
  go_ret
  exact⟨ret_bool F.out.symm,HBF.out⟩
 ·have hfold:foldB (g1,N,es)=true:=by have h:=ec;unfold coreB at h;simp only[Bool.and_eq_true] at h;exact h.1.1
  have F:Hid (finB (g1,N,es)=decide ((misU (g1,N,es) N.toNat).length=0)):=hDD (by unfold finB;rw[ec];rfl)
  have HML:=hDD (implMissingSteps_any _ (g1,N,es) w2 (HA.out w2 B2.out) hfold)
  clear ec hfold
  go_wp2_with fail
  refine HML.out.mono ?_
  rintro e w3 ⟨r3,rfl,o3,b3⟩
  have hs3:=b3.size
  have HBF:Hid (Below w.heap.size w w3):=hDD (BX.out.trans ((B2.out.trans (b3.mono (by omega))).mono (by omega)))
  obtain⟨A3,c3,rfl,_⟩:=o3.form
  simp only at*
  generalize (misU (g1,N,es) N.toNat).length=M at*
  clear o3 b3 q0 q1 q2 HML
  rcases eM:decide (M=0) with _ | _
  ·have hM: ¬M=0:=by simpa using eM
   have hMi: ¬(M:Int)=0:=by omega
   clear hM
   go_wp2
   go_ret
   exact⟨ret_bool (by rw[F.out,eM];simpa using hMi),HBF.out⟩
  ·obtain rfl:M=0:=by simpa using eM
   go_wp2
   go_ret
   exact⟨ret_bool (by rw[F.out,eM]),HBF.out⟩
set_option maxHeartbeats 2000000 in
theorem specConjugatesOf_any (v:Value) (g:GrD) (w:World) (h:ArgG w v g):
  Calls Tryz.prog 48 #[v] w fun e w'=> ∃r,e= .returned r∧OGS w.heap.size w'.heap.size r (conF g) w'∧Below w.heap.size w w':=by
 have HG:=hDD h
 obtain⟨s,rfl,hi1,hi2,ha⟩:=h
 obtain⟨A,cap,rfl⟩:=ha.form
 obtain⟨g1,N,es⟩:=g
 simp only at*
 clear ha
 go_enter Tryz.func48,Tryz.ntmps48
 go_wp2_with fail
 obtain⟨W1,hW1⟩: ∃W,W=w.alloc (Obj.cells #[Value.int IntKind.i64 g1,Value.int IntKind.i64 N, .slice A es.length cap] 26):=⟨_,rfl⟩
 obtain⟨hs1,b1,hc1,_⟩:=gbox hW1
 obtain⟨W,hW⟩: ∃W,W=W1.alloc (Obj.cells #[] 26):=⟨_,rfl⟩
 have b2:Below W1.heap.size W1 W:=by rw[hW];exact(Below.refl _ _).alloc (Nat.le_refl _) _
 have hsW:W.heap.size=w.heap.size+2:=by rw[hW];simp;omega
 have o0:OGS (w.heap.size+1) W.heap.size (.slice (some ⟨w.heap.size+1,0,none⟩) 0 0) [] W:=by rw[hsW,hW];exact OGS_lit W1 (w.heap.size+1) hs1 (Nat.le_refl _)
 rw[←hW1,←hW]
 have BX:Hid (Below w.heap.size w W):=hDD (b1.trans (b2.mono (by omega)))
 have B12:=hDD (b2.mono (show w.heap.size+1≤W1.heap.size by omega))
 have HC1:=hDD hc1
 have HCL:Hid (∀w',Below (w.heap.size+1) W w'→w'.cell? ⟨w.heap.size,0,none⟩=some (.int .i64 g1)∧w'.cell? ⟨w.heap.size,1,none⟩=some (.int .i64 N)∧w'.cell? ⟨w.heap.size,2,none⟩=some (.slice A es.length cap)):=hDD fun w' hb=>HC1.out w' (B12.out.trans hb)
 have HA:Hid (∀w',Below (w.heap.size+1) W w'→ArgG w' (.agg #[.int .i64 g1, .int .i64 N, .slice A es.length cap]) (g1,N,es)):=hDD fun w' hb=>HG.out.below (BX.out.trans (hb.mono (by omega)))
 have HFI:Hid (∀w',Below (w.heap.size+1) W w'→Calls Tryz.prog 14 #[.agg #[.int .i64 g1, .int .i64 N, .slice A es.length cap]] w' fun e w''=>e= .returned (.bool (finB (g1,N,es)))∧Below w'.heap.size w' w''):=hDD fun w' hb=>specIsFiniteIndex_any _ _ w' (HA.out w' hb)
 have O0:=hDD o0
 clear hW1 hW hc1 b1 b2 HC1 o0
 rcases ec:finB (g1,N,es) with _ | _
 ·have F:Hid (conF (g1,N,es)= []):=hDD (by unfold conF;rw[ec];rfl)
  rw[ec] at HFI
  clear ec
  go_loopw [3,4] (fun out i wr=>i= .int .i64 0∧OGS (w.heap.size+1) wr.heap.size out [] wr∧Below (w.heap.size+1) W wr) (fun _ _ _=>0)
  case atStart=>exact⟨rfl,O0.out,(Below.refl W.heap.size W).mono (by omega)⟩
  case round=>
   obtain⟨rfl,ho,hb⟩:=hrel
   have HO:=hDD ho
   have HB:=hDD hb
   obtain⟨wi,rfl⟩: ∃wi:World,wi=wr:=⟨_,rfl⟩
   clear ho hb
   have hwi:=HB.out.size
   obtain⟨q0,q1,q2⟩:=HCL.out wi HB.out
   obtain⟨Ao,co,rfl,_⟩:=OwnL.len HO.out
   have HOF:=hDD (OwnL.widen HO.out (show w.heap.size≤w.heap.size+1 by omega) (Nat.le_refl _))
   have HBF:Hid (Below w.heap.size w wi):=hDD (BX.out.trans (HB.out.mono (by omega)))
   rcases e0:decide ((0:Int)<N) with _ | _
   ·go_wp2
    go_ret
    rw[F.out]
    exact⟨_,rfl,HOF.out,HBF.out⟩
   ·go_wp2_with fail
    refine(HFI.out wi HB.out).mono ?_
    rintro e w3 ⟨rfl,b3⟩
    have HOF3:=hDD ((OwnL.keep HOF.out EG.stable fun b _ hlt=>b3.block b hlt).widen (Nat.le_refl _) b3.size)
    have HBF3:=hDD (HBF.out.trans (b3.mono (by omega)))
    clear b3 q0 q1 q2
    go_wp2
    go_ret
    rw[F.out]
    exact⟨_,rfl,HOF3.out,HBF3.out⟩
 have hfold:=finB_fold ec
 have HFD:=hDD hfold
 have hgr:=(foldB_parts hfold).1
 obtain⟨h13,h40,h120,_⟩:=grB_parts hgr
 simp only at h13 h40 h120
 obtain⟨n,rfl⟩: ∃n:Nat,N=(n:Int):=⟨N.toNat,by omega⟩
 have F:Hid (conF (g1,(n:Int),es)=conU (g1,(n:Int),es) n):=hDD (by unfold conF;rw[if_pos ec];rfl)
 have HUL:=hDD (conU_len (g1,(n:Int),es))
 rw[ec] at HFI
 clear ec hfold hgr
 have OS:=O0
 have BS:Hid (Below (w.heap.size+1) W W):=hDD ((Below.refl W.heap.size W).mono (by omega))
 go_loopw [3,4] (fun out i wr=> ∃u:Nat,u≤n∧i= .int .i64 u∧OGS (w.heap.size+1) wr.heap.size out (conU (g1,(n:Int),es) u) wr∧Below (w.heap.size+1) W wr) (fun _ i _=>n-(intOf i).toNat)
 case atStart=>exact⟨0,Nat.zero_le _,rfl,OS.out,BS.out⟩
 case round=>
  obtain⟨u,hu,rfl,ho,hb⟩:=hrel
  have HO1:=hDD ho
  have HB1:=hDD hb
  obtain⟨wi,rfl⟩: ∃wi:World,wi=wr:=⟨_,rfl⟩
  clear ho hb
  have hwi:=HB1.out.size
  obtain⟨q0,q1,q2⟩:=HCL.out wi HB1.out
  by_cases hlt:u<n
  ·have huI:(u:Int)<(n:Int):=by omega
   have HLV:=hDD (HUL.out u)
   have HST:Hid (conU (g1,(n:Int),es) (u+1)=addGs (conU (g1,(n:Int),es) u) (movG (g1,(n:Int),es) u)):=hDD rfl
   generalize conU (g1,(n:Int),es) u=LO at*
   have hlo:LO.length≤1000:=by have:=HLV.out;omega
   obtain⟨Ao,co,rfl,_⟩:=OwnL.len HO1.out
   go_wp2_with fail
   refine(HFI.out wi HB1.out).mono ?_
   rintro e wi2 ⟨rfl,b3⟩
   have hs3:=b3.size
   have HB2:=hDD (HB1.out.trans (b3.mono (by omega)))
   have BJ2:=hDD b3
   clear b3 q0 q1 q2
   obtain⟨q0,q1,q2⟩:=HCL.out wi2 HB2.out
   go_wp2_with fail
   refine(specMoveBase_any _ (g1,(n:Int),es) u wi2 (HA.out wi2 HB2.out) HFD.out huI).mono ?_
   rintro e w5 ⟨r5,rfl,o5,b5⟩
   have hs5:=b5.size
   generalize movG (g1,(n:Int),es) u=K at*
   obtain⟨k1,k2,ks⟩:=K
   have HK5:=hDD o5.arg
   obtain⟨s5,rfl,hj1,hj2,oe5⟩:=o5
   obtain⟨A5,c5,rfl,_⟩:=oe5.form
   simp only at*
   have OE5:=hDD oe5
   have BJ5:=hDD (BJ2.out.trans (b5.mono (by omega)))
   have HWX: ∃WX,WX=w5.alloc (Obj.cells #[Value.int IntKind.i64 k1,Value.int IntKind.i64 k2, .slice A5 ks.length c5] 26):=⟨_,rfl⟩
   obtain⟨WX,hWX⟩:=HWX
   obtain⟨hsX,bX,hcX,_⟩:=gbox hWX
   have HCX:=hDD hcX
   have BJX:=hDD (BJ5.out.trans (bX.mono (by omega)))
   have HKX:=hDD (HK5.out.below bX)
   have OEX:=hDD (OE5.out.below bX)
   have HOX:=hDD ((OwnL.keep HO1.out EG.stable fun b _ hlt=>BJX.out.block b hlt).widen (Nat.le_refl _) BJX.out.size)
   clear oe5 b5 bX hcX q0 q1 q2
   have hzX:=BJX.out.size
   go_wp2_with fail
   rw[←hWX]
   clear hWX
   go_loopw [7,8] (fun t i wr=> ∃j:Nat,j≤LO.length∧i= .int .i64 j∧t= .bool (inG (LO.take j) (k1,k2,ks))∧Below WX.heap.size WX wr) (fun _ i _=>LO.length-(intOf i).toNat)
   case atStart=>exact⟨0,Nat.zero_le _,rfl,by simp[inG],Below.refl _ _⟩
   case round=>
    obtain⟨j,hj,rfl,rfl,hb⟩:=hrel
    have HBj:=hDD hb
    obtain⟨wj,rfl⟩: ∃wj:World,wj=wr:=⟨_,rfl⟩
    have hwj:=hb.size
    obtain⟨z0,z1,z2⟩:=HCX.out wj (hb.mono (by omega))
    have hzz:w5.heap.size<wj.heap.size:=by omega
    by_cases hlt2:j<LO.length
    ·have HIT:=hDD (inG_take LO (k1,k2,ks) j hlt2)
     obtain⟨gb,off,sE,hAo,hgb,c0,c1,c2,hax⟩:=((OGS.arg HOX.out).below hb).at hlt2
     subst hAo
     have HAX:=hDD hax
     generalize LO[j]=D at*
     obtain⟨d1,d2,ds⟩:=D
     simp only at*
     have HEQ:Hid (∀W',Below wj.heap.size wj W'→Calls Tryz.prog 53 #[.agg #[.int .i64 d1, .int .i64 d2,sE], .agg #[.int .i64 k1, .int .i64 k2, .slice A5 ks.length c5]] W' fun e w'=>e= .returned (.bool (decide ((d1,d2,ds)=(k1,k2,ks))))∧Below W'.heap.size W' w'):=hDD fun W' h=>specEqualGraphs_any _ _ (d1,d2,ds) (k1,k2,ks) W' (HAX.out.below h) ((HKX.out.below HBj.out).below h)
     obtain⟨be,hbe⟩: ∃be,be=decide ((d1,d2,ds)=(k1,k2,ks)):=⟨_,rfl⟩
     rw[←hbe] at HEQ HIT
     clear hb hax hbe
     rcases et:inG (LO.take j) (k1,k2,ks) with _ | _
     ·rw[et] at HIT
      go_wp2_with fail
      have f0:=BelW.cell z0 hzz
      have f1:=BelW.cell z1 hzz
      have f2:=BelW.cell z2 hzz
      have f3:=BelW.cell c0 hgb
      have f4:=BelW.cell c1 hgb
      have f5:=BelW.cell c2 hgb
      (refine wp_region_quiet_bel (by kernel_rfl) (by kernel_rfl) ?_;(repeat(go_big_quiet_step (first | (go_at_call 53;exact Calls.bel_of (HEQ.out _ (BelW.h _))))));refine wpQuiet_nil ?_;intro wq hw';obtain⟨pq,hw''⟩:=hw';have bq:=pq.h;rw[←hw''] at bq;clear hw'' pq)
      have sq:=bq.size
      have HQ:=hDD (HBj.out.trans (bq.mono (by omega)))
      clear f0 f1 f2 f3 f4 f5 bq z0 z1 z2 c0 c1 c2
      rw[Bool.false_or] at HIT
      go_wp2
      go_roundw
      case rel=>exact⟨j+1,by omega,by go_num,by rw[HIT.out],HQ.out⟩
      case measure=>simp[intOf];omega
     ·rw[et] at HIT
      go_wp2_with fail
      (refine wp_region_quiet_bel (by kernel_rfl) (by kernel_rfl) ?_;(repeat(go_big_quiet_step (fail)));refine wpQuiet_nil ?_;intro wq hw';obtain⟨pq,hw''⟩:=hw';have bq:=pq.h;rw[←hw''] at bq;clear hw'' pq)
      have sq:=bq.size
      have HQ:=hDD (HBj.out.trans (bq.mono (by omega)))
      clear bq z0 z1 z2 c0 c1 c2
      rw[Bool.true_or] at HIT
      go_wp2
      go_roundw
      case rel=>exact⟨j+1,by omega,by go_num,by rw[HIT.out],HQ.out⟩
      case measure=>simp[intOf];omega
    ·obtain rfl:j=LO.length:=by omega
     rw[List.take_length]
     have BJ7:=hDD (BJX.out.trans (hb.mono (by omega)))
     have OE7:=hDD (OEX.out.below hb)
     clear hb
     rcases ei:inG LO (k1,k2,ks) with _ | _
     ·have HAD:Hid (addGs LO (k1,k2,ks)=LO++ [(k1,k2,ks)]):=hDD (by unfold addGs;rw[ei];rfl)
      go_wp2_with (at_builtin;refine push_graph rfl (.tmp 43) (.tmp 45) rfl HO1.out (show w.heap.size+1≤wi.heap.size by omega) (BJ7.out.alloc BJ7.out.size _) rfl _ (.slice A5 ks.length c5) (k1,k2,ks) rfl (OE7.out.alloc _) hj1 hj2 (by omega) (gr_lit _ _ rfl _ _ _ _) rfl (by omega) ?_;intro v8 w8 o8 g8;have O8:=hDD o8;have B8:Hid (Below (w.heap.size+1) W w8):=hDD ((HB1.out.trans ((BJ7.out.alloc BJ7.out.size (Obj.cells #[Value.int IntKind.i64 k1,Value.int IntKind.i64 k2, .slice A5 ks.length c5] 26)).mono (by omega))).grown g8 (by have:=BJ7.out.size;simp<;>omega) (fun c hc=>(HO1.out.lt hc).1));clear o8 g8)
      go_roundw
      case rel=>exact⟨u+1,by omega,by go_num,by rw[HST.out,HAD.out];exact O8.out,B8.out⟩
      case measure=>simp[intOf];omega
     ·have HAD:Hid (addGs LO (k1,k2,ks)=LO):=hDD (by unfold addGs;rw[ei];rfl)
      have HO7:=hDD ((OwnL.keep HO1.out EG.stable fun b _ hlt=>BJ7.out.block b hlt).widen (Nat.le_refl _) BJ7.out.size)
      have HB7:=hDD (HB1.out.trans (BJ7.out.mono (show w.heap.size+1≤wi.heap.size by omega)))
      clear z0 z1 z2
      go_wp2
      go_roundw
      case rel=>exact⟨u+1,by omega,by go_num,by rw[HST.out,HAD.out];exact HO7.out,HB7.out⟩
      case measure=>simp[intOf];omega
  ·obtain rfl:u=n:=by omega
   obtain⟨Ao,co,hov,_⟩:=OwnL.len HO1.out
   subst hov
   have HOF:=hDD (OwnL.widen HO1.out (show w.heap.size≤w.heap.size+1 by omega) (Nat.le_refl _))
   have HBF:Hid (Below w.heap.size w wi):=hDD (BX.out.trans (HB1.out.mono (by omega)))
   go_wp2
   go_ret
   rw[F.out]
   exact⟨_,rfl,HOF.out,HBF.out⟩
set_option maxHeartbeats 2000000 in
theorem implConjugatesOf_any (v:Value) (g:GrD) (w:World) (h:ArgG w v g):
  Calls Tryz.prog 45 #[v] w fun e w'=> ∃r,e= .returned r∧OGS w.heap.size w'.heap.size r (conF g) w'∧Below w.heap.size w w':=by
 have HG:=hDD h
 obtain⟨s,rfl,hi1,hi2,ha⟩:=h
 obtain⟨A,cap,rfl⟩:=ha.form
 obtain⟨g1,N,es⟩:=g
 simp only at*
 clear ha
 go_enter Tryz.func45,Tryz.ntmps45
 go_wp2_with fail
 obtain⟨W1,hW1⟩: ∃W,W=w.alloc (Obj.cells #[Value.int IntKind.i64 g1,Value.int IntKind.i64 N, .slice A es.length cap] 26):=⟨_,rfl⟩
 obtain⟨hs1,b1,hc1,_⟩:=gbox hW1
 obtain⟨W,hW⟩: ∃W,W=W1.alloc (Obj.cells #[] 26):=⟨_,rfl⟩
 have b2:Below W1.heap.size W1 W:=by rw[hW];exact(Below.refl _ _).alloc (Nat.le_refl _) _
 have hsW:W.heap.size=w.heap.size+2:=by rw[hW];simp;omega
 have o0:OGS (w.heap.size+1) W.heap.size (.slice (some ⟨w.heap.size+1,0,none⟩) 0 0) [] W:=by rw[hsW,hW];exact OGS_lit W1 (w.heap.size+1) hs1 (Nat.le_refl _)
 rw[←hW1,←hW]
 have BX:Hid (Below w.heap.size w W):=hDD (b1.trans (b2.mono (by omega)))
 have B12:=hDD (b2.mono (show w.heap.size+1≤W1.heap.size by omega))
 have HC1:=hDD hc1
 have HCL:Hid (∀w',Below (w.heap.size+1) W w'→w'.cell? ⟨w.heap.size,0,none⟩=some (.int .i64 g1)∧w'.cell? ⟨w.heap.size,1,none⟩=some (.int .i64 N)∧w'.cell? ⟨w.heap.size,2,none⟩=some (.slice A es.length cap)):=hDD fun w' hb=>HC1.out w' (B12.out.trans hb)
 have HA:Hid (∀w',Below (w.heap.size+1) W w'→ArgG w' (.agg #[.int .i64 g1, .int .i64 N, .slice A es.length cap]) (g1,N,es)):=hDD fun w' hb=>HG.out.below (BX.out.trans (hb.mono (by omega)))
 have HFI:Hid (∀w',Below (w.heap.size+1) W w'→Calls Tryz.prog 23 #[.agg #[.int .i64 g1, .int .i64 N, .slice A es.length cap]] w' fun e w''=>e= .returned (.bool (finB (g1,N,es)))∧Below w'.heap.size w' w''):=hDD fun w' hb=>implIsFiniteIndex_any _ _ w' (HA.out w' hb)
 have O0:=hDD o0
 clear hW1 hW hc1 b1 b2 HC1 o0
 refine(HFI.out W ((Below.refl W.heap.size W).mono (by omega))).mono ?_
 rintro e w2 ⟨rfl,b2⟩
 have hs2:=b2.size
 have BS:Hid (Below (w.heap.size+1) W w2):=hDD (b2.mono (by omega))
 have OS:=hDD ((OwnL.keep O0.out EG.stable fun b _ hlt=>b2.block b hlt).widen (Nat.le_refl _) b2.size)
 clear b2
 rcases ec:finB (g1,N,es) with _ | _
 ·have F:Hid (conF (g1,N,es)= []):=hDD (by unfold conF;rw[ec];rfl)
  have HOF:=hDD (OwnL.widen OS.out (show w.heap.size≤w.heap.size+1 by omega) (Nat.le_refl _))
  have HBF:Hid (Below w.heap.size w w2):=hDD (BX.out.trans (BS.out.mono (by omega)))
  clear ec
  go_wp2
  go_ret
  rw[F.out]
  exact⟨_,rfl,HOF.out,HBF.out⟩
 have hfold:=finB_fold ec
 have HFD:=hDD hfold
 have hgr:=(foldB_parts hfold).1
 obtain⟨h13,h40,h120,_⟩:=grB_parts hgr
 simp only at h13 h40 h120
 obtain⟨n,rfl⟩: ∃n:Nat,N=(n:Int):=⟨N.toNat,by omega⟩
 have F:Hid (conF (g1,(n:Int),es)=conU (g1,(n:Int),es) n):=hDD (by unfold conF;rw[if_pos ec];rfl)
 have HUL:=hDD (conU_len (g1,(n:Int),es))
 clear ec hfold hgr
 go_wp2
 go_loopw [3,4] (fun out i wr=> ∃u:Nat,u≤n∧i= .int .i64 u∧OGS (w.heap.size+1) wr.heap.size out (conU (g1,(n:Int),es) u) wr∧Below (w.heap.size+1) W wr) (fun _ i _=>n-(intOf i).toNat)
 case atStart=>exact⟨0,Nat.zero_le _,rfl,OS.out,BS.out⟩
 case round=>
  obtain⟨u,hu,rfl,ho,hb⟩:=hrel
  have HO1:=hDD ho
  have HB1:=hDD hb
  obtain⟨wi,rfl⟩: ∃wi:World,wi=wr:=⟨_,rfl⟩
  clear ho hb
  have hwi:=HB1.out.size
  obtain⟨q0,q1,q2⟩:=HCL.out wi HB1.out
  by_cases hlt:u<n
  ·have huI:(u:Int)<(n:Int):=by omega
   have HLV:=hDD (HUL.out u)
   have HST:Hid (conU (g1,(n:Int),es) (u+1)=addGs (conU (g1,(n:Int),es) u) (movG (g1,(n:Int),es) u)):=hDD rfl
   generalize conU (g1,(n:Int),es) u=LO at*
   have hlo:LO.length≤1000:=by have:=HLV.out;omega
   obtain⟨Ao,co,rfl,_⟩:=OwnL.len HO1.out
   obtain⟨wi2,hwi2⟩: ∃wi2,wi2=wi:=⟨_,rfl⟩
   have HB2:Hid (Below (w.heap.size+1) W wi2):=hDD (by rw[hwi2];exact HB1.out)
   have BJ2:Hid (Below wi.heap.size wi wi2):=hDD (by rw[hwi2];exact Below.refl _ _)
   have hs3:wi.heap.size≤wi2.heap.size:=BJ2.out.size
   rw[←hwi2] at q0 q1 q2⊢
   replace hwi2:=hDD hwi2
   go_wp2_with fail
   refine(implMoveBase_any _ (g1,(n:Int),es) u wi2 (HA.out wi2 HB2.out) HFD.out huI).mono ?_
   rintro e w5 ⟨r5,rfl,o5,b5⟩
   have hs5:=b5.size
   generalize movG (g1,(n:Int),es) u=K at*
   obtain⟨k1,k2,ks⟩:=K
   have HK5:=hDD o5.arg
   obtain⟨s5,rfl,hj1,hj2,oe5⟩:=o5
   obtain⟨A5,c5,rfl,_⟩:=oe5.form
   simp only at*
   have OE5:=hDD oe5
   have BJ5:=hDD (BJ2.out.trans (b5.mono (by omega)))
   have HWX: ∃WX,WX=w5.alloc (Obj.cells #[Value.int IntKind.i64 k1,Value.int IntKind.i64 k2, .slice A5 ks.length c5] 26):=⟨_,rfl⟩
   obtain⟨WX,hWX⟩:=HWX
   obtain⟨hsX,bX,hcX,_⟩:=gbox hWX
   have HCX:=hDD hcX
   have BJX:=hDD (BJ5.out.trans (bX.mono (by omega)))
   have HKX:=hDD (HK5.out.below bX)
   have OEX:=hDD (OE5.out.below bX)
   have HOX:=hDD ((OwnL.keep HO1.out EG.stable fun b _ hlt=>BJX.out.block b hlt).widen (Nat.le_refl _) BJX.out.size)
   clear oe5 b5 bX hcX q0 q1 q2
   have hzX:=BJX.out.size
   go_wp2_with fail
   rw[←hWX]
   clear hWX
   refine(implIsListed_any _ _ LO (k1,k2,ks) WX (OGS.arg HOX.out) HKX.out).mono ?_
   rintro e w7 ⟨rfl,b7⟩
   have hs7:=b7.size
   obtain⟨z0,z1,z2⟩:=HCX.out w7 (b7.mono (by omega))
   have BJ7:=hDD (BJX.out.trans (b7.mono BJX.out.size))
   have OE7:=hDD (OEX.out.below b7)
   clear b7
   rcases ei:inG LO (k1,k2,ks) with _ | _
   ·have HAD:Hid (addGs LO (k1,k2,ks)=LO++ [(k1,k2,ks)]):=hDD (by unfold addGs;rw[ei];rfl)
    clear ei
    go_wp2_with (at_builtin;refine push_graph rfl (.tmp 28) (.tmp 30) rfl HO1.out (show w.heap.size+1≤wi.heap.size by omega) (BJ7.out.alloc BJ7.out.size _) rfl _ (.slice A5 ks.length c5) (k1,k2,ks) rfl (OE7.out.alloc _) hj1 hj2 (by omega) (gr_lit _ _ rfl _ _ _ _) rfl (by omega) ?_;intro v8 w8 o8 g8;have O8:=hDD o8;have B8:Hid (Below (w.heap.size+1) W w8):=hDD ((HB1.out.trans ((BJ7.out.alloc BJ7.out.size (Obj.cells #[Value.int IntKind.i64 k1,Value.int IntKind.i64 k2, .slice A5 ks.length c5] 26)).mono (by omega))).grown g8 (by have:=BJ7.out.size;simp<;>omega) (fun c hc=>(HO1.out.lt hc).1));clear o8 g8)
    go_roundw
    case rel=>exact⟨u+1,by omega,by go_num,by rw[HST.out,HAD.out];exact O8.out,B8.out⟩
    case measure=>simp[intOf];omega
   ·have HAD:Hid (addGs LO (k1,k2,ks)=LO):=hDD (by unfold addGs;rw[ei];rfl)
    have HO7:=hDD ((OwnL.keep HO1.out EG.stable fun b _ hlt=>BJ7.out.block b hlt).widen (Nat.le_refl _) BJ7.out.size)
    have HB7:=hDD (HB1.out.trans (BJ7.out.mono (show w.heap.size+1≤wi.heap.size by omega)))
    clear ei
    clear z0 z1 z2
    go_wp2
    go_roundw
    case rel=>exact⟨u+1,by omega,by go_num,by rw[HST.out,HAD.out];exact HO7.out,HB7.out⟩
    case measure=>simp[intOf];omega
  ·obtain rfl:u=n:=by omega
   obtain⟨Ao,co,hov,_⟩:=OwnL.len HO1.out
   subst hov
   have HOF:=hDD (OwnL.widen HO1.out (show w.heap.size≤w.heap.size+1 by omega) (Nat.le_refl _))
   have HBF:Hid (Below w.heap.size w wi):=hDD (BX.out.trans (HB1.out.mono (by omega)))
   go_wp2
   go_ret
   rw[F.out]
   exact⟨_,rfl,HOF.out,HBF.out⟩
end Go.Proofs.YteobmaambgmdbaaGreat
namespace Go.Proofs.YteobmaambgmdbaaGreat
set_option maxRecDepth 20000
set_option linter.unusedVariables false
set_option linter.unusedSimpArgs false
open Go.RowKit
def snL (n:Nat) (o:List Int):List Bool:=(List.range n).map fun q:Nat=>decide ((q:Int)∈o)
theorem snL_len (n:Nat) (o:List Int):(snL n o).length=n:=by simp[snL]
theorem snL_get (n:Nat) (o:List Int) (q:Nat) (h:q<n):(snL n o)[q]'(by rw[snL_len];exact h)=decide ((q:Int)∈o):=by simp[snL]
theorem snL_nil (n:Nat):snL n []=List.replicate n false:=by
 refine List.ext_getElem (by simp[snL]) fun i h1 h2=> ?_
 simp[snL]
theorem snL_set (n:Nat) (o:List Int) (y:Nat):(snL n o).set y true=snL n (o++ [(y:Int)]):=by
 refine List.ext_getElem (by simp[snL]) fun i h1 h2=> ?_
 rw[List.getElem_set]
 simp only[snL,List.getElem_map,List.getElem_range,List.mem_append,List.mem_singleton]
 by_cases h:y=i
 ·subst h;simp
 ·rw[if_neg h]
  have: ¬(i:Int)=(y:Int):=by omega
  simp[this]
theorem TreeX.other {f:Int→List Int} {bb P N:Nat} {w w9:World} {ord:Value} {o:List Int} (h:TreeX f bb P N w ord o) {S:Nat} (hg:w.grownBy w9 (some S)) (hS:S<P):TreeX f bb P N w9 ord o:=by
 obtain⟨vs,h1,h2,h3⟩:=h.ex
 have hs9:=hg.size
 refine⟨⟨vs,h1,h2.kept hg (.inr fun e=>by simp[Value.ownBlock] at e;omega),fun j hj=> ?_⟩,h.ne⟩
 rcases h3 j hj with h4 | ⟨h4,b,cap,e1,e2,e3,e4,e5,e6⟩
 ·exact .inl h4
 ·refine .inr ⟨h4,b,cap,e1,e2,e3.kept hg (.inr fun hx=> ?_),e4,e5,by omega⟩
  rw[e1] at hx
  simp[Value.ownBlock] at hx
  omega
theorem TreeX.base {f:Int→List Int} {bb bb' P N:Nat} {w:World} {ord:Value} {o:List Int} (h:TreeX f bb P N w ord o) (hb:bb'≤bb):TreeX f bb' P N w ord o:=by
 obtain⟨vs,h1,h2,h3⟩:=h.ex
 refine⟨⟨vs,h1,⟨h2.1,?_⟩,h3⟩,h.ne⟩
 rcases h2.2 with h0 | ⟨g,cap,cur,hv,hg,r⟩
 ·exact .inl h0
 ·exact .inr ⟨g,cap,cur,hv,Nat.le_trans hb hg,r⟩
set_option maxHeartbeats 4000000 in
theorem l5Search_any (v:Value) (g:GrD) (w:World) (h:ArgG w v g) (hf:foldB g=true):
  Calls Tryz.prog 148 #[v, .int .i64 0] w fun e w'=> ∃S P ord,e= .returned (.tuple #[.slice (some ⟨S,0,none⟩) g.2.1.toNat g.2.1.toNat, .slice (some ⟨P,0,none⟩) g.2.1.toNat g.2.1.toNat])∧OwB w' w.heap.size (.slice (some ⟨S,0,none⟩) g.2.1.toNat g.2.1.toNat) (snL g.2.1.toNat (canO g))∧TreeX (wdO g) w.heap.size P g.2.1.toNat w' ord (canO g)∧Below w.heap.size w w':=by
 have HG:=hDD h
 obtain⟨hg,hfol⟩:=foldB_parts hf
 have ONE:=hDD (steps_one hfol)
 obtain⟨hr13,hsz40,hl120,_⟩:=grB_parts hg
 obtain⟨A,cap,hv⟩: ∃A cap,v= .agg #[.int .i64 g.1, .int .i64 g.2.1, .slice A g.2.2.length cap]:=by
  obtain⟨s,hv,_,_,ha⟩:=h
  obtain⟨A,cap,rfl⟩:=ha.form
  exact⟨A,cap,hv⟩
 subst hv
 obtain⟨N,hN⟩: ∃N:Nat,g.2.1=(N:Int):=⟨g.2.1.toNat,by omega⟩
 obtain⟨rn,hrn⟩: ∃rn:Nat,g.1=(rn:Int):=⟨g.1.toNat,by omega⟩
 have hrn1:1≤rn:=by omega
 have hrn3:rn≤3:=by omega
 have hN1:1≤N:=by omega
 have hN2:N≤40:=by omega
 have HCO:Hid (canO g=canF g.2.2 (lettersL rn) 41 0 [0]):=hDD (by unfold canO;rw[hrn];rfl)
 have HZ:Hid (wdO g 0= []):=hDD (wd_zero hg)
 have HS0:Hid (TwS g (lettersL rn) 0 [0]):=hDD (by have h:=TwS.zero g;rwa [hrn] at h)
 have HNW:Hid (∀(k:Nat) (o:List Int) (u:Int),TwS g (lettersL rn) k o→o[k]? =some u→k<41→ ∀(m:Nat) (hm:m<(lettersL rn).length),0≤nextV g.2.2 u (lettersL rn)[m]→hasB (((lettersL rn).take m).foldl (cstep g.2.2 u) o) (nextV g.2.2 u (lettersL rn)[m])=false→wdO g (nextV g.2.2 u (lettersL rn)[m])=wdO g u++ [(lettersL rn)[m]]):=hDD fun k o u h1 h2 h3 m hm h4 h5=>h1.new hg h2 h3 hm h4 h5
 have OK0:=hDD (OrdOk.one (n:=g.2.1) (by omega))
 have OKS:Hid (∀(u:Int) (o:List Int) (k:Nat),OrdOk g.2.1 o→OrdOk g.2.1 (((lettersL rn).take k).foldl (cstep g.2.2 u) o)):=hDD fun u o k h=>cfold_take_ok hg _ k h
 have OKL:Hid (∀o:List Int,OrdOk g.2.1 o→o.length≤40):=hDD fun o h=>h.len (by omega) (by omega)
 have OKR:Hid (∀o:List Int,OrdOk g.2.1 o→ ∀y∈o,0≤y∧y<N):=hDD fun o h y hy=>by have:=h.2.1 y hy;omega
 have NV:Hid (∀u x,nextV g.2.2 u x= -1∨(0≤nextV g.2.2 u x∧nextV g.2.2 u x<N)):=hDD fun u x=>by
  rcases nextV_range hg u x with e | e
  ·exact .inl e
  ·exact .inr ⟨e.1,by omega⟩
 have hll:=lettersL_len rn
 have HLE:Hid (∀W:World,Calls Tryz.prog 82 #[.int .i64 g.1] W fun e w'=> ∃r,e= .returned r∧OwI w' W.heap.size r (lettersL rn)∧Below W.heap.size W w'):=hDD fun W=>by
  rw[hrn]
  exact l5Letters_any rn W (by omega)
 generalize lettersL rn=ls at*
 obtain⟨F,hF⟩: ∃F,F=wdO g:=⟨_,rfl⟩
 rw[←hF] at HZ HNW⊢
 replace hF:=hDD hF
 rw[hN] at HG
 clear hg hf hfol h hrn
 have hr1:1≤g.1∧g.1≤3:=hr13
 clear hsz40 hl120 hr13
 rw[hN]
 simp only[Int.toNat_natCast]
 obtain⟨W1,hW1⟩: ∃W,W=w.alloc (Obj.cells #[Value.int IntKind.i64 g.1,Value.int IntKind.i64 (N:Int), .slice A g.2.2.length cap] 26):=⟨_,rfl⟩
 obtain⟨hs1,b1,hc1⟩:=gboxE hW1
 have BX:=hDD b1
 have HCL:=hDD hc1
 have HA:Hid (∀w',Below (w.heap.size+1) W1 w'→ArgG w' (.agg #[.int .i64 g.1, .int .i64 (N:Int), .slice A g.2.2.length cap]) g):=hDD fun w' hb=>HG.out.below (BX.out.trans (hb.mono (by omega)))
 obtain⟨i0,hi0,hz0,hz1,hz2⟩:=info_parts bool_info
 have HS1:=hDD hs1
 have HW1:=hDD hW1
 clear hW1 hc1 b1 hs1
 go_enter Tryz.func148,Tryz.ntmps148
 go_wp2_with (at_make;refine wpList_make_full _ rfl _ _ 112 rfl (w.heap.size+1) 4 i0 (.bool false) 1 Tryz.underlying112 hi0 hz0 hz1 _ _ _ _ N rfl rfl rfl rfl (by rw[hz2];omega) (by unfold maxLen;omega) (by simp) ?_)
 rw[←HW1.out]
 rw[←HS1.out]
 have hs1a:w.heap.size+1≤W1.heap.size:=by rw[HS1.out];exact Nat.le_refl _
 have hs1b:W1.heap.size≤w.heap.size+1:=by rw[HS1.out];exact Nat.le_refl _
 intro w2 hownS hgS0
 have sownS:OwB w2 W1.heap.size (.slice (some ⟨W1.heap.size,0,none⟩) N N) (snL N []):=by
  unfold OwB
  rw[snL_len,snL_nil]
  have:bools (List.replicate N false)=List.replicate N (Value.bool false):=by simp[bools]
  rw[this]
  simpa[toList_madeCells_one] using hownS
 have hS2:W1.heap.size<w2.heap.size:=(sownS.lt W1.heap.size rfl).2
 have B12:Below W1.heap.size W1 w2:=(Below.refl W1.heap.size W1).grown hgS0 (Nat.le_refl _) (fun k h=>by cases h)
 have BW2:Below (w.heap.size+1) W1 w2:=B12.mono (by omega)
 clear hownS hgS0 hi0 hz0 hz1 hz2
 obtain⟨q0,q1,q2⟩:=HCL.out w2 BW2
 obtain⟨i1,hi0,hz0,hz1,hz2⟩:=info_parts ints_info'
 have hPS:W1.heap.size<w2.heap.size:=hS2
 have SO2:=hDD sownS
 have HB2:=hDD BW2
 clear sownS BW2 B12
 go_wp2_with (at_make;refine wpList_make_full _ rfl _ _ 38 rfl w2.heap.size 27 i1 (.slice none 0 0) 1 Tryz.underlying38 hi0 hz0 hz1 _ _ _ _ N rfl rfl rfl rfl (by rw[hz2];omega) (by unfold maxLen;omega) (Nat.le_refl _) ?_)
 intro w3 hownP hgP0
 have hP3:w2.heap.size<w3.heap.size:=(hownP.lt w2.heap.size rfl).2
 have B23:Below w2.heap.size w2 w3:=(Below.refl w2.heap.size w2).grown hgP0 (Nat.le_refl _) (fun k h=>by cases h)
 have TW0:TreeX F w2.heap.size w2.heap.size N w3 (.slice none 0 0) []:=⟨⟨List.replicate N (.slice none 0 0),by simp,by simpa[toList_madeCells_one] using hownP,fun j hj=> .inl ⟨by simp,by simp⟩⟩,by simp[Value.ownBlock]⟩
 have SO3:=SO2.out.below B23
 have HB3:Below (w.heap.size+1) W1 w3:=HB2.out.trans (B23.mono (by omega))
 obtain⟨P,hP⟩: ∃P,P=w2.heap.size:=⟨_,rfl⟩
 obtain⟨S,hS⟩: ∃S,S=W1.heap.size:=⟨_,rfl⟩
 rw[←hP] at TW0 hP3 hPS
 rw[←hS] at SO3 hPS
 rw[←hP,←hS]
 have hSw:w.heap.size<S:=by omega
 have cs0:=SO3.cellAt 0 (by rw[snL_len];omega)
 rw[snL_get N [] 0 (by omega)] at cs0
 have fs0:=SO3.free 0
 have gS:=SO3.set 0 true
 rw[snL_set] at gS
 have jN:(0:Int)<(N:Int):=by omega
 have GS:=hDD gS
 have HB3':=hDD HB3
 have TW0':=hDD TW0
 clear gS hP hS SO2 SO3 HB2 HB3 TW0 B23 hownP hgP0 q0 q1 q2 hi0 hz0 hz1 hz2
 have gS1:=GS.out.2
 have TWS:=TW0'.out.other gS1 hPS
 obtain⟨w4,hw4⟩: ∃w4,w4=w3.setCell ⟨S,0,none⟩ (.bool true):=⟨_,rfl⟩
 rw[←hw4] at TWS gS1
 have hs4:w4.heap.size=w3.heap.size:=by rw[hw4];simp
 have SO4:OwB w4 S (.slice (some ⟨S,0,none⟩) N N) (snL N ([]++ [((0:Nat):Int)])):=by rw[hw4];exact GS.out.1
 have HB4:Below (w.heap.size+1) W1 w4:=HB3'.out.grown gS1 (by have:=HB3'.out.size;omega) (fun c hc=>by injection hc with hc;omega)
 have HW4:=hDD hw4
 have TW1:TreeX F P P N (w4.alloc (.cells #[] 3)) (.slice none 0 0) []:=TWS.below ((Below.refl _ _).alloc (Nat.le_refl _) _)
 have oE:OwI (w4.alloc (.cells #[] 3)) w4.heap.size (.slice (some ⟨w4.heap.size,0,none⟩) 0 0) []:=OwI_lit w4 [] (fun _ h=>by cases h) (by simp) (Nat.le_refl _)
 have TW2:=TW1.set (y:=0) (by omega) HZ.out (b:=w4.heap.size) (cap:=0) (ws:= []) (oE.mono (by omega)) (by simp) (by omega) (by simp[Value.ownBlock]) (by simp)
 have hc0:=TW1.at_new (y:=0) (by omega) (by simp)
 have hf0:=TW1.free 0
 rw[HW4.out] at hc0 hf0
 have TW2':=hDD TW2
 have SO4':=hDD SO4
 have HB4':=hDD HB4
 have hHB5:=HB4.setCell (p:=⟨P,0,none⟩) (by show w.heap.size+1≤P;omega) (.slice (some ⟨w3.heap.size,0,none⟩) 0 0)
 have hHB6:=((hHB5.alloc (by have:=hHB5.size;omega) (.cells #[] 3)).alloc (by have:=hHB5.size;simp;omega) (.cells #[.int .i64 0] 3))
 have qx:=(HCL.out _ hHB6).1
 have qy:=(HCL.out _ hHB5).1
 rw[HW4.out] at qx qy
 have HB6:=hDD hHB6
 have HB5:=hDD hHB5
 clear gS1 TWS hw4 SO4 HB4 TW1 oE TW2 hHB5 hHB6
 go_wp2_with fail
 obtain⟨w5,hw5⟩: ∃w5,w5=((((w3.setCell ⟨S,0,none⟩ (.bool true)).setCell ⟨P,0,none⟩ (.slice (some ⟨w3.heap.size,0,none⟩) 0 0)).alloc (.cells #[] 3)).alloc (.cells #[Value.int IntKind.i64 0] 3)):=⟨_,rfl⟩
 rw[←hw5]
 have B5:Below (w.heap.size+1) W1 w5:=by rw[hw5,←HW4.out];exact HB6.out
 have hs34:w4.heap.size=w3.heap.size:=hs4
 have e5:w5=((w4.alloc (.cells #[] 3)).setCell ⟨P,0,none⟩ (.slice (some ⟨w4.heap.size,0,none⟩) 0 0)).alloc (.cells #[Value.int IntKind.i64 0] 3):=by
  rw[hw5,←HW4.out,hs34,World.setCell_alloc_past _ _ _ _ (show P<w4.heap.size by omega)]
 have e3:((w4.alloc (.cells #[] 3)).setCell ⟨P,0,none⟩ (.slice (some ⟨w4.heap.size,0,none⟩) 0 0)).heap.size=w3.heap.size+1:=by simp[hs34]
 have TW5:TreeX F P P N w5 (.slice (some ⟨w3.heap.size+1,0,none⟩) 1 1) [0]:=by
  have h:=TW2'.out.lit (.cells #[Value.int IntKind.i64 0] 3) 1 1
  simp only[List.length_nil,List.nil_append] at h
  rw[e3] at h
  rw[e5]
  simpa using h
 have O5:OwI w5 (P+1) (.slice (some ⟨w3.heap.size+1,0,none⟩) 1 1) [0]:=by
  rw[e5]
  exact OwI_litN _ [0] (w3.heap.size+1) e3 (fun x hx=>by simp at hx;subst hx;exact⟨by decide,by decide⟩) (by simp) (by omega)
 have SN5:OwB w5 S (.slice (some ⟨S,0,none⟩) N N) (snL N [0]):=by
  rw[hw5,←HW4.out]
  have h:OwB (w4.setCell ⟨P,0,none⟩ (.slice (some ⟨w3.heap.size,0,none⟩) 0 0)) S (.slice (some ⟨S,0,none⟩) N N) (snL N ([]++ [((0:Nat):Int)])):=World.ownsRow.kept SO4'.out (set_grown _ P 0 _) (.inr fun e=>by simp[Value.ownBlock] at e;omega)
  simp only[List.nil_append,Int.ofNat_zero,Int.natCast_zero] at h
  exact(h.alloc _).alloc _
 have hs5:w3.heap.size+2≤w5.heap.size:=by rw[e5];simp[hs34]
 have HB5':=hDD B5
 have HO5:=hDD O5
 have HT5:=hDD TW5
 have HSN5:=hDD SN5
 clear hw5 e5 e3 TW5 O5 SN5 B5 HB6 HB5 hs34 hc0 hf0 qx qy cs0 fs0 TW2' SO4' HB4' GS
 refine(HLE.out w5).mono ?_
 rintro e wl ⟨rl,rfl,ol,bl⟩
 have sl:=bl.size
 obtain⟨Al,capl,rfl,hcl,hml,_,hfl⟩:=ol.form
 obtain⟨gl,rfl,hgl1,hgl2⟩:=hfl (by omega)
 unfold maxLen at hml
 have OL:=hDD ol.rd
 have HBL:Hid (Below (w.heap.size+1) W1 wl):=hDD (HB5'.out.trans (bl.mono (by have:=HB5'.out.size;omega)))
 have HOL:=hDD (HO5.out.below bl)
 have HTL:=hDD (HT5.out.below bl)
 have HSNL:=hDD (HSN5.out.below bl)
 have hne0:w3.heap.size+1≠gl:=by omega
 have hPg:P<gl:=by omega
 clear hfl ol bl HLE
 go_wp2
 go_loopw [8,10] (fun out i wo=> ∃(k:Nat) (o:List Int),k≤o.length∧i= .int .i64 k∧OrdOk g.2.1 o∧TwS g ls k o∧canO g=canF g.2.2 ls (41-k) k o∧OwI wo (P+1) out o∧TreeX F P P N wo out o∧OwB wo S (.slice (some ⟨S,0,none⟩) N N) (snL N o)∧RdI wo (.slice (some ⟨gl,0,none⟩) ls.length capl) ls∧out.ownBlock≠some gl∧gl<wo.heap.size∧Below (w.heap.size+1) W1 wo) (fun _ i _=>41-(intOf i).toNat)
 case atStart=>exact⟨0,[0],by simp,rfl,OK0.out,HS0.out,HCO.out,HOL.out,HTL.out,HSNL.out,OL.out,by simp[Value.ownBlock];omega,hgl2,HBL.out⟩
 case round=>
  obtain⟨k,o,hk,rfl,hok,hts0,hco,hown,htw,hsn,hrd,hne,hglt,hbel⟩:=hrel
  have HTS0:=hDD hts0
  clear hts0
  obtain⟨wo,rfl⟩: ∃wo:World,wo=wr:=⟨_,rfl⟩
  have hol:=OKL.out o hok
  have HOK:=hDD hok
  have HC:=hDD hco
  have HO:=hDD hown
  have HTW:=hDD htw
  have HSN:=hDD hsn
  have HRD:=hDD hrd
  have HNE:=hDD hne
  have HB2:=hDD hbel
  have hsz:=hbel.size
  obtain⟨A1,cap1,rfl,_,_,_,hf2⟩:=hown.form
  clear hok hco htw hbel hsn hrd hne
  by_cases hlt:k<o.length
  ·obtain⟨u,hu⟩: ∃u,o[k]? =some u:=⟨o[k],by simp⟩
   have hku:o[k]=u:=by rw[List.getElem?_eq_getElem hlt] at hu;injection hu
   have HCF:Hid (canO g=canF g.2.2 ls (41-(k+1)) (k+1) (ls.foldl (cstep g.2.2 u) o)):=hDD (by
    rw[HC.out,show 41-k=(41-(k+1))+1 by omega,canF_step _ _ _ _ _ hlt,hku])
   have HTS1:=hDD (HTS0.out.step hu (by omega))
   have HNW1:=hDD (HNW.out k o u HTS0.out hu (by omega))
   have HPU:Hid (∀m:Nat,(((ls.take m).foldl (cstep g.2.2 u) o))[k]? =some u):=hDD fun m=>cfold_prefix _ _ _ _ _ _ hu
   have HSU:Hid (∀(m:Nat) (hm:m<ls.length),(ls.take (m+1)).foldl (cstep g.2.2 u) o=cstep g.2.2 u ((ls.take m).foldl (cstep g.2.2 u) o) ls[m]):=hDD fun m hm=>cfold_succ _ _ _ _ _ hm
   have HOKm:Hid (∀m:Nat,OrdOk g.2.1 ((ls.take m).foldl (cstep g.2.2 u) o)):=hDD fun m=>OKS.out u o m HOK.out
   obtain⟨un,hun,hunN⟩: ∃un:Nat,u=(un:Int)∧un<N:=by
    have h1:=HOK.out.2.1 u (by rw[←hku];simp)
    exact⟨u.toNat,by omega,by omega⟩
   have HUN:=hDD hun
   clear hf2 hu hku hown hun
   go_wp2
   go_loopw [8,11] (fun out j wr=> ∃m:Nat,m≤ls.length∧j= .int .i64 m∧OwI wr (P+1) out ((ls.take m).foldl (cstep g.2.2 u) o)∧TreeX F P P N wr out ((ls.take m).foldl (cstep g.2.2 u) o)∧OwB wr S (.slice (some ⟨S,0,none⟩) N N) (snL N ((ls.take m).foldl (cstep g.2.2 u) o))∧RdI wr (.slice (some ⟨gl,0,none⟩) ls.length capl) ls∧out.ownBlock≠some gl∧gl<wr.heap.size∧Below (w.heap.size+1) W1 wr) (fun _ j _=>ls.length-(intOf j).toNat)
   case atStart=>exact⟨0,Nat.zero_le _,rfl,HO.out,HTW.out,HSN.out,HRD.out,HNE.out,hglt,HB2.out⟩
   case round=>
    obtain⟨m,hm1,rfl,hown,htw,hsn,hrd,hne,hblr,hbi⟩:=hrel
    obtain⟨wj,rfl⟩: ∃wj:World,wj=wr:=⟨_,rfl⟩
    have hsi:=hbi.size
    have HBI:=hDD hbi
    have HRR:=hDD hrd
    have HNR:=hDD hne
    have HTW2:=hDD htw
    have HSN2:=hDD hsn
    clear hbi htw hsn
    by_cases hlt2:m<ls.length
    ·have hokm:=HOKm.out m
     have hlm:=OKL.out _ hokm
     have hpu:=HPU.out m
     have HS:=hDD (HSU.out m hlt2)
     have HORm:=hDD (OKR.out _ hokm)
     obtain⟨_,_,hAl,_,hcl⟩:=hrd.at (by omega)
     obtain⟨rfl,rfl⟩:gl=_∧0=_:=by simpa using hAl
     have c0:=hcl m hlt2
     rw[Nat.zero_add] at c0
     have hx64:I64 ls[m]:=hrd.2 _ (by simp)
     have HNW2:=hDD (HNW1.out m hlt2)
     have HXL:Hid (∀w',RdI w' (.slice (some ⟨gl,0,none⟩) ls.length capl) ls→w'.cell? ⟨gl,m,none⟩=some (.int .i64 ls[m])):=hDD fun w' h=>by
      obtain⟨_,_,hAl,_,hcl⟩:=h.at (by omega)
      obtain⟨rfl,rfl⟩:gl=_∧0=_:=by simpa using hAl
      have:=hcl m hlt2
      rwa [Nat.zero_add] at this
     generalize ls[m]=x at c0 HS hx64 HNW2 HXL
     have HX64:=hDD hx64
     generalize (ls.take m).foldl (cstep g.2.2 u) o=om at*
     have hum:u∈om:=List.mem_of_getElem? hpu
     have HUM:=hDD hum
     have hkm:k<om.length:=(List.getElem?_eq_some_iff.1 hpu).1
     have hkg:om[k]=u:=by rw[List.getElem?_eq_getElem hkm] at hpu;injection hpu
     have HOM:=hDD hown
     obtain⟨A2,cap2,rfl,_,_,_,hf2⟩:=hown.form
     obtain⟨b2,rfl,hb21,hb22⟩:=hf2 (by omega)
     have d0:=hown.cellAt k hkm
     rw[hkg] at d0
     have HKG:Hid (∀w',OwI w' (P+1) (.slice (some ⟨b2,0,none⟩) om.length cap2) om→w'.cell? ⟨b2,k,none⟩=some (.int .i64 u)):=hDD fun w' h=>by
      have:=h.cellAt k hkm
      rwa [hkg] at this
     have NX:=hDD (NV.out u x)
     have N0:=hDD (cstep_no (es:=g.2.2) (u:=u) (x:=x) (o:=om))
     have N1:=hDD (cstep_in (es:=g.2.2) (u:=u) (x:=x) (o:=om))
     have N2:=hDD (cstep_new (es:=g.2.2) (u:=u) (x:=x) (o:=om))
     have HNX:=hDD (fun W (h:ArgG W (.agg #[.int .i64 g.1, .int .i64 (N:Int), .slice A g.2.2.length cap]) g)=>specNextVertex_any _ g u x W h (ONE.out u x))
     obtain⟨p0,p1,p2⟩:=HCL.out wj HBI.out
     have hws:w.heap.size<wj.heap.size:=by omega
     clear hcl hAl hown hrd hf2 hpu hkg hokm hx64 hum hne
     go_wp2_with fail
     have f0:=BelW.cell p0 hws
     have f1:=BelW.cell p1 hws
     have f2:=BelW.cell p2 hws
     have f3:=BelW.cell c0 hblr
     have f4:=BelW.cell d0 hb22
     (refine wp_region_quiet_bel (by kernel_rfl) (by kernel_rfl) ?_;(repeat(go_big_quiet_step (first | (go_at_call 83;exact Calls.bel_of (HNX.out _ (HA.out _ (HBI.out.trans ((BelW.h _).mono (by omega)))))))));refine wpQuiet_nil ?_;intro wq hw';obtain⟨pq,hw''⟩:=hw';have bq:=pq.h;rw[←hw''] at bq;clear hw'' pq)
     clear f0 f1 f2 f3 f4 p0 p1 p2 c0 d0
     have sq:=bq.size
     have HQ:=hDD (HBI.out.trans (bq.mono (by omega)))
     have HOQ:=hDD (HOM.out.below bq)
     have HRQ:=hDD (HRR.out.below bq)
     have HTQ:=hDD (HTW2.out.below bq)
     have HSQ:=hDD (HSN2.out.below bq)
     clear bq
     generalize nextV g.2.2 u x=y at*
     rcases NX.out with hy | hy
     ·subst hy
      have F0:=hDD (N0.out (by omega))
      go_wp2
      go_roundw
      case rel=>exact⟨m+1,by omega,by go_num,by rw[HS.out,F0.out];exact HOQ.out,by rw[HS.out,F0.out];exact HTQ.out,by rw[HS.out,F0.out];exact HSQ.out,HRQ.out,HNR.out,by omega,HQ.out⟩
      case measure=>simp[intOf];omega
     ·obtain⟨yn,rfl⟩: ∃yn:Nat,y=(yn:Int):=⟨y.toNat,by omega⟩
      have hy0:(0:Int)≤(yn:Int):=hy.1
      have hyN:(yn:Int)<(N:Int):=hy.2
      have hynN:yn<N:=by omega
      have cS:=HSQ.out.cellAt yn (by rw[snL_len];exact hynN)
      rw[snL_get N om yn hynN] at cS
      rcases h1:hasB om (yn:Int) with _ | _
      ·have hnotin:(yn:Int)∉om:=hasB_not h1
       rw[decide_eq_false hnotin] at cS
       have F0:=hDD (N2.out hy0 h1)
       have HY:Hid (I64 (yn:Int)):=hDD ⟨by omega,by omega⟩
       have HWY:=hDD (HNW2.out hy0 h1)
       obtain⟨bu,capu,cu,hwul,hru,hbu1,hbu2⟩:=HTQ.out.at_old hunN (by rw[←HUN.out];exact HUM.out)
       have HWU:Hid (F u=F (un:Int)):=hDD (by rw[HUN.out])
       have HWY2:Hid (F (yn:Int)=F (un:Int)++ [x]):=hDD (by rw[HWY.out,HWU.out])
       have fS:=HSQ.out.free yn
       have HSET:=hDD (HSQ.out.set yn true)
       rw[snL_set] at HSET
       have ctQ:=HTQ.out.at_new hynN hnotin
       generalize F (un:Int)=wu at*
       have huN':u<(N:Int):=by rw[HUN.out];omega
       have hu0':(0:Int)≤u:=by rw[HUN.out];omega
       have hkI:(k:Int)<(om.length:Int):=by omega
       have hmI:(m:Int)<(ls.length:Int):=by omega
       obtain⟨wz,hwz⟩: ∃wz,wz=wq.setCell ⟨S,yn,none⟩ (.bool true):=⟨_,rfl⟩
       have gz:wq.grownBy wz (some S):=by rw[hwz];exact HSET.out.2
       have hsz1:wz.heap.size=wq.heap.size:=by rw[hwz];simp
       have HSZ:Hid (OwB wz S (.slice (some ⟨S,0,none⟩) N N) (snL N (om++ [(yn:Int)]))):=hDD (by rw[hwz];exact HSET.out.1)
       have HTZ:=hDD (HTQ.out.other gz hPS)
       have HOZ:Hid (OwI wz (P+1) (.slice (some ⟨b2,0,none⟩) om.length cap2) om):=hDD (by rw[hwz];exact HOQ.out.far (p:=⟨S,yn,none⟩) (by show S<P+1;omega) _)
       have HRZ:=hDD (HRQ.out.grown gz fun b hb hb'=>by simp[Value.ownBlock] at hb hb';omega)
       have HRU:=hDD (hru.grown gz fun b hb hb'=>by simp[Value.ownBlock] at hb hb';omega)
       have HBZ:Hid (Below (w.heap.size+1) W1 wz):=hDD (HQ.out.grown gz (by have:=HQ.out.size;omega) (fun c hc=>by injection hc with hc;omega))
       have HWZ:=hDD hwz
       have hb2z:b2<wz.heap.size:=by rw[hsz1];omega
       have hglz:gl<wz.heap.size:=by rw[hsz1];omega
       have hbuz:bu<wz.heap.size:=by rw[hsz1];omega
       have hPz:P<wz.heap.size:=by omega
       have hSPz:P≤wz.heap.size:=by omega
       have GZ:Hid (wz.heap[P]? =wq.heap[P]?):=hDD (gz.block P (by omega) (fun e=>by injection e with e;omega))
       have huy:(yn:Int)≠u:=fun e=>hnotin (by rw[e];exact HUM.out)
       have hn0:(⟨P,yn,none⟩:Addr)≠⟨b2,k,none⟩:=fun e=>by injection e with e1;omega
       have hn1:(⟨P,yn,none⟩:Addr)≠⟨P,u.toNat,none⟩:=fun e=>by injection e with e1 e2;omega
       have hn2:(⟨P,yn,none⟩:Addr)≠⟨gl,m,none⟩:=fun e=>by injection e with e1;omega
       clear hwz gz hru hnotin hsz1 huy
       have HN0:Hid (∀(W':World) (z:Value),W'.cell? ⟨b2,k,none⟩=some (.int .i64 u)→(W'.setCell ⟨P,yn,none⟩ z).cell? ⟨b2,k,none⟩=some (.int .i64 u)):=hDD fun W' z h=>((by first | exact World.cell?_setCell_other _ hn0 | exact World.cell?_setCell_other _ _ hn0 | exact World.cell?_setCell_other _ _ _ _ hn0 | exact World.cell?_setCell_other _ _ _ _ _ hn0):(W'.setCell _ z).cell? _=W'.cell? _).trans h
       have HN1:Hid (∀(W':World) (z y:Value),W'.cell? ⟨P,u.toNat,none⟩=some y→(W'.setCell ⟨P,yn,none⟩ z).cell? ⟨P,u.toNat,none⟩=some y):=hDD fun W' z y h=>((by first | exact World.cell?_setCell_other _ hn1 | exact World.cell?_setCell_other _ _ hn1 | exact World.cell?_setCell_other _ _ _ _ hn1 | exact World.cell?_setCell_other _ _ _ _ _ hn1):(W'.setCell _ z).cell? _=W'.cell? _).trans h
       have HN2:Hid (∀(W':World) (z:Value),W'.cell? ⟨gl,m,none⟩=some (.int .i64 x)→(W'.setCell ⟨P,yn,none⟩ z).cell? ⟨gl,m,none⟩=some (.int .i64 x)):=hDD fun W' z h=>((by first | exact World.cell?_setCell_other _ hn2 | exact World.cell?_setCell_other _ _ hn2 | exact World.cell?_setCell_other _ _ _ _ hn2 | exact World.cell?_setCell_other _ _ _ _ _ hn2):(W'.setCell _ z).cell? _=W'.cell? _).trans h
       clear hn0 hn1 hn2
       go_wp2_with fail
       rw[←HWZ.out]
       have k0:=HKG.out wz HOZ.out
       have k1:wz.cell? ⟨P,u.toNat,none⟩=some (.slice (some ⟨bu,0,none⟩) wu.length capu):=by
        rw[HUN.out,Int.toNat_natCast]
        exact(World.cell?_of_block GZ.out).trans cu
       have k2:=HXL.out wz HRZ.out
       have k3:wz.cell? ⟨P,yn,none⟩=some (.slice none 0 0):=(World.cell?_of_block GZ.out).trans ctQ
       have k4:=HTZ.out.free yn
       clear cS fS cu ctQ HWZ
       have hRR:Hid (RdI (wz.drew.alloc (.cells #[] 3)) (.slice (some ⟨bu,0,none⟩) wu.length capu) wu):=hDD (HRU.out.drew.alloc _)
       have HRB:Hid (RdI ((wz.alloc (.cells #[] 3)).alloc (.cells #[.int .i64 x] 3)).drew (.slice (some ⟨bu,0,none⟩) wu.length capu) wu):=hDD (((HRU.out.alloc (.cells #[] 3)).alloc (.cells #[.int .i64 x] 3)).drew)
       have HRC:Hid (RdI ((wz.alloc (.cells #[.int .i64 x] 3)).alloc (.cells #[] 3)).drew (.slice (some ⟨bu,0,none⟩) wu.length capu) wu):=hDD (((HRU.out.alloc (.cells #[.int .i64 x] 3)).alloc (.cells #[] 3)).drew)
       have HOB:=hDD (((OwI_lit wz [] I64s_nil (by simp) (Nat.le_refl _)).alloc (.cells #[.int .i64 x] 3)).drew)
       have HOC:Hid (OwI ((wz.alloc (.cells #[.int .i64 x] 3)).alloc (.cells #[] 3)).drew wz.heap.size (.slice (some ⟨wz.heap.size+1,0,none⟩) 0 0) []):=hDD (OwI_litN (wz.alloc (.cells #[.int .i64 x] 3)) [] (wz.heap.size+1) (by simp) I64s_nil (by simp) (by omega))
       have HXB:Hid (RdI ((wz.alloc (.cells #[] 3)).alloc (.cells #[.int .i64 x] 3)).drew (.slice (some ⟨wz.heap.size+1,0,none⟩) 1 1) [x]):=hDD (by have:=RdI_new1 (wz.alloc (.cells #[] 3)) x HX64.out;simpa using this.drew)
       have HXC:Hid (RdI ((wz.alloc (.cells #[.int .i64 x] 3)).alloc (.cells #[] 3)).drew (.slice (some ⟨wz.heap.size,0,none⟩) 1 1) [x]):=hDD (((RdI_new1 wz x HX64.out).alloc (.cells #[] 3)).drew)
       have HBB:Hid (Below wz.heap.size wz ((wz.alloc (.cells #[] 3)).alloc (.cells #[.int .i64 x] 3)).drew):=hDD ((((Below.refl wz.heap.size wz).alloc (Nat.le_refl _) _).alloc (by simp) _).drew)
       have HBC:Hid (Below wz.heap.size wz ((wz.alloc (.cells #[.int .i64 x] 3)).alloc (.cells #[] 3)).drew):=hDD ((((Below.refl wz.heap.size wz).alloc (Nat.le_refl _) _).alloc (by simp) _).drew)
       go_region_held3 (fun w'=>w'.cell? ⟨b2,k,none⟩=some (.int .i64 u)∧w'.cell? ⟨P,u.toNat,none⟩=some (.slice (some ⟨bu,0,none⟩) wu.length capu)∧w'.cell? ⟨gl,m,none⟩=some (.int .i64 x))
        (first | go_keep | (exact⟨(hc1 _ _ hb2z).trans k0,(hc1 _ _ hPz).trans k1,(hc1 _ _ hglz).trans k2⟩) | (exact⟨HN0.out _ _ ((hc1 _ _ hb2z).trans k0),HN1.out _ _ _ ((hc1 _ _ hPz).trans k1),HN2.out _ _ ((hc1 _ _ hglz).trans k2)⟩) | (exact⟨(hc0 _ _ hb2z).trans k0,(hc0 _ _ hPz).trans k1,(hc0 _ _ hglz).trans k2⟩))
        (first
         | (refine step_append_ints rfl (.tmp 67) (.tmp 74) rfl wz.heap.size _ [] (OwI_litN _ [] wz.heap.size (by simp[World.drew,World.drewN]) I64s_nil (by simp) (Nat.le_refl _)) (by rfl) _ wu ?_ (by rfl) (by simp;omega) (by simp) ?_;(exact hRR.out);intro v1 w1 o1 g1 p1;rw[List.nil_append] at o1;have hb0:=(((Below.refl wz.heap.size wz).drew).alloc (Nat.le_refl _) (.cells #[] 3));have hb1:=hb0.grown g1 hb0.size (fun k hk=>by simp[Value.ownBlock] at hk;omega);have O1:=hDD o1;have B1:=hDD hb1;obtain⟨hc0,hf0⟩:=bcellN hb1;have hz1:=hb1.size;clear o1 hb0 hb1 g1 p1 hRR HRB HRC HOB HOC HXB HXC HBB HBC)
         | (refine step_append_ints rfl (.tmp 67) (.tmp 74) rfl wz.heap.size _ [] HOB.out (by rfl) _ wu HRB.out (by rfl) (by simp;omega) HBB.out.size ?_;intro v1 w1 o1 g1 p1;rw[List.nil_append] at o1;have hb1:=HBB.out.grown g1 HBB.out.size (fun k hk=>by simp[Value.ownBlock] at hk;omega);have HX:=hDD (HXB.out.grown g1 (fun b e1 e2=>by simp[Value.ownBlock] at e1 e2;omega));have O1:=hDD o1;have B1:=hDD hb1;obtain⟨hc0,hf0⟩:=bcellN hb1;have hz1:=hb1.size;clear o1 hb1 g1 p1 hRR HRB HRC HOB HOC HXB HXC HBB HBC)
         | (refine step_append_ints rfl (.tmp 67) (.tmp 74) rfl wz.heap.size _ [] HOC.out (by rfl) _ wu HRC.out (by rfl) (by simp;omega) HBC.out.size ?_;intro v1 w1 o1 g1 p1;rw[List.nil_append] at o1;have hb1:=HBC.out.grown g1 HBC.out.size (fun k hk=>by simp[Value.ownBlock] at hk;omega);have HX:=hDD (HXC.out.grown g1 (fun b e1 e2=>by simp[Value.ownBlock] at e1 e2;omega));have O1:=hDD o1;have B1:=hDD hb1;obtain⟨hc0,hf0⟩:=bcellN hb1;have hz1:=hb1.size;clear o1 hb1 g1 p1 hRR HRB HRC HOB HOC HXB HXC HBB HBC)
         | (refine step_append_ints rfl (.tmp 75) (.tmp 80) rfl wz.heap.size _ wu (O1.out.alloc _) (by rfl) _ [x] (RdI_new1 _ x HX64.out) (by rfl) (by simp;omega) (by simp;omega) ?_;intro v2 w2 o2 g2 p2;have hb2:=((B1.out.alloc hz1 (.cells #[.int .i64 x] 3)).grown g2 (by simp;omega) (fun k hk=>(O1.out.1.lt k hk).1));have B2:=hDD hb2;obtain⟨hc1,hf1⟩:=bcellN hb2;have k5:=(hf1 _ _ hPz).trans k4;have k6:=(hc1 _ _ hPz).trans k3;have hz2:=hb2.size;obtain⟨A8,c8,hv2,_,_,_,hf8⟩:=OwI.form o2;obtain⟨b8,hA8,hb81,hb82⟩:=hf8 (by simp);rw[List.length_append,List.length_singleton,hA8] at hv2;subst hv2;have O2:=hDD o2;clear o2 hb2 g2 p2 hz1 B1 hf8)
         | (refine step_append_ints rfl (.tmp 75) (.tmp 80) rfl wz.heap.size _ wu O1.out (by rfl) _ [x] HX.out (by rfl) (by simp;omega) hz1 ?_;intro v2 w2 o2 g2 p2;have hb2:=(B1.out.grown g2 hz1 (fun k hk=>(O1.out.1.lt k hk).1));have B2:=hDD hb2;obtain⟨hc1,hf1⟩:=bcellN hb2;have k5:=(hf1 _ _ hPz).trans k4;have k6:=(hc1 _ _ hPz).trans k3;have hz2:=hb2.size;obtain⟨A8,c8,hv2,_,_,_,hf8⟩:=OwI.form o2;obtain⟨b8,hA8,hb81,hb82⟩:=hf8 (by simp);rw[List.length_append,List.length_singleton,hA8] at hv2;subst hv2;have O2:=hDD o2;clear o2 hb2 g2 p2 hz1 B1 HX hf8))
       all_goals (
 have hgS:w2.grownBy (w2.setCell ⟨P,yn,none⟩ (.slice (some ⟨b8,0,none⟩) (wu.length+1) c8)) (some P):=set_grown _ _ _ _
 have hPw2:P<w2.heap.size:=by omega
 have TWS:=(HTZ.out.below B2.out).set (b:=b8) (cap:=c8) hynN HWY2.out (by have h:=O2.out.mono (base':=P) (by omega);rw[List.length_append,List.length_singleton];exact h) (by simp;omega) (by omega) (fun e=>by simp[Value.ownBlock] at e;omega) hb82
 simp only[List.length_append,List.length_cons,List.length_nil,Nat.zero_add] at TWS
 have HTS:=hDD TWS
 have HOS:Hid (OwI (w2.setCell ⟨P,yn,none⟩ (.slice (some ⟨b8,0,none⟩) (wu.length+1) c8)) (P+1) (.slice (some ⟨b2,0,none⟩) om.length cap2) om):=hDD ((HOZ.out.below B2.out).far (p:=⟨P,yn,none⟩) (by show P<P+1;omega) _)
 have HSS:Hid (OwB (w2.setCell ⟨P,yn,none⟩ (.slice (some ⟨b8,0,none⟩) (wu.length+1) c8)) S (.slice (some ⟨S,0,none⟩) N N) (snL N (om++ [(yn:Int)]))):=hDD (World.ownsRow.kept (HSZ.out.below B2.out) hgS (.inr fun e=>by simp[Value.ownBlock] at e;omega))
 have HRS:Hid (RdI (w2.setCell ⟨P,yn,none⟩ (.slice (some ⟨b8,0,none⟩) (wu.length+1) c8)) (.slice (some ⟨gl,0,none⟩) ls.length capl) ls):=hDD ((HRZ.out.below B2.out).grown hgS fun b hb hb'=>by simp[Value.ownBlock] at hb hb';omega)
 have HBS:Hid (Below (w.heap.size+1) W1 (w2.setCell ⟨P,yn,none⟩ (.slice (some ⟨b8,0,none⟩) (wu.length+1) c8))):=hDD ((HBZ.out.trans (B2.out.mono (by omega))).setCell (by show w.heap.size+1≤P;omega) _)
 have hsS:(w2.setCell ⟨P,yn,none⟩ (.slice (some ⟨b8,0,none⟩) (wu.length+1) c8)).heap.size=w2.heap.size:=by simp
 generalize w2.setCell ⟨P,yn,none⟩ (.slice (some ⟨b8,0,none⟩) (wu.length+1) c8)=wT at*
 clear k0 k1 k2 k3 k4 k5 k6 TWS hgS hc1 hf1
 have hwT1:w2.heap.size≤wT.heap.size:=by omega
 have hwT2:wT.heap.size≤w2.heap.size:=by omega
 clear hsS
 go_wp2_with (at_builtin;refine push_int rfl (.tmp 83) (.tmp 85) rfl _ _ _ (OwI.alloc HOS.out _) rfl _ _ rfl (cell_new1 _ _ _) HY.out (by first | omega | (simp<;>omega)) (by first | omega | (simp<;>omega)) ?_;intro v9 wv9 o9 g9 p9)
 have hz9:=g9.size
 simp at hz9
 go_roundw
 case rel=>
  refine⟨m+1,by omega,by go_num,by rw[HS.out,F0.out];exact o9,by rw[HS.out,F0.out];exact HTS.out.push g9 p9,by rw[HS.out,F0.out];exact World.ownsRow.kept (HSS.out.alloc _) g9 (.inr fun e=>by simp[Value.ownBlock] at e;omega),(HRS.out.alloc _).grown g9 (fun b hb hb'=> ?_),fun e=> ?_,by omega,bel_push HBS.out (by omega) HOS.out.1 (by omega) g9⟩
  ·simp only[Value.ownBlock,Option.some.injEq] at hb
   subst hb
   exact HNR.out hb'
  ·rcases p9 with p9 | p9
   ·rw[p9] at e;exact HNR.out e
   ·rw[p9] at e;simp at e;omega
 case measure=>simp[intOf];omega)
      ·have F0:=hDD (N1.out hy0 h1)
       rw[decide_eq_true (hasB_iff.1 h1)] at cS
       go_wp2
       go_roundw
       case rel=>exact⟨m+1,by omega,by go_num,by rw[HS.out,F0.out];exact HOQ.out,by rw[HS.out,F0.out];exact HTQ.out,by rw[HS.out,F0.out];exact HSQ.out,HRQ.out,HNR.out,by omega,HQ.out⟩
       case measure=>simp[intOf];omega
    ·obtain rfl:m=ls.length:=by omega
     rw[List.take_length] at hown HTW2 HSN2
     have hokm:=HOKm.out ls.length
     rw[List.take_length] at hokm
     have HOKF:=hDD hokm
     have HOM:=hDD hown
     have hlen:k+1≤(ls.foldl (cstep g.2.2 u) o).length:=by
      have:=HPU.out ls.length
      rw[List.take_length] at this
      have:=(List.getElem?_eq_some_iff.1 this).1
      omega
     obtain⟨A2,cap2,rfl,_⟩:=hown.form
     clear hown hrd hne hokm
     go_wp2
     go_roundw
     case rel=>exact⟨k+1,_,hlen,by go_num,HOKF.out,HTS1.out,HCF.out,HOM.out,HTW2.out,HSN2.out,HRR.out,HNR.out,hblr,HBI.out⟩
     case measure=>simp[intOf];omega
  ·obtain rfl:k=o.length:=by omega
   have F':Hid (canO g=o):=hDD (by rw[HC.out,canF_end])
   have HBW:Hid (Below w.heap.size w wo):=hDD (BX.out.trans (HB2.out.mono (by omega)))
   have HTF:Hid (TreeX F w.heap.size P N wo (.slice A1 o.length cap1) o):=hDD (HTW.out.base (by omega))
   clear hown hf2
   go_wp2
   exact bodyPost_ret (v:= .tuple #[.slice (some ⟨S,0,none⟩) N N, .slice (some ⟨P,0,none⟩) N N]) (by simp[results,Tryz.results148]) rfl ⟨S,P,_,rfl,by rw[F'.out];exact OwB.mono HSN.out (by omega),by rw[F'.out];exact HTF.out,HBW.out⟩
set_option maxHeartbeats 2000000 in
theorem specPathWord_any (v:Value) (g:GrD) (y:Int) (w:World) (h:ArgG w v g) (hf:foldB g=true) (hy:y∈canO g):
  Calls Tryz.prog 120 #[v, .int .i64 0, .int .i64 y] w fun e w'=> ∃r,e= .returned (.tuple #[r, .bool true])∧OwI w' w.heap.size r (wdO g y)∧Below w.heap.size w w':=by
 have HG:=hDD h
 have HF:=hDD hf
 obtain⟨hg,hfol⟩:=foldB_parts hf
 obtain⟨hr13,hsz40,hl120,_⟩:=grB_parts hg
 have hyr:=(canO_ok hg).2.1 y hy
 have hwl:=wd_len hg hy
 have HYM:=hDD hy
 obtain⟨s,rfl,hi1,hi2,ha⟩:=h
 obtain⟨A,cap,rfl⟩:=ha.form
 have HSE:=hDD (fun W' (h:ArgG W' (.agg #[.int .i64 g.1, .int .i64 g.2.1, .slice A g.2.2.length cap]) g)=>l5Search_any _ g W' h hf)
 have HFO:=hDD (fun W' (h:ArgG W' (.agg #[.int .i64 g.1, .int .i64 g.2.1, .slice A g.2.2.length cap]) g)=>specIsFolded_any _ g W' h)
 rw[HF.out] at HFO
 obtain⟨O,hO⟩: ∃O,O=canO g:=⟨_,rfl⟩
 obtain⟨F,hFF⟩: ∃F,F=wdO g:=⟨_,rfl⟩
 rw[←hO] at HYM HSE
 rw[←hFF] at HSE hwl⊢
 obtain⟨g1,n,es⟩:=g
 simp only at*
 clear hO hFF hy hg hfol ha hf
 obtain⟨N,rfl⟩: ∃N:Nat,n=(N:Int):=⟨n.toNat,by omega⟩
 simp only[Int.toNat_natCast] at HSE
 obtain⟨yn,rfl⟩: ∃yn:Nat,y=(yn:Int):=⟨y.toNat,by omega⟩
 have hwn:IntKind.i64.wrap ((N:Int)-1)=(N:Int)-1:=by rw[IntKind.wrap_i64];omega
 have hin0:inB 0 0 ((N:Int)-1)=true:=by unfold inB;simp;omega
 have hiny:inB (yn:Int) 0 ((N:Int)-1)=true:=by unfold inB;simp;omega
 have hy0:(0:Int)≤(yn:Int):=by omega
 have hyN:(yn:Int)<(N:Int):=hyr.2
 have hynN:yn<N:=by omega
 obtain⟨wu,hwu⟩: ∃wu,wu=F (yn:Int):=⟨_,rfl⟩
 rw[←hwu] at hwl⊢
 have HWU:=hDD hwu
 clear hwu
 go_enter Tryz.func120,Tryz.ntmps120
 go_wp2_with fail
 obtain⟨W,hW⟩: ∃W,W=w.alloc (Obj.cells #[Value.int IntKind.i64 g1,Value.int IntKind.i64 (N:Int), .slice A es.length cap] 26):=⟨_,rfl⟩
 obtain⟨hsW,b1,hc1⟩:=gboxE hW
 rw[←hW]
 have BX:=hDD b1
 have HCL:=hDD hc1
 have HA:Hid (∀w',Below (w.heap.size+1) W w'→ArgG w' (.agg #[.int .i64 g1, .int .i64 (N:Int), .slice A es.length cap]) (g1,(N:Int),es)):=hDD fun w' hb=>HG.out.below (BX.out.trans (hb.mono (by omega)))
 have hW1:w.heap.size+1≤W.heap.size:=by omega
 clear hW hc1 b1 hsW
 refine(HFO.out W (HA.out W ((Below.refl W.heap.size W).mono (by omega)))).mono ?_
 rintro e w2 ⟨rfl,b2⟩
 have hs2:=b2.size
 have B2:Hid (Below (w.heap.size+1) W w2):=hDD (b2.mono hW1)
 clear b2
 obtain⟨q0,q1,q2⟩:=HCL.out w2 B2.out
 go_wp2_with (go_at_call 68;refine(l1In_any _ _ _ _).mono ?_;rintro e w' ⟨rfl,rfl⟩)
 refine(HSE.out w2 (HA.out w2 B2.out)).mono ?_
 rintro e w3 ⟨S,P,ord,rfl,sn,tx,b3⟩
 have hs3:=b3.size
 have B3:Hid (Below (w.heap.size+1) W w3):=hDD (B2.out.trans (b3.mono (by omega)))
 have cS:=OwB.cellAt sn yn (by rw[snL_len];exact hynN)
 rw[snL_get N O yn hynN,decide_eq_true HYM.out] at cS
 obtain⟨bu,capu,cu,_,hru,hbu,hPb0⟩:=tx.at_old hynN HYM.out
 rw[←HWU.out] at cu hru
 have hPb:P<w3.heap.size:=by omega
 have cu2:=((((Below.refl w3.heap.size w3).alloc (Nat.le_refl _) (.cells #[] 3))).cell (p:=⟨P,yn,none⟩) hPb).trans cu
 have HRU:=hDD hru
 have HBF:=hDD (BX.out.trans (B3.out.mono (by omega)))
 clear sn tx b3 hru q0 q1 q2
 go_wp2_with (at_builtin;refine append_ints rfl (.tmp 42) (.tmp 46) rfl w3.heap.size _ [] (OwI_lit w3 [] I64s_nil (by simp) (Nat.le_refl _)) rfl _ wu (HRU.out.alloc _) rfl (by simp;omega) (by simp) ?_;intro v6 w6 o6 g6 p6;rw[List.nil_append] at o6;have O6:=hDD o6;have B6:Hid (Below w3.heap.size w3 w6):=hDD (((Below.refl w3.heap.size w3).alloc (Nat.le_refl _) (.cells #[] 3)).grown g6 (by simp) (fun k hk=>by simp[Value.ownBlock] at hk;omega));clear o6 g6 p6)
 have HB:=hDD (HBF.out.trans (B6.out.mono (by omega)))
 exact bodyPost_ret (v:= .tuple #[v6, .bool true]) (by simp[results,Tryz.results120]) rfl ⟨_,rfl,O6.out.mono (by omega),HB.out⟩
set_option maxHeartbeats 1000000 in
theorem specTreeWord_any (v:Value) (g:GrD) (y:Int) (w:World) (h:ArgG w v g) (hf:foldB g=true) (hy:y∈canO g):
  Calls Tryz.prog 79 #[v, .int .i64 y] w fun e w'=> ∃r,e= .returned r∧OwI w' w.heap.size r (wdO g y)∧Below w.heap.size w w':=by
 have HG:=hDD h
 obtain⟨s,rfl,hi1,hi2,ha⟩:=h
 obtain⟨A,cap,rfl⟩:=ha.form
 have HPW:=hDD (fun W' (h:ArgG W' (.agg #[.int .i64 g.1, .int .i64 g.2.1, .slice A g.2.2.length cap]) g)=>specPathWord_any _ g y W' h hf hy)
 obtain⟨g1,n,es⟩:=g
 simp only at*
 generalize wdO (g1,n,es) y=wu at*
 clear ha hf hy
 go_enter Tryz.func79,Tryz.ntmps79
 go_wp2_with fail
 obtain⟨W,hW⟩: ∃W,W=w.alloc (Obj.cells #[Value.int IntKind.i64 g1,Value.int IntKind.i64 n, .slice A es.length cap] 26):=⟨_,rfl⟩
 obtain⟨hsW,b1,hc1⟩:=gboxE hW
 rw[←hW]
 have BX:=hDD b1
 have hW1:w.heap.size+1≤W.heap.size:=by omega
 clear hW hc1 b1 hsW
 refine(HPW.out W (HG.out.below BX.out)).mono ?_
 rintro e w3 ⟨r3,rfl,o3,b3⟩
 have O3:=hDD o3
 have HB:=hDD (BX.out.trans (b3.mono (by omega)))
 clear o3 b3
 go_wp2
 go_ret
 exact⟨_,rfl,O3.out.mono (by omega),HB.out⟩
end Go.Proofs.YteobmaambgmdbaaGreat
namespace Go.Proofs.YteobmaambgmdbaaGreat
set_option maxRecDepth 20000
set_option linter.unusedVariables false
set_option linter.unusedSimpArgs false
open Go.RowKit
theorem lt_cell0 {w:World} {b o:Nat} {v:Value} (h:w.cell? ⟨b,o,none⟩=some v):b<w.heap.size:=by
 rcases Nat.lt_or_ge b w.heap.size with h' | h'
 ·exact h'
 ·simp[World.cell?,Array.getElem?_eq_none h'] at h
theorem ArgC.below {w w':World} {v:Value} {cs:List Int} (h:ArgC w v cs) (hb:Below w.heap.size w w'):ArgC w' v cs:=by
 obtain⟨A,cap,hv,h1,h2,h3,h4⟩:=h
 refine⟨A,cap,hv,h1,h2,h3,fun h0=> ?_⟩
 obtain⟨b,off,hA,hc⟩:=h4 h0
 exact⟨b,off,hA,fun i hi=>(World.cell?_of_block (w:=w) (hb.block b (lt_cell0 (hc 0 h0)))).trans (hc i hi)⟩
set_option maxHeartbeats 400000 in
theorem sameInts_any (v u:Value) (xs ys:List Int) (w:World) (h:ArgI w v xs) (h':ArgI w u ys):
  Calls Tryz.prog 34 #[v,u] w fun e w'=>e= .returned (.bool (decide (xs=ys)))∧ ∃n,w'=w.drewN n:=by
 obtain⟨A,cap,rfl,hcap,hm,hr,hb⟩:=h
 obtain⟨A',cap',rfl,hcap',hm',hr',hb'⟩:=h'
 unfold maxLen at hm hm'
 by_cases hne:xs.length=ys.length
 ·have hd:((xs.length:Int) != (ys.length:Int))=false:=by simp[hne]
  have HNE:=hDD hne
  clear hne
  go_enter Tryz.func34,Tryz.ntmps34
  go_wp2
  go_loopw [5] (fun i wr=> ∃k:Nat,k≤xs.length∧i= .int .i64 k∧xs.take k=ys.take k∧ ∃n,wr=w.drewN n) (fun i _=>xs.length-(intOf i).toNat)
  case atStart=>exact⟨0,Nat.zero_le _,rfl,by simp,0,rfl⟩
  case round=>
   obtain⟨k,hk,rfl,heq,n,rfl⟩:=hrel
   have HEQ:=hDD heq
   clear heq
   by_cases hlt:k<xs.length
   ·obtain⟨b,off,rfl,hc⟩:=hb (by omega)
    have hlt':k<ys.length:=by have:=HNE.out;omega
    obtain⟨b',off',rfl,hc'⟩:=hb' (by omega)
    have hcell:=hc k hlt
    have hcell':=hc' k hlt'
    clear hc hc' hb hb'
    by_cases hx:xs[k]=ys[k]
    ·have hx1:(xs[k] != ys[k])=false:=by simp[hx]
     have HX:=hDD hx
     clear hx
     go_wp2
     go_quiet (fail)
     go_wp2
     go_roundw
     case rel=>exact⟨k+1,by omega,by go_num,take_eq_succ HEQ.out hlt hlt' HX.out,_,rfl⟩
     case measure=>simp[intOf];omega
    ·have hx1:(xs[k] != ys[k])=true:=by simp[hx]
     go_wp2
     go_quiet (fail)
     go_wp2
     go_ret
     exact⟨ret_bool (by symm;rw[decide_eq_false_iff_not];rintro rfl;exact hx rfl),_,World.drewN_drewN _ _ _⟩
   ·obtain rfl:k=xs.length:=by omega
    go_wp2
    go_ret
    refine⟨ret_bool ?_,n,rfl⟩
    have h1:=HEQ.out
    rw[List.take_length,HNE.out,List.take_length] at h1
    simp[h1]
 ·have hd:((xs.length:Int) != (ys.length:Int))=true:=by simp;omega
  go_enter Tryz.func34,Tryz.ntmps34
  go_wp2
  go_ret
  exact⟨ret_bool (by symm;rw[decide_eq_false_iff_not];rintro rfl;exact hne rfl),0,rfl⟩
def LsW (w:World) (v:Value) (L:List (List Int)):Prop:= ∃lo hi,OwII lo hi v L w∧hi≤w.heap.size
theorem LsW.below {w w':World} {v:Value} {L:List (List Int)} (h:LsW w v L) (hb:Below w.heap.size w w'):LsW w' v L:=by
 obtain⟨lo,hi,h,hh⟩:=h
 exact⟨lo,hi,h.keep EI.stable fun b _ hb'=>hb.block b (by omega),Nat.le_trans hh hb.size⟩
theorem LsW.form {w:World} {v:Value} {L:List (List Int)} (h:LsW w v L): ∃A c,v= .slice A L.length c:=by
 obtain⟨lo,hi,h,hh⟩:=h
 obtain⟨A,c,hv,_⟩:=h.len
 exact⟨A,c,hv⟩
theorem LsW.row {w:World} {A:Option Addr} {c:Nat} {L:List (List Int)} (h:LsW w (.slice A L.length c) L) {k:Nat} (hk:k<L.length):
  ∃g A2 c2,A=some ⟨g,0,none⟩∧g<w.heap.size∧w.cell? ⟨g,k,none⟩=some (.slice A2 L[k].length c2)∧RdI w (.slice A2 L[k].length c2) L[k]:=by
 obtain⟨lo,hi,h,hh⟩:=h
 obtain⟨g,cs,Fe,hA,_,hg,hE,hcw,_,_,hc,_⟩:=h.focus EI.stable hk
 obtain⟨s,rfl,ho,_⟩:=hE
 have c0:=hc 0 (by simp)
 simp only[List.getElem_cons_zero,Nat.add_zero,Nat.mul_one] at c0
 obtain⟨A2,c2,rfl,_⟩:=OwI.form ho
 refine⟨g,A2,c2,hA,by omega,c0,ho.rd⟩
theorem big_any (v:Value) (cs:List Int) (w:World) (h:ArgC w v cs):
  Calls Tryz.prog 6 #[v] w fun e w'=>e= .returned (.bool (decide ((1048576:Int)<cs.length)))∧w=w':=by
 obtain⟨A,cap,rfl,_⟩:=h
 go_enter Tryz.func6,Tryz.ntmps6
 go_wp2
 exact bodyPost_ret (v:= .bool (decide ((1048576:Int)<cs.length))) (by simp[results,Tryz.results6,go_sem]) rfl ⟨rfl,rfl⟩
end Go.Proofs.YteobmaambgmdbaaGreat
namespace Go.Proofs.YteobmaambgmdbaaGreat
set_option maxRecDepth 20000
set_option linter.unusedVariables false
set_option linter.unusedSimpArgs false
open Go.RowKit
theorem OwII.nilT (w:World) (lo:Nat) (q:Nat) (hq:q=w.heap.size) (hlo:lo≤w.heap.size):OwII lo (q+1) (.slice (some ⟨q,0,none⟩) 0 0) [] (w.alloc (.cells #[] 27)):=by
 subst hq;exact OwII_lit w hlo
theorem OwII.belowL {lo hi:Nat} {w w':World} {v:Value} {L:List (List Int)} (h:OwII lo hi v L w) (hh:hi≤w.heap.size) (hb:Below w.heap.size w w'):OwII lo w'.heap.size v L w':=
 (OwnL.keep h EI.stable fun b _ h2=>hb.block b (by omega)).widen (Nat.le_refl _) (Nat.le_trans hh hb.size)
end Go.Proofs.YteobmaambgmdbaaGreat
namespace Go.Proofs.YteobmaambgmdbaaGreat
set_option maxRecDepth 20000
set_option linter.unusedVariables false
set_option linter.unusedSimpArgs false
open Go.RowKit
end Go.Proofs.YteobmaambgmdbaaGreat
namespace Go.Proofs.YteobmaambgmdbaaGreat
set_option maxRecDepth 20000
set_option linter.unusedVariables false
set_option linter.unusedSimpArgs false
open Go.RowKit
section
variable {g:GrD} (hg:grB g=true) (hf:Fol g.2.2)
include hg
theorem walk_iff {w:List Int} (hn:NoB w) {v:Int} (hv:0≤v∧v<g.2.1) {u:Int} (hu:0≤u):walkF g.2.2 v w=u↔runS g.2.2 (v,[]) w=(u,[]):=by
 constructor
 ·intro e
  rw[run_walk (by omega),e]
 ·intro e
  rcases Int.lt_or_le (walkF g.2.2 v w) 0 with q | q
  ·have:=run_stop hg hn hv q
   rw[e] at this
   exact absurd rfl this
  ·rw[run_walk q] at e
   injection e
omit hg in
theorem NoB.tailP {a:Int} {l:List Int} (h:NoB (a::l)):NoB l:=by
 cases l with
 | nil=>trivial
 | cons b l=>exact h.2
omit hg in
theorem NoB.drop {l:List Int} (h:NoB l): ∀n,NoB (l.drop n)
 | 0=>h
 | n+1=>by
   cases l with
   | nil=>trivial
   | cons a l=>exact NoB.drop h.tailP n
include hf
end
theorem fin_next {g:GrD} (hfi:finB g=true) {v x:Int} (hv:0≤v∧v<g.2.1) (hx:x∈lettersL g.1.toNat):0≤nextV g.2.2 v x:=by
 unfold finB at hfi
 simp only[Bool.and_eq_true,decide_eq_true_eq] at hfi
 have h0:misU g g.2.1.toNat= []:=List.eq_nil_of_length_eq_zero hfi.2
 have key: ∀n:Nat,misU g n= []→ ∀k:Nat,k<n→misV g (k:Int) (lettersL g.1.toNat)= []:=by
  intro n
  induction n with
  | zero=>intro _ k hk;omega
  | succ n ih=>
    intro h k hk
    unfold misU at h
    obtain⟨ha,hb⟩:=List.append_eq_nil_iff.1 h
    rcases Nat.lt_or_ge k n with q | q
    ·exact ih ha k q
    ·have:k=n:=by omega
     subst this;exact hb
 have:=key _ h0 v.toNat (by omega)
 rw[Int.toNat_of_nonneg hv.1] at this
 unfold misV at this
 rw[List.map_eq_nil_iff,List.filter_eq_nil_iff] at this
 have:=this x hx
 simp at this
 exact this
theorem fin_walk {g:GrD} (hg:grB g=true) (hfi:finB g=true): ∀ {w:List Int} {v:Int},(0≤v∧v<g.2.1)→(∀x∈w,x∈lettersL g.1.toNat)→0≤walkF g.2.2 v w∧walkF g.2.2 v w<g.2.1
 | [],v,hv,_=>hv
 | x::w,v,hv,hw=>by
   have h1:=fin_next hfi hv (hw x (by simp))
   have h2:=nextV_range hg v x
   rw[walkF_cons,if_neg (by omega)]
   exact fin_walk hg hfi (by omega) fun y hy=>hw y (by simp[hy])
theorem word_letters {r:Int} {w:List Int} (hw:wordB r w=true): ∀x∈w,x∈lettersL r.toNat:=fun x hx=>by
 have h1:=wordB_rank hw
 have h2:=wordB_let hw hx
 unfold letB at h2
 rw[show wrap64 (-r)= -r from IntWalk.wrap64_in _ ⟨by omega,by omega⟩] at h2
 simp only[Bool.and_eq_true,inB_iff] at h2
 have h3:x≠0:=by simpa using h2.1
 exact letters_mem.2 (by omega)
end Go.Proofs.YteobmaambgmdbaaGreat
namespace Go.Proofs.YteobmaambgmdbaaGreat
set_option maxRecDepth 20000
set_option linter.unusedVariables false
set_option linter.unusedSimpArgs false
open Go.RowKit
end Go.Proofs.YteobmaambgmdbaaGreat
namespace Go.Proofs.YteobmaambgmdbaaGreat
set_option maxRecDepth 20000
set_option linter.unusedVariables false
set_option linter.unusedSimpArgs false
open Go.RowKit
set_option maxHeartbeats 2000000 in
theorem sameWordsR_any (v u:Value) (ds ds':List (List Int)) (w:World) (h:RdII w v ds) (h':RdII w u ds'):
  Calls Tryz.prog 17 #[v,u] w fun e w'=>e= .returned (.bool (decide (ds=ds')))∧Below w.heap.size w w':=by
 obtain⟨A,cap,rfl,hcap,hm,_⟩:=h.form
 obtain⟨A',cap',rfl,hcap',hm',_⟩:=h'.form
 have H:=hDD h
 have H':=hDD h'
 unfold maxLen at hm hm'
 clear h h'
 by_cases hne:ds.length=ds'.length
 ·have hd:((ds.length:Int) != (ds'.length:Int))=false:=by simp[hne]
  have HNE:=hDD hne
  clear hne
  go_enter Tryz.func17,Tryz.ntmps17
  go_wp2
  go_loopw [5] (fun i wr=> ∃k:Nat,k≤ds.length∧i= .int .i64 k∧ds.take k=ds'.take k∧Below w.heap.size w wr) (fun i _=>ds.length-(intOf i).toNat)
  case atStart=>exact⟨0,Nat.zero_le _,rfl,by simp,Below.refl _ _⟩
  case round=>
   obtain⟨k,hk,rfl,heq,hbel⟩:=hrel
   have HEQ:=hDD heq
   have HB:=hDD hbel
   have hsz:=hbel.size
   by_cases hlt:k<ds.length
   ·have hlt':k<ds'.length:=by have:=HNE.out;omega
    obtain⟨g,off,A2,c2,rfl,hgw,c0,_,_,X1r⟩:=(H.out.below hbel).at hlt
    obtain⟨g',off',A3,c3,rfl,hgw',c0',_,_,X2r⟩:=(H'.out.below hbel).at hlt'
    have HQ:Hid (ds.take (k+1)=ds'.take (k+1)↔ds[k]=ds'[k]):=hDD ⟨fun e=>by
     have:=congrArg (fun l=>l[k]?) e
     simpa[hlt,hlt'] using this,fun e=>take_eq_succ HEQ.out hlt hlt' e⟩
    have HN:Hid (ds[k]≠ds'[k]→ds≠ds'):=hDD (fun e1 e2=>by subst e2;exact e1 rfl)
    have X1:=hDD X1r
    have X2:=hDD X2r
    have hkI:(k:Int)<(ds.length:Int):=by omega
    have hkI':(k:Int)<(ds'.length:Int):=by omega
    clear heq hbel X1r X2r
    generalize ds[k]=d at*
    generalize ds'[k]=d' at*
    go_wp2_with fail
    go_quiet ((go_at_call 34;exact(sameInts_any _ _ d d' _ (X1.out.arg.drewN _) (X2.out.arg.drewN _)).mono fun _ _ ⟨he,n,hn⟩=>⟨he,by rw[hn];exact⟨_,World.drewN_drewN _ _ _⟩⟩))
    rcases e2:decide (d=d') with _ | _
    ·go_wp2
     go_ret
     exact⟨ret_bool (by symm;rw[decide_eq_false_iff_not];exact HN.out (by simpa using e2)),bel_drewN HB.out _⟩
    ·go_wp2
     go_roundw
     case rel=>exact⟨k+1,by omega,by go_num,HQ.out.2 (by simpa using e2),bel_drewN HB.out _⟩
     case measure=>simp[intOf];omega
   ·obtain rfl:k=ds.length:=by omega
    go_wp2
    go_ret
    refine⟨ret_bool ?_,HB.out⟩
    have h1:=HEQ.out
    rw[List.take_length,HNE.out,List.take_length] at h1
    simp[h1]
 ·have hd:((ds.length:Int) != (ds'.length:Int))=true:=by simp;omega
  go_enter Tryz.func17,Tryz.ntmps17
  go_wp2
  go_ret
  exact⟨ret_bool (by symm;rw[decide_eq_false_iff_not];rintro rfl;exact hne rfl),Below.refl _ _⟩
end Go.Proofs.YteobmaambgmdbaaGreat
namespace Go.Proofs.YteobmaambgmdbaaGreat
set_option maxRecDepth 20000
set_option linter.unusedVariables false
set_option linter.unusedSimpArgs false
open Go.RowKit
end Go.Proofs.YteobmaambgmdbaaGreat
namespace Go.Proofs.YteobmaambgmdbaaGreat
set_option maxRecDepth 20000
set_option linter.unusedVariables false
set_option linter.unusedSimpArgs false
open Go.RowKit
section
variable {g:GrD} {t:List Int}
theorem read_take (es:List EdD): ∀(w:List Int) (v:Int),0≤v→walkF es v (w.take (readF es v w).2)=(readF es v w).1∧0≤(readF es v w).1
 | [],v,hv=>⟨rfl,hv⟩
 | x::w,v,hv=>by
   unfold readF
   by_cases h:nextV es v x<0
   ·rw[if_pos h];exact⟨rfl,hv⟩
   ·rw[if_neg h]
    simp only[List.take_succ_cons]
    rw[walkF_cons,if_neg h]
    exact read_take es w _ (by omega)
theorem read_range (hg:grB g=true): ∀(w:List Int) (v:Int),0≤v∧v<g.2.1→0≤(readF g.2.2 v w).1∧(readF g.2.2 v w).1<g.2.1
 | [],v,hv=>hv
 | x::w,v,hv=>by
   unfold readF
   by_cases h:nextV g.2.2 v x<0
   ·rw[if_pos h];exact hv
   ·rw[if_neg h]
    exact read_range hg w _ (by rcases nextV_range hg v x with q | q<;>omega)
theorem read_stop (es:List EdD): ∀(w:List Int) (v:Int) (h:(readF es v w).2<w.length),nextV es (readF es v w).1 w[(readF es v w).2]<0
 | [],v,h=>absurd h (by simp)
 | x::w,v,h=>by
   by_cases q:nextV es v x<0
   ·have e:readF es v (x::w)=(v,0):=by unfold readF;rw[if_pos q]
    simp only[e]
    exact q
   ·have e:readF es v (x::w)=((readF es (nextV es v x) w).1,(readF es (nextV es v x) w).2+1):=by rw[readF,if_neg q]
    rw[e] at h
    simp only[e]
    exact read_stop es w _ (by simpa using h)
def hairX (g:GrD):GrD:=(g.1,g.2.1+1,g.2.2)
theorem hairX_fold (hf:foldB g=true) (h:g.2.1<40):foldB (hairX g)=true:=by
 obtain⟨h1,h2⟩:=foldB_parts hf
 obtain⟨k1,k2,k3,_⟩:=grB_parts h1
 unfold foldB
 rw[grB_of (g:=hairX g) k1 (by show 1≤g.2.1+1∧g.2.1+1≤40;omega) k3 (show Srt cmpE g.2.2 from gr_srt h1) fun e he=>by have:=edge_of_gr h1 he;show(0≤e.1∧e.1<g.2.1+1)∧(1≤e.2.1∧e.2.1≤g.1)∧(0≤e.2.2∧e.2.2<g.2.1+1);omega,Bool.true_and,decide_eq_true_eq]
 exact h2
theorem hairX_no (hf:foldB g=true) (x:Int):nextV g.2.2 g.2.1 x<0:=by
 rcases Int.lt_or_le (nextV g.2.2 g.2.1 x) 0 with h | h
 ·exact h
 ·exfalso
  obtain⟨e,he,hm⟩:=nextV_mem h
  have hr:=edge_of_gr (foldB_parts hf).1 he
  unfold mt at hm
  split at hm
  ·split at hm
   ·rename_i q;omega
   ·cases hm
  ·split at hm
   ·split at hm
    ·rename_i q;omega
    ·cases hm
   ·cases hm
def cjY (g:GrD) (t:List Int):GrD:=addG (hairX g) (readF g.2.2 0 t).1 g.2.1 (t.drop (readF g.2.2 0 t).2)
theorem cjY_fold (hf:foldB g=true) (hw:wordB g.1 t=true) (hn:(readF g.2.2 0 t).2<t.length) (h40:g.2.1<40) (hok:addOk (hairX g) (t.drop (readF g.2.2 0 t).2)=true):foldB (cjY g t)=true:=by
 have hg:=(foldB_parts hf).1
 have hN:=(grB_parts hg).2.1
 have hr:=read_range hg t 0 (by omega)
 refine addG_fold (hairX_fold hf h40) (by show _∧_<g.2.1+1;omega) (by show _∧_<g.2.1+1;omega) (wordB_drop hw _) (by simp;omega) hok ?_ (hairX_no hf _) (fun e=>by omega)
 rw[List.getElem_drop]
 show nextV g.2.2 _ _<0
 simpa using read_stop g.2.2 t 0 hn
theorem cjY_size (h:0≤g.2.1):g.2.1<(cjY g t).2.1:=by
 show g.2.1<(((hairX g).2.1.toNat+((t.drop (readF g.2.2 0 t).2).length-1):Nat):Int)
 have:(hairX g).2.1=g.2.1+1:=rfl
 omega
def conjF (g:GrD) (t:List Int):GrD×Bool:=
 if coreB g=true∧wordB g.1 t=true then
  (if(readF g.2.2 0 t).2=t.length then(movG g (readF g.2.2 0 t).1.toNat,true)
   else if g.2.1<40∧addOk (hairX g) (t.drop (readF g.2.2 0 t).2)=true then(movG (cjY g t) g.2.1.toNat,true) else((0,0,[]),false))
 else((0,0,[]),false)
end
theorem CBx.fin {w wk:World} {B p base:Nat} {x y z a b s:Value} {es:List EdD} (h:CBx wk p x y z) (hb:Below B w wk) (hp:B≤p) (o:OwE wk base s es) (hn: ∀b,s.ownBlock=some b→b≠p):
  (((wk.setCell ⟨p,0,none⟩ a).setCell ⟨p,1,none⟩ b).setCell ⟨p,2,none⟩ s).cell? ⟨p,0,none⟩=some a∧(((wk.setCell ⟨p,0,none⟩ a).setCell ⟨p,1,none⟩ b).setCell ⟨p,2,none⟩ s).cell? ⟨p,1,none⟩=some b∧(((wk.setCell ⟨p,0,none⟩ a).setCell ⟨p,1,none⟩ b).setCell ⟨p,2,none⟩ s).cell? ⟨p,2,none⟩=some s∧
    Below B w (((wk.setCell ⟨p,0,none⟩ a).setCell ⟨p,1,none⟩ b).setCell ⟨p,2,none⟩ s)∧OwE (((wk.setCell ⟨p,0,none⟩ a).setCell ⟨p,1,none⟩ b).setCell ⟨p,2,none⟩ s) base s es:=by
 obtain⟨e0,e1,e2⟩:=cells3F a b s h.c0 h.c1 h.c2
 exact⟨e0,e1,e2,set3_below _ _ _ hb hp,o.keep fun y hy=>set3_heap _ _ _ _ _ (hn y hy)⟩
set_option maxHeartbeats 1000000 in
theorem readLength_any (v vw:Value) (g:GrD) (u:Int) (ws:List Int) (w:World) (h:ArgG w v g) (hw:RdI w vw ws) (hf:foldB g=true) (hu:0≤u∧u<g.2.1):
  Calls Tryz.prog 87 #[v, .int .i64 u,vw] w fun e w'=>e= .returned (.int .i64 ((readF g.2.2 u ws).2:Nat))∧Below w.heap.size w w':=by
 have HG:=hDD h
 have HW:=hDD hw
 have HF:=hDD hf
 obtain⟨hg,hfol⟩:=foldB_parts hf
 have ONE:=hDD (steps_one hfol)
 obtain⟨hr13,hsz40,hl120,_⟩:=grB_parts hg
 have NV:Hid (∀v x,nextV g.2.2 v x= -1∨(0≤nextV g.2.2 v x∧nextV g.2.2 v x<g.2.1)):=hDD fun v x=>nextV_range hg v x
 have hin:inB u 0 (wrap64 (g.2.1-1))=true:=by
  rw[IntWalk.wrap64_in _ ⟨by omega,by omega⟩]
  exact inB_iff.2 ⟨hu.1,by omega⟩
 have hsub:IntKind.i64.wrap (g.2.1-1)=g.2.1-1:=by rw[IntKind.wrap_i64];omega
 have hin':inB u 0 (g.2.1-1)=true:=inB_iff.2 ⟨hu.1,by omega⟩
 have HIN:=hDD hin
 have HIN2:=hDD hin'
 obtain⟨s,rfl,hi1,hi2,ha⟩:=h
 obtain⟨A,cap,rfl⟩:=ha.form
 obtain⟨Aw,capw,rfl,hcw,hmw,_⟩:=hw.arg
 unfold maxLen at hmw
 clear hf hg hfol ha hw hin hin'
 have HR:Hid ((readF g.2.2 u ws).2=0+(readF g.2.2 u (ws.drop 0)).2):=hDD (by rw[List.drop_zero,Nat.zero_add])
 generalize (readF g.2.2 u ws).2=R at*
 go_enter Tryz.func87,Tryz.ntmps87
 go_wp2_with fail
 have bx:Below w.heap.size w (w.alloc (Obj.cells #[Value.int IntKind.i64 g.1,Value.int IntKind.i64 g.2.1, .slice A g.2.2.length cap] 26)):=(by repeat(first | exact Below.refl _ _ | (refine Below.setCell ?_ (by first | omega | (simp<;>omega)) _) | (refine bel_drewN ?_ _) | (refine Below.drew ?_) | (refine Below.alloc ?_ (by first | omega | (simp<;>omega)) _)))
 have l0:(w.alloc (Obj.cells #[Value.int IntKind.i64 g.1,Value.int IntKind.i64 g.2.1, .slice A g.2.2.length cap] 26)).cell? ⟨w.heap.size,0,none⟩=some (.int .i64 g.1):=by simp[go_sem]
 have l1:(w.alloc (Obj.cells #[Value.int IntKind.i64 g.1,Value.int IntKind.i64 g.2.1, .slice A g.2.2.length cap] 26)).cell? ⟨w.heap.size,1,none⟩=some (.int .i64 g.2.1):=by simp[go_sem]
 have l2:(w.alloc (Obj.cells #[Value.int IntKind.i64 g.1,Value.int IntKind.i64 g.2.1, .slice A g.2.2.length cap] 26)).cell? ⟨w.heap.size,2,none⟩=some (.slice A g.2.2.length cap):=by simp[go_sem]
 have sA:w.heap.size<(w.alloc (Obj.cells #[Value.int IntKind.i64 g.1,Value.int IntKind.i64 g.2.1, .slice A g.2.2.length cap] 26)).heap.size:=by simp
 generalize w.alloc (Obj.cells #[Value.int IntKind.i64 g.1,Value.int IntKind.i64 g.2.1, .slice A g.2.2.length cap] 26)=W at bx l0 l1 l2 sA⊢
 have BX:=hDD bx
 have HA:Hid (∀w',Below W.heap.size W w'→ArgG w' (.agg #[.int .i64 g.1, .int .i64 g.2.1, .slice A g.2.2.length cap]) g):=hDD fun w' hb=>HG.out.below (BX.out.trans (hb.mono (by omega)))
 have hif:=specIsFolded_any _ g W (HA.out _ (Below.refl _ _))
 rw[HF.out] at hif
 have HIF:=hDD hif
 clear bx hif
 refine HIF.out.mono ?_
 rintro e w1 ⟨rfl,b1⟩
 have q0:=(b1.cell (p:=⟨w.heap.size,0,none⟩) sA).trans l0
 have q1:=(b1.cell (p:=⟨w.heap.size,1,none⟩) sA).trans l1
 have q2:=(b1.cell (p:=⟨w.heap.size,2,none⟩) sA).trans l2
 have BW:=hDD b1
 have L0:=hDD l0
 have L1:=hDD l1
 have L2:=hDD l2
 clear b1 HIF l0 l1 l2
 go_wp2_with fail
 refine(l1In_any _ _ _ _).mono ?_
 rintro e w2 ⟨rfl,rfl⟩
 simp only[HIN2.out]
 go_wp2
 go_loopw [1,7] (fun a i wr=> ∃(k:Nat) (u':Int),k≤ws.length∧i= .int .i64 k∧a= .int .i64 u'∧(0≤u'∧u'<g.2.1)∧R=k+(readF g.2.2 u' (ws.drop k)).2∧Below W.heap.size W wr) (fun _ i _=>ws.length-(intOf i).toNat)
 case atStart=>exact⟨0,u,Nat.zero_le _,rfl,rfl,hu,HR.out,BW.out⟩
 case round=>
  obtain⟨k,u',hk,rfl,rfl,hu',hR,hbel⟩:=hrel
  have HB:=hDD hbel
  have HRk:=hDD hR
  have hs:=hbel.size
  have q0:=(hbel.cell (p:=⟨w.heap.size,0,none⟩) sA).trans L0.out
  have q1:=(hbel.cell (p:=⟨w.heap.size,1,none⟩) sA).trans L1.out
  have q2:=(hbel.cell (p:=⟨w.heap.size,2,none⟩) sA).trans L2.out
  have hwr:w.heap.size<wr.heap.size:=by omega
  by_cases hlt:k<ws.length
  ·have HRW:=hDD (HW.out.below (BX.out.trans (hbel.mono (by omega))))
   obtain⟨bw,offw,rfl,hbw,hcw2⟩:=HRW.out.at (by omega)
   have c0:=hcw2 k hlt
   have ST:=hDD (readF_step g.2.2 u' ws k hlt)
   generalize ws[k]=x at c0 ST
   have NX:=hDD (NV.out u' x)
   have HNX:=hDD (fun W' (h:ArgG W' (.agg #[.int .i64 g.1, .int .i64 g.2.1, .slice A g.2.2.length cap]) g)=>specNextVertex_any _ g u' x W' h (ONE.out u' x))
   clear hbel hR hcw2
   go_wp2_with fail
   have f0:=BelW.cell q0 hwr
   have f1:=BelW.cell q1 hwr
   have f2:=BelW.cell q2 hwr
   have f3:=BelW.cell c0 hbw
   (refine wp_region_quiet_bel (by kernel_rfl) (by kernel_rfl) ?_;(repeat(go_big_quiet_step (first | (go_at_call 83;exact Calls.bel_of (HNX.out _ (HA.out _ (HB.out.trans ((BelW.h _).mono (by omega)))))))));refine wpQuiet_nil ?_;intro wq hw';obtain⟨pq,hw''⟩:=hw';have bq:=pq.h;rw[←hw''] at bq;clear hw'' pq)
   clear f0 f1 f2 f3 q0 q1 q2 c0
   have HQ:=hDD (HB.out.trans (bq.mono (by omega)))
   have sq:=bq.size
   clear bq
   generalize nextV g.2.2 u' x=y at*
   rcases NX.out with hy | hy
   ·subst hy
    have F:Hid (R=k):=hDD (by rw[HRk.out,ST.out];rfl)
    go_wp2
    go_ret
    exact⟨ret_int (by rw[F.out]),BX.out.trans (HQ.out.mono (by omega))⟩
   ·have hy0: ¬y<0:=by omega
    have F:Hid (R=(k+1)+(readF g.2.2 y (ws.drop (k+1))).2):=hDD (by rw[HRk.out,ST.out,if_neg hy0];simp only;omega)
    go_wp2
    go_roundw
    case rel=>exact⟨k+1,y,by omega,by go_num,rfl,hy,F.out,HQ.out⟩
    case measure=>simp[intOf];omega
  ·obtain rfl:k=ws.length:=by omega
   have F:Hid (R=ws.length):=hDD (by rw[HRk.out,List.drop_length];rfl)
   clear hbel hR
   go_wp2
   go_ret
   exact⟨ret_int (by rw[F.out]),BX.out.trans (HB.out.mono (by omega))⟩
set_option maxHeartbeats 1000000 in
theorem specAddVertex_any (v:Value) (g:GrD) (w:World) (h:ArgG w v g) (hg:grB g=true):
  Calls Tryz.prog 102 #[v] w fun e w'=> ∃r,e= .returned (.tuple #[r, .bool (decide (g.2.1<40))])∧OwG w' w.heap.size r (if g.2.1<40 then(g.1,g.2.1+1,g.2.2) else g)∧Below w.heap.size w w':=by
 have HG:=hDD h
 have HGR:=hDD hg
 obtain⟨h13,h40,h120,_⟩:=grB_parts hg
 obtain⟨s,rfl,hi1,hi2,hga⟩:=h
 obtain⟨A,cap,rfl⟩:=hga.form
 obtain⟨g1,N,es⟩:=g
 simp only at*
 clear hg hga
 go_enter Tryz.func102,Tryz.ntmps102
 go_wp2_with fail
 obtain⟨W1,hW1⟩: ∃W,W=w.alloc (Obj.cells #[Value.int IntKind.i64 g1,Value.int IntKind.i64 N, .slice A es.length cap] 26):=⟨_,rfl⟩
 rw[←hW1]
 obtain⟨c1,b1,s1⟩:=CBx.new hW1
 obtain⟨W,hW⟩: ∃W,W=W1.alloc (Obj.cells #[Value.int IntKind.i64 0,Value.int IntKind.i64 0, .slice none 0 0] 26):=⟨_,rfl⟩
 rw[←hW]
 obtain⟨c2,b2,s2⟩:=CBx.new hW
 have BX:Hid (Below w.heap.size w W):=hDD (b1.trans (b2.mono (by omega)))
 have X1:Hid (CBx W w.heap.size (.int .i64 g1) (.int .i64 N) (.slice A es.length cap)):=hDD (c1.below b2)
 have X2:Hid (CBx W (w.heap.size+1) (.int .i64 0) (.int .i64 0) (.slice none 0 0)):=hDD (by rw[←s1];exact c2)
 have hsW:w.heap.size+2=W.heap.size:=by omega
 clear hW1 hW c1 c2 b1 b2 s1 s2
 have y0:=X1.out.c0
 have y1:=X1.out.c1
 have y2:=X1.out.c2
 refine(l4Copy_any _ (g1,N,es) W (HG.out.below BX.out) (by simp only;omega)).mono ?_
 rintro e w5 ⟨r,rfl,o5,b5⟩
 have B5:=hDD b5
 have X1':=hDD (X1.out.below b5)
 have X2':=hDD (X2.out.below b5)
 have hs5:=b5.size
 obtain⟨s1,rfl,_,_,oe5⟩:=o5
 obtain⟨A1,c1,rfl,_⟩:=oe5.form
 simp only at*
 clear b5 y0 y1 y2
 have b6':Below w5.heap.size w5 (w5.alloc (Obj.cells #[Value.int IntKind.i64 g1,Value.int IntKind.i64 N, .slice A1 es.length c1] 26)):=(Below.refl _ _).alloc (Nat.le_refl _) _
 have y0:=(X1'.out.below b6').c0
 have y1:=(X1'.out.below b6').c1
 have y2:=(X1'.out.below b6').c2
 clear b6'
 go_wp2_with fail
 clear y0 y1 y2
 obtain⟨W6,hW6⟩: ∃W,W=w5.alloc (Obj.cells #[Value.int IntKind.i64 g1,Value.int IntKind.i64 N, .slice A1 es.length c1] 26):=⟨_,rfl⟩
 have GB6:=hDD (GBx.new (m:=(g1,N,es)) oe5 hi1 hi2 hW6)
 obtain⟨hs6,b6,_,_⟩:=gbox hW6
 rw[←hW6]
 have B6:Hid (Below W.heap.size W W6):=hDD (B5.out.trans (b6.mono (by omega)))
 clear hW6 b6 oe5
 obtain⟨p,hp⟩: ∃p,p=w5.heap.size:=⟨_,rfl⟩
 rw[←hp] at GB6⊢
 have hpw:W.heap.size≤p:=by omega
 clear hp hs6 hs5
 have HIG:=hDD (specIsGraph_any _ (g1,N,es) W6 (HG.out.below (BX.out.trans (B6.out.mono (by omega)))))
 rw[HGR.out] at HIG
 refine HIG.out.mono ?_
 clear HIG
 rintro e w7 ⟨rfl,b7⟩
 have B7:=hDD (B6.out.trans (b7.mono (by have:=B6.out.size;omega)))
 have GB7:=hDD (GB6.out.below b7)
 clear b7
 have y0:=(X1.out.below B7.out).c0
 have y1:=(X1.out.below B7.out).c1
 have y2:=(X1.out.below B7.out).c2
 have r0:=(X2.out.below B7.out).c0
 have r1:=(X2.out.below B7.out).c1
 have r2:=(X2.out.below B7.out).c2
 have rf0:=(X2.out.below B7.out).fz 0
 have rf1:=(X2.out.below B7.out).fz 1
 have rf2:=(X2.out.below B7.out).fz 2
 have z0:=GB7.out.c0
 have z1:=GB7.out.c1
 have z2:=GB7.out.c2
 have zf1:=GB7.out.fz 1
 simp only at z0 z1 z2
 have hpne:w.heap.size+1≠p:=by omega
 have hpne':w.heap.size≠p:=by omega
 have hinc:IntKind.i64.wrap (N+1)=N+1:=by rw[IntKind.wrap_i64];omega
 by_cases hN:N<40
 ·have hge: ¬40≤N:=by omega
  have HN:=hDD hN
  have HI:Hid (I64 (N+1)):=hDD ⟨by omega,by omega⟩
  clear hN
  go_wp2_with fail
  have GBS:=hDD (GB7.out.sz HI.out)
  have BS:Hid (Below W.heap.size W (w7.setCell ⟨p,1,none⟩ (.int .i64 (N+1)))):=hDD (B7.out.setCell hpw _)
  have XS:=hDD (X2.out.below BS.out)
  have ss:(w7.setCell ⟨p,1,none⟩ (.int .i64 (N+1))).heap.size=w7.heap.size:=by simp
  generalize w7.setCell ⟨p,1,none⟩ (.int .i64 (N+1))=w8 at GBS BS XS ss⊢
  clear r0 r1 r2 rf0 rf1 rf2 z0 z1 z2 zf1 y0 y1 y2
  have r0:=XS.out.c0
  have r1:=XS.out.c1
  have r2:=XS.out.c2
  have rf0:=XS.out.fz 0
  have rf1:=XS.out.fz 1
  have rf2:=XS.out.fz 2
  have z0:=GBS.out.c0
  have z1:=GBS.out.c1
  have z2:=GBS.out.c2
  simp only at z0 z1 z2
  go_wp2
  obtain⟨e0,e1,e2⟩:=cells3F (.int .i64 g1) (.int .i64 (N+1)) (.slice A1 es.length c1) r0 r1 r2
  have bw:=set3_below (.int .i64 g1) (.int .i64 (N+1)) (.slice A1 es.length c1) (BX.out.trans (BS.out.mono (by omega))) (show w.heap.size≤w.heap.size+1 by omega)
  have ow:=GBS.out.ow.keep (w':=((w8.setCell ⟨w.heap.size+1,0,none⟩ (.int .i64 g1)).setCell ⟨w.heap.size+1,1,none⟩ (.int .i64 (N+1))).setCell ⟨w.heap.size+1,2,none⟩ (.slice A1 es.length c1)) fun b hb=>set3_heap _ _ _ _ _ (by have:=(GBS.out.ow.1.lt b hb).1;omega)
  exact bodyPost_ret (v:= .tuple #[.agg #[.int .i64 g1, .int .i64 (N+1), .slice A1 es.length c1], .bool true]) (by simp[results,Tryz.results102,go_sem,e0,e1,e2]) rfl ⟨_,rfl,⟨.slice A1 es.length c1,rfl,hi1,HI.out,ow.mono (by omega)⟩,bw⟩
 ·have hge:40≤N:=by omega
  have HN:=hDD hN
  clear hN
  go_wp2
  obtain⟨e0,e1,e2⟩:=cells3F (.int .i64 g1) (.int .i64 N) (.slice A1 es.length c1) r0 r1 r2
  have bw:=set3_below (.int .i64 g1) (.int .i64 N) (.slice A1 es.length c1) (BX.out.trans (B7.out.mono (by omega))) (show w.heap.size≤w.heap.size+1 by omega)
  have ow:=GB7.out.ow.keep (w':=((w7.setCell ⟨w.heap.size+1,0,none⟩ (.int .i64 g1)).setCell ⟨w.heap.size+1,1,none⟩ (.int .i64 N)).setCell ⟨w.heap.size+1,2,none⟩ (.slice A1 es.length c1)) fun b hb=>set3_heap _ _ _ _ _ (by have:=(GB7.out.ow.1.lt b hb).1;omega)
  exact bodyPost_ret (v:= .tuple #[.agg #[.int .i64 g1, .int .i64 N, .slice A1 es.length c1], .bool false]) (by simp[results,Tryz.results102,go_sem,e0,e1,e2]) rfl ⟨_,rfl,⟨.slice A1 es.length c1,rfl,hi1,hi2,ow.mono (by omega)⟩,bw⟩
structure CjH (g:GrD) (t:List Int) (R:GrD×Bool):Prop where
 c0:coreB g=false→R=((0,0,[]),false)
 c1:wordB g.1 t=false→R=((0,0,[]),false)
 c2:coreB g=true→wordB g.1 t=true→(readF g.2.2 0 t).2=t.length→R=(movG g (readF g.2.2 0 t).1.toNat,true)
 c3:(readF g.2.2 0 t).2<t.length→40≤g.2.1→R=((0,0,[]),false)
 c4:(readF g.2.2 0 t).2<t.length→addOk (hairX g) (t.drop (readF g.2.2 0 t).2)=false→R=((0,0,[]),false)
 c5:coreB g=true→wordB g.1 t=true→(readF g.2.2 0 t).2<t.length→g.2.1<40→addOk (hairX g) (t.drop (readF g.2.2 0 t).2)=true→R=(movG (cjY g t) g.2.1.toNat,true)
theorem conjF_cj (g:GrD) (t:List Int):CjH g t (conjF g t):=by
 have n2: ∀ {a b:Prop} [Decidable a] [Decidable b],(¬a)→(if a then(if b then(movG g (readF g.2.2 0 t).1.toNat,true) else((0,0,[]),false)) else(((0,0,[]),false):GrD×Bool))=((0,0,[]),false):=fun h=>if_neg h
 refine⟨fun h=> ?_,fun h=> ?_,fun h1 h2 h3=> ?_,fun h1 h2=> ?_,fun h1 h2=> ?_,fun h1 h2 h3 h4 h5=> ?_⟩<;>unfold conjF
 ·rw[if_neg fun q=>by rw[h] at q;exact absurd q.1 (by decide)]
 ·rw[if_neg fun q=>by rw[h] at q;exact absurd q.2 (by decide)]
 ·rw[if_pos ⟨h1,h2⟩,if_pos h3]
 ·split
  ·rw[if_neg (by omega),if_neg (by omega)]
  ·rfl
 ·split
  ·rw[if_neg (by omega),if_neg fun q=>by rw[h2] at q;exact absurd q.2 (by decide)]
  ·rfl
 ·rw[if_pos ⟨h1,h2⟩,if_neg (by omega),if_pos ⟨h4,h5⟩]
set_option maxHeartbeats 2000000 in
theorem specConjugateSubgroup_any (v y:Value) (g:GrD) (t:List Int) (w:World) (h:ArgG w v g) (ht:RdI w y t) (hl:t.length≤1073741824):
  Calls Tryz.prog 52 #[v,y] w fun e w'=> ∃r,e= .returned (.tuple #[r, .bool (conjF g t).2])∧OwG w' w.heap.size r (conjF g t).1∧Below w.heap.size w w':=by
 have HG:=hDD h
 have HY:=hDD ht
 have HC:=hDD (conjF_cj g t)
 generalize conjF g t=RES at*
 obtain⟨s,rfl,hi1,hi2,hga⟩:=h
 obtain⟨A,cap,rfl⟩:=hga.form
 obtain⟨T,tc,rfl,htc,htm,_⟩:=ht.arg
 unfold maxLen at htm
 obtain⟨g1,N,es⟩:=g
 simp only at*
 clear hga ht
 go_enter Tryz.func52,Tryz.ntmps52
 go_wp2_with fail
 obtain⟨W1,hW1⟩: ∃W,W=w.alloc (Obj.cells #[.int .i64 g1, .int .i64 N, .slice A es.length cap] 26):=⟨_,rfl⟩
 rw[←hW1]
 obtain⟨xG,bG,sG⟩:=CBx.new hW1
 clear hW1
 obtain⟨W,hW⟩: ∃W,W=W1.alloc (Obj.cells #[.int .i64 0, .int .i64 0, .slice none 0 0] 26):=⟨_,rfl⟩
 rw[←hW]
 obtain⟨xR,bR,sR⟩:=CBx.new hW
 clear hW
 have XG:=hDD (xG.below bR)
 have XR:=hDD xR
 rw[sG] at XR
 have BX:Hid (Below w.heap.size w W):=hDD (bG.trans (bR.mono (by omega)))
 have hsW:w.heap.size+2≤W.heap.size:=by omega
 clear xG bG sG xR bR sR
 have HA:Hid (∀w',Below W.heap.size W w'→ArgG w' (.agg #[.int .i64 g1, .int .i64 N, .slice A es.length cap]) (g1,N,es)):=hDD fun w' hb=>HG.out.below (BX.out.trans (hb.mono (by omega)))
 have HT:Hid (∀w',Below W.heap.size W w'→RdI w' (.slice T t.length tc) t):=hDD fun w' hb=>HY.out.below (BX.out.trans (hb.mono (by omega)))
 refine(specIsSubgroup_any _ (g1,N,es) W (HA.out W (Below.refl _ _))).mono ?_
 rintro e w1 ⟨rfl,b1⟩
 have B1:=hDD b1
 have hw1:=b1.size
 clear b1
 rcases e1:coreB (g1,N,es) with _ | _
 ·have F:=hDD (HC.out.c0 e1)
  clear e1
  have uXR0:=(XR.out.below B1.out).c0
  have uXR1:=(XR.out.below B1.out).c1
  have uXR2:=(XR.out.below B1.out).c2
  have wXR0:=(XR.out.below B1.out).fz 0
  have wXR1:=(XR.out.below B1.out).fz 1
  have wXR2:=(XR.out.below B1.out).fz 2
  go_wp2
  obtain⟨e0,e1,e2,bw,ow⟩:=(XR.out.below B1.out).fin (a:= .int .i64 0) (b:= .int .i64 0) (BX.out.trans (B1.out.mono (by omega))) (by omega) (OwE.nil (base:=w.heap.size)) (fun b hb=>by cases hb)
  exact bodyPost_ret (v:= .tuple #[.agg #[.int .i64 0, .int .i64 0, .slice none 0 0], .bool false]) (by simp[results,Tryz.results52,go_sem,e0,e1,e2]) rfl ⟨_,by rw[F.out],by rw[F.out];exact⟨.slice none 0 0,rfl,⟨by decide,by decide⟩,⟨by decide,by decide⟩,ow⟩,bw⟩
 have hf:=core_fold e1
 have hgr:=(foldB_parts hf).1
 obtain⟨h13,h40,h120,_⟩:=grB_parts hgr
 simp only at h13 h40 h120
 have HF:=hDD hf
 have HGR:=hDD hgr
 clear hf hgr
 have HCO:=hDD e1
 clear e1
 have uXG0:=(XG.out.below B1.out).c0
 have uXG1:=(XG.out.below B1.out).c1
 have uXG2:=(XG.out.below B1.out).c2
 go_wp2_with fail
 refine(specIsWord_any g1 _ t w1 (HT.out w1 B1.out).arg (by omega)).mono ?_
 rintro e w2 ⟨rfl,nd,hw2⟩
 have B2:Hid (Below W.heap.size W w2):=hDD (by rw[hw2];exact bel_drewN B1.out _)
 have hs2:w1.heap.size=w2.heap.size:=by rw[hw2];rfl
 clear uXG0 uXG1 uXG2
 clear hw2
 rcases e2:wordB g1 t with _ | _
 ·have F:=hDD (HC.out.c1 e2)
  clear e2
  have uXR0:=(XR.out.below B2.out).c0
  have uXR1:=(XR.out.below B2.out).c1
  have uXR2:=(XR.out.below B2.out).c2
  have wXR0:=(XR.out.below B2.out).fz 0
  have wXR1:=(XR.out.below B2.out).fz 1
  have wXR2:=(XR.out.below B2.out).fz 2
  go_wp2
  obtain⟨e0,e1,e2,bw,ow⟩:=(XR.out.below B2.out).fin (a:= .int .i64 0) (b:= .int .i64 0) (BX.out.trans (B2.out.mono (by omega))) (by omega) (OwE.nil (base:=w.heap.size)) (fun b hb=>by cases hb)
  exact bodyPost_ret (v:= .tuple #[.agg #[.int .i64 0, .int .i64 0, .slice none 0 0], .bool false]) (by simp[results,Tryz.results52,go_sem,e0,e1,e2]) rfl ⟨_,by rw[F.out],by rw[F.out];exact⟨.slice none 0 0,rfl,⟨by decide,by decide⟩,⟨by decide,by decide⟩,ow⟩,bw⟩
 have HWO:=hDD e2
 clear e2
 have uXG0:=(XG.out.below B2.out).c0
 have uXG1:=(XG.out.below B2.out).c1
 have uXG2:=(XG.out.below B2.out).c2
 go_wp2_with fail
 refine(readLength_any _ _ (g1,N,es) 0 t w2 (HA.out w2 B2.out) (HT.out w2 B2.out) HF.out (by simp only;omega)).mono ?_
 rintro e w3 ⟨rfl,b3⟩
 have B3:=hDD (B2.out.trans (b3.mono (by omega)))
 have hs3:=b3.size
 clear uXG0 uXG1 uXG2
 clear b3
 have hle:=readF_le es t 0
 have hrt:=read_take es t 0 (by omega)
 have hrr:=read_range HGR.out t 0 (by simp only;omega)
 have HCY:Hid (∀(_:(readF es 0 t).2<t.length) (_:N<40) (_:addOk (hairX (g1,N,es)) (t.drop (readF es 0 t).2)=true),foldB (cjY (g1,N,es) t)=true):=hDD (cjY_fold HF.out HWO.out)
 have HYS:Hid (N<(cjY (g1,N,es) t).2.1):=hDD (cjY_size (g:=(g1,N,es)) (by show 0≤N;omega))
 have HRD:Hid (cjY (g1,N,es) t=addG (hairX (g1,N,es)) (readF es 0 t).1 N (t.drop (readF es 0 t).2)):=hDD rfl
 have HSP:Hid (∀(_:(readF es 0 t).2<t.length),nextV es (readF es 0 t).1 (t.getD (readF es 0 t).2 0)<0):=hDD fun h=>by rw[getD_at h];exact read_stop es t 0 h
 have HQ2:=hDD (HC.out.c2 HCO.out HWO.out)
 have HQ3:=hDD HC.out.c3
 have HQ4:=hDD HC.out.c4
 have HQ5:=hDD (HC.out.c5 HCO.out HWO.out)
 simp only at hle hrt hrr HQ2 HQ3 HQ4 HQ5
 clear HC
 generalize (readF es 0 t).2=n at*
 generalize (readF es 0 t).1=u at*
 generalize cjY (g1,N,es) t=Y at*
 obtain⟨u,rfl⟩: ∃u':Nat,u=(u':Int):=⟨u.toNat,by omega⟩
 have HRT:=hDD hrt.1
 have HWW:=hDD (fun W' (hb:Below W.heap.size W W')=>walkWord_any (.agg #[.int .i64 g1, .int .i64 N, .slice A es.length cap]) (.slice T n tc) (g1,N,es) 0 (t.take n) W' (HA.out W' hb) ((HT.out W' hb).head rfl hle) HF.out (by simp only;omega))
 simp only at HWW
 rw[HRT.out] at HWW
 have hn0:(0:Int)≤(n:Int):=by omega
 have hntc:(n:Int)≤(tc:Int):=by omega
 have hl3:w.heap.size<w3.heap.size:=by omega
 have uXG0:=(XG.out.below B3.out).c0
 have uXG1:=(XG.out.below B3.out).c1
 have uXG2:=(XG.out.below B3.out).c2
 clear hrt
 go_wp2_with fail
 have f0:=BelW.cell uXG0 hl3
 have f1:=BelW.cell uXG1 hl3
 have f2:=BelW.cell uXG2 hl3
 (refine wp_region_quiet_bel (by kernel_rfl) (by kernel_rfl) ?_;(repeat(go_big_quiet_step (first | (go_at_call 66;exact Calls.bel_of (HWW.out _ (B3.out.trans ((BelW.h _).mono (by omega))))))));refine wpQuiet_nil ?_;intro wq hw';obtain⟨pq,hw''⟩:=hw';have bq:=pq.h;rw[←hw''] at bq;clear hw'' pq)
 clear f0 f1 f2
 have B4:=hDD (B3.out.trans (bq.mono (by omega)))
 have hs4:=bq.size
 clear uXG0 uXG1 uXG2
 clear bq
 have uXG0:=(XG.out.below B4.out).c0
 have uXG1:=(XG.out.below B4.out).c1
 have uXG2:=(XG.out.below B4.out).c2
 go_wp2_with fail
 refine(l4Copy_any _ (g1,N,es) wq (HA.out wq B4.out) (by simp only;omega)).mono ?_
 rintro e w5 ⟨r,rfl,o5,b5⟩
 have B5:=hDD (B4.out.trans (b5.mono (by omega)))
 have hs5:=b5.size
 obtain⟨s1,rfl,_,_,oe5⟩:=o5
 obtain⟨A1,c1,rfl,_⟩:=oe5.form
 simp only at oe5⊢
 have OE5:=hDD oe5
 clear uXG0 uXG1 uXG2
 clear b5
 obtain⟨W6,hW6⟩: ∃W,W=w5.alloc (Obj.cells #[Value.int IntKind.i64 g1,Value.int IntKind.i64 N, .slice A1 es.length c1] 26):=⟨_,rfl⟩
 have GB6:=hDD (GBx.new (m:=(g1,N,es)) oe5 hi1 hi2 hW6)
 obtain⟨hs6,b6,_,_⟩:=gbox hW6
 have B6:Hid (Below W.heap.size W W6):=hDD (B5.out.trans (b6.mono (by omega)))
 have OE6:=hDD (oe5.below b6)
 clear b6 oe5 OE5
 have hnl:(n:Int)<(t.length:Int)∨n=t.length:=by omega
 rcases hnl with hlt | heq
 rotate_left
 ·subst heq
  have hlt: ¬((t.length:Int)<(t.length:Int)):=by omega
  have F:=hDD (HQ2.out rfl)
  clear HQ2 HQ3 HQ4 HQ5 HCY HRD HSP
  go_wp2_with fail
  rw[←hW6]
  have HAG:ArgG W6 (.agg #[.int .i64 g1, .int .i64 N, .slice A1 es.length c1]) (g1,N,es):=⟨_,rfl,hi1,hi2,OE6.out.arg⟩
  refine(specMoveBase_any _ (g1,N,es) u W6 HAG HF.out (by simp only;omega)).mono ?_
  clear hW6 HAG
  rintro e w7 ⟨r7,rfl,o7,b7⟩
  have B7:=hDD (B6.out.trans (b7.mono (by have:=B6.out.size;omega)))
  have hs7:=b7.size
  clear b7
  rw[show((u:Int)).toNat=u from rfl] at F
  generalize movG (g1,N,es) u=M at*
  obtain⟨m1,m2,ms⟩:=M
  obtain⟨s7,rfl,hj1,hj2,oe7⟩:=o7
  obtain⟨A7,c7,rfl,_⟩:=oe7.form
  simp only at hj1 hj2 oe7⊢
  have b8:Below w7.heap.size w7 (w7.alloc (Obj.cells #[Value.int IntKind.i64 m1,Value.int IntKind.i64 m2, .slice A7 ms.length c7] 26)):=(Below.refl _ _).alloc (Nat.le_refl _) _
  have O8:=hDD (oe7.below b8)
  have B8:=hDD (B7.out.trans (b8.mono (by omega)))
  clear b8 oe7
  have uXR0:=(XR.out.below B8.out).c0
  have uXR1:=(XR.out.below B8.out).c1
  have uXR2:=(XR.out.below B8.out).c2
  have wXR0:=(XR.out.below B8.out).fz 0
  have wXR1:=(XR.out.below B8.out).fz 1
  have wXR2:=(XR.out.below B8.out).fz 2
  go_wp2
  obtain⟨e0,e1,e2,bw,ow⟩:=(XR.out.below B8.out).fin (a:= .int .i64 m1) (b:= .int .i64 m2) (BX.out.trans (B8.out.mono (by omega))) (by omega) O8.out (fun b hb=>by have:=(O8.out.1.lt b hb).1;omega)
  exact bodyPost_ret (v:= .tuple #[.agg #[.int .i64 m1, .int .i64 m2, .slice A7 ms.length c7], .bool true]) (by simp[results,Tryz.results52,go_sem,e0,e1,e2]) rfl ⟨_,by rw[F.out],by rw[F.out];exact⟨_,rfl,hj1,hj2,ow.mono (by omega)⟩,bw⟩
 have hltn:n<t.length:=by omega
 have HQ3:=hDD (HQ3.out hltn)
 have HQ4:=hDD (HQ4.out hltn)
 have HQ5:=hDD (HQ5.out hltn)
 clear HQ2
 have uXG0:=(XG.out.below B6.out).c0
 have uXG1:=(XG.out.below B6.out).c1
 have uXG2:=(XG.out.below B6.out).c2
 rw[hW6] at uXG0 uXG1 uXG2
 go_wp2_with fail
 rw[←hW6]
 clear uXG0 uXG1 uXG2
 clear hW6
 refine(specAddVertex_any _ (g1,N,es) W6 (HA.out W6 B6.out) HGR.out).mono ?_
 rintro e w7 ⟨r7,rfl,o7,b7⟩
 have B7:=hDD (B6.out.trans (b7.mono (by have:=B6.out.size;omega)))
 have GB7:=hDD (GB6.out.below b7)
 have hs7:=b7.size
 clear b7
 by_cases hN:N<40
 rotate_left
 ·have F:=hDD (HQ3.out (by omega))
  rw[if_neg hN] at o7
  simp only[decide_eq_false hN]
  obtain⟨s7,rfl,hj1,hj2,oe7⟩:=o7
  obtain⟨A7,c7,rfl,_⟩:=oe7.form
  have b8:Below w7.heap.size w7 (w7.alloc (Obj.cells #[Value.int IntKind.i64 g1,Value.int IntKind.i64 N, .slice A7 es.length c7] 26)):=(Below.refl _ _).alloc (Nat.le_refl _) _
  have B8:=hDD (B7.out.trans (b8.mono (by omega)))
  clear b8 hN
  have uXR0:=(XR.out.below B8.out).c0
  have uXR1:=(XR.out.below B8.out).c1
  have uXR2:=(XR.out.below B8.out).c2
  have wXR0:=(XR.out.below B8.out).fz 0
  have wXR1:=(XR.out.below B8.out).fz 1
  have wXR2:=(XR.out.below B8.out).fz 2
  go_wp2
  obtain⟨e0,e1,e2,bw,ow⟩:=(XR.out.below B8.out).fin (a:= .int .i64 0) (b:= .int .i64 0) (BX.out.trans (B8.out.mono (by omega))) (by omega) (OwE.nil (base:=w.heap.size)) (fun b hb=>by cases hb)
  exact bodyPost_ret (v:= .tuple #[.agg #[.int .i64 0, .int .i64 0, .slice none 0 0], .bool false]) (by simp[results,Tryz.results52,go_sem,e0,e1,e2]) rfl ⟨_,by rw[F.out],by rw[F.out];exact⟨.slice none 0 0,rfl,⟨by decide,by decide⟩,⟨by decide,by decide⟩,ow⟩,bw⟩
 rw[if_pos hN] at o7
 simp only[decide_eq_true hN]
 obtain⟨s7,rfl,hj1,hj2,oe7⟩:=o7
 obtain⟨A7,c7,rfl,_⟩:=oe7.form
 simp only at hj1 hj2 oe7⊢
 obtain⟨W8,hW8⟩: ∃W,W=w7.alloc (Obj.cells #[Value.int IntKind.i64 g1,Value.int IntKind.i64 (N+1), .slice A7 es.length c7] 26):=⟨_,rfl⟩
 have GB8:=hDD (GBx.new (m:=(g1,N+1,es)) oe7 hj1 hj2 hW8)
 obtain⟨hs8,b8,_,_⟩:=gbox hW8
 have B8:Hid (Below W.heap.size W W8):=hDD (B7.out.trans (b8.mono (by omega)))
 have GB6':=hDD (GB7.out.below b8)
 clear b8 oe7
 go_wp2_with fail
 rw[←hW8]
 clear hW8
 have HOKK:=hDD (fun h=>HCY.out hltn hN h)
 have HN:=hDD hN
 have HQ5:=hDD (HQ5.out hN)
 clear hN HQ3 HCY
 obtain⟨bt,off,rfl,_,_⟩:=HY.out.at (by omega)
 have hcp: ¬tc=n:=by omega
 have HTD:Hid (∀w',Below W.heap.size W w'→RdI w' (.slice (some ⟨bt,off+n,none⟩) (t.length-n) (tc-n)) (t.drop n)):=hDD fun w' hb=>by
  have:=(HT.out w' hb).cut (k:=n) rfl hle
  rw[if_neg hcp] at this
  simpa[Addr.add_lit] using this
 have HTL:Hid ((t.drop n).length=t.length-n):=hDD (by simp)
 have HWD:Hid (wordB g1 (t.drop n)=true):=hDD (wordB_drop HWO.out n)
 have HGX:=hDD (foldB_parts (hairX_fold HF.out HN.out)).1
 generalize t.drop n=d at*
 have HAP:=hDD (fun W' (hb:Below W8.heap.size W8 W')=>specAddPath_any (.agg #[.int .i64 g1, .int .i64 (N+1), .slice A7 es.length c7]) (.slice (some ⟨bt,off+n,none⟩) (t.length-n) (tc-n)) (hairX (g1,N,es)) u N d W' (GB8.out.arg.below hb) (HTD.out W' (B8.out.trans (hb.mono B8.out.size))) HGX.out (by show _∧_<N+1;omega) (by show _∧_<N+1;omega) HWD.out (by have:=HTL.out;omega) (by have:=HTL.out;omega))
 obtain⟨R9,hR9⟩: ∃R,R=(if addOk (hairX (g1,N,es)) d=true then addG (hairX (g1,N,es)) (u:Int) N d else hairX (g1,N,es)):=⟨_,rfl⟩
 rw[←hR9] at HAP
 have HR9:=hDD hR9
 clear hR9
 obtain⟨K9,hK9⟩: ∃K,K=addOk (hairX (g1,N,es)) d:=⟨_,rfl⟩
 rw[←hK9] at HAP
 have HK9:=hDD hK9
 clear hK9
 obtain⟨n1,n2,ns⟩:=R9
 have DD:Hid (Below W8.heap.size W8 W8.drew):=hDD (Below.refl _ _).drew
 have DA:Hid (Below W8.heap.size W8 (W8.alloc (Obj.cells #[Value.int IntKind.i64 0,Value.int IntKind.i64 0,Value.slice none 0 0] 26)).drew):=hDD ((Below.refl _ _).alloc (Nat.le_refl _) _).drew
 have XA:Hid (CBx (W8.alloc (Obj.cells #[Value.int IntKind.i64 0,Value.int IntKind.i64 0,Value.slice none 0 0] 26)).drew W8.heap.size (.int .i64 0) (.int .i64 0) (.slice none 0 0)):=hDD ((CBx.new (t:=26) rfl).1.below (Below.refl _ _).drew)
 have z0:=GB8.out.c0
 have z1:=GB8.out.c1
 have z2:=GB8.out.c2
 simp only at z0 z1 z2
 have y1:=(XG.out.below B8.out).c1
 have hz8:w7.heap.size<W8.heap.size:=by omega
 have hz0:w.heap.size<W8.heap.size:=by omega
 have hs8':w7.heap.size+1≤W8.heap.size:=by omega
 have hs6':w5.heap.size+1≤W6.heap.size:=by omega
 clear hs8 hs6
 go_region_held3 (fun w'=>w'.cell? ⟨w7.heap.size,0,none⟩=some (.int .i64 g1)∧w'.cell? ⟨w7.heap.size,1,none⟩=some (.int .i64 (N+1))∧w'.cell? ⟨w7.heap.size,2,none⟩=some (.slice A7 es.length c7)∧w'.cell? ⟨w.heap.size,1,none⟩=some (.int .i64 N))
  (first | go_keep | exact⟨q0,q1,q2,q3⟩ | (refine⟨?_,?_,?_,?_⟩<;>simp[go_sem,q0,q1,q2,q3]))
  (first
   | (go_at_call 103;(with_reducible refine(HAP.out _ DD.out).mono ?_);rintro e w9 ⟨r9,rfl,o9,b9⟩;have B9:Hid (Below W8.heap.size W8 w9):=hDD (DD.out.trans (b9.mono (Nat.le_refl _)));have hs9:=B9.out.size;have q0:=(B9.out.cell (p:=⟨w7.heap.size,0,none⟩) hz8).trans z0;have q1:=(B9.out.cell (p:=⟨w7.heap.size,1,none⟩) hz8).trans z1;have q2:=(B9.out.cell (p:=⟨w7.heap.size,2,none⟩) hz8).trans z2;have q3:=(B9.out.cell (p:=⟨w.heap.size,1,none⟩) hz0).trans y1;clear b9;obtain⟨s9,rfl,hk1,hk2,oe9⟩:=o9;obtain⟨A9,c9,rfl,_⟩:=oe9.form;have OE9:=hDD oe9;simp only at hk1 hk2;clear oe9)
   | (go_at_call 103;(with_reducible refine(HAP.out _ DA.out).mono ?_);rintro e w9 ⟨r9,rfl,o9,b9⟩;have B9:Hid (Below W8.heap.size W8 w9):=hDD (DA.out.trans (b9.mono (by simp[go_sem])));have hs9:=B9.out.size;have q0:=(B9.out.cell (p:=⟨w7.heap.size,0,none⟩) hz8).trans z0;have q1:=(B9.out.cell (p:=⟨w7.heap.size,1,none⟩) hz8).trans z1;have q2:=(B9.out.cell (p:=⟨w7.heap.size,2,none⟩) hz8).trans z2;have q3:=(B9.out.cell (p:=⟨w.heap.size,1,none⟩) hz0).trans y1;have XN:=hDD (XA.out.below b9);have t0:=XN.out.c0;have t1:=XN.out.c1;have t2:=XN.out.c2;have tf0:=XN.out.fz 0;have tf1:=XN.out.fz 1;have tf2:=XN.out.fz 2;have HLA:W8.heap.size<w9.heap.size:=(by have:=b9.size;simp[go_sem] at this;omega);have hne7:W8.heap.size≠w7.heap.size:=(by omega);have hne0:W8.heap.size≠w.heap.size:=(by omega);clear b9;obtain⟨s9,rfl,hk1,hk2,oe9⟩:=o9;obtain⟨A9,c9,rfl,_⟩:=oe9.form;have OE9:=hDD oe9;simp only at hk1 hk2;clear oe9))
 all_goals
  clear DD DA z0 z1 z2 y1
  first
   | (obtain⟨W10,hW10⟩: ∃W,W=(((w9.setCell ⟨W8.heap.size,0,none⟩ (.int .i64 n1)).setCell ⟨W8.heap.size,1,none⟩ (.int .i64 n2)).setCell ⟨W8.heap.size,2,none⟩ (.slice A9 ns.length c9)):=⟨_,rfl⟩
      rw[←hW10]
      have B10:Hid (Below W8.heap.size W8 W10):=hDD (by rw[hW10];exact set3_below _ _ _ B9.out (Nat.le_refl _))
      have GT:=hDD (XN.out.set (m:=(n1,n2,ns)) OE9.out (fun b hb=>by have:=(OE9.out.1.lt b hb).1;simp[go_sem] at this;omega) hk1 hk2)
      simp only at GT
      rw[←hW10] at GT
      obtain⟨p12,hp12⟩: ∃p,p=W8.heap.size:=⟨_,rfl⟩
      rw[←hp12] at GT⊢
      have hpp:W8.heap.size≤p12:=by omega
      clear hW10 hp12)
   | (obtain⟨W10,hW10⟩: ∃W,W=w9.alloc (Obj.cells #[Value.int IntKind.i64 n1,Value.int IntKind.i64 n2,Value.slice A9 ns.length c9] 26):=⟨_,rfl⟩
      have GT:=hDD (GBx.new (m:=(n1,n2,ns)) OE9.out hk1 hk2 hW10)
      have B10:Hid (Below W8.heap.size W8 W10):=hDD (B9.out.trans ((gbox hW10).2.1.mono hs9))
      rw[←hW10]
      obtain⟨p12,hp12⟩: ∃p,p=w9.heap.size:=⟨_,rfl⟩
      rw[←hp12] at GT⊢
      have hpp:W8.heap.size≤p12:=by omega
      clear hW10 hp12)
  clear q0 q1 q2 q3 OE9
  have BT:=hDD (B8.out.trans (B10.out.mono B8.out.size))
  cases K9
  ·have F:=hDD (HQ4.out HK9.out.symm)
   have uXR0:=(XR.out.below BT.out).c0
   have uXR1:=(XR.out.below BT.out).c1
   have uXR2:=(XR.out.below BT.out).c2
   have wXR0:=(XR.out.below BT.out).fz 0
   have wXR1:=(XR.out.below BT.out).fz 1
   have wXR2:=(XR.out.below BT.out).fz 2
   go_wp2
   obtain⟨e0,e1,e2,bw,ow⟩:=(XR.out.below BT.out).fin (a:= .int .i64 0) (b:= .int .i64 0) (BX.out.trans (BT.out.mono (by omega))) (by omega) (OwE.nil (base:=w.heap.size)) (fun b hb=>by cases hb)
   exact bodyPost_ret (v:= .tuple #[.agg #[.int .i64 0, .int .i64 0, .slice none 0 0], .bool false]) (by simp[results,Tryz.results52,go_sem,e0,e1,e2]) rfl ⟨_,by rw[F.out],by rw[F.out];exact⟨.slice none 0 0,rfl,⟨by decide,by decide⟩,⟨by decide,by decide⟩,ow⟩,bw⟩
  have F:=hDD (HQ5.out HK9.out.symm)
  have hY:=HR9.out
  rw[←HK9.out,if_pos rfl] at hY
  have HFY:=HOKK.out HK9.out.symm
  obtain rfl:Y=(n1,n2,ns):=HRD.out.trans hY.symm
  have HFY:=hDD (HOKK.out HK9.out.symm)
  have hn2:N<n2:=HYS.out
  obtain⟨M,rfl⟩: ∃M:Nat,N=(M:Int):=⟨N.toNat,by omega⟩
  clear hY HR9 HK9 HQ4 HQ5 HRD HYS HOKK
  have GP:=hDD (GB6'.out.below B10.out)
  have hp6:w5.heap.size<W8.heap.size:=by omega
  have hne6:w5.heap.size≠p12:=by omega
  have hneg:w.heap.size≠w5.heap.size:=by omega
  have XP:=hDD GP.out.cbx
  have XT:=hDD GT.out.cbx
  simp only at XP XT
  have uXP0:=XP.out.c0
  have uXP1:=XP.out.c1
  have uXP2:=XP.out.c2
  have wXP0:=XP.out.fz 0
  have wXP1:=XP.out.fz 1
  have wXP2:=XP.out.fz 2
  have uXT0:=XT.out.c0
  have uXT1:=XT.out.c1
  have uXT2:=XT.out.c2
  have uXG0:=(XG.out.below BT.out).c0
  have uXG1:=(XG.out.below BT.out).c1
  have uXG2:=(XG.out.below BT.out).c2
  go_wp2_with fail
  have GS:=hDD (XP.out.set (m:=(n1,n2,ns)) GT.out.ow (fun b hb=>by have:=(GT.out.ow.1.lt b hb).1;(try simp[go_sem] at this);omega) hk1 hk2)
  simp only at GS
  have BS:Hid (Below W.heap.size W (((W10.setCell ⟨w5.heap.size,0,none⟩ (.int .i64 n1)).setCell ⟨w5.heap.size,1,none⟩ (.int .i64 n2)).setCell ⟨w5.heap.size,2,none⟩ (.slice A9 ns.length c9))):=hDD (set3_below _ _ _ BT.out (by omega))
  refine(specMoveBase_any _ (n1,n2,ns) M _ GS.out.arg HFY.out (by simp only;omega)).mono ?_
  generalize (((W10.setCell ⟨w5.heap.size,0,none⟩ (.int .i64 n1)).setCell ⟨w5.heap.size,1,none⟩ (.int .i64 n2)).setCell ⟨w5.heap.size,2,none⟩ (.slice A9 ns.length c9))=W11 at GS BS⊢
  clear wXP0 wXP1 wXP2 uXP0 uXP1 uXP2 uXT0 uXT1 uXT2 uXG0 uXG1 uXG2
  rintro e w12 ⟨r12,rfl,o12,b12⟩
  have B12:=hDD (BS.out.trans (b12.mono (by have:=BS.out.size;omega)))
  have hs12:=b12.size
  clear b12
  rw[show((M:Int)).toNat=M from rfl] at F
  generalize movG (n1,n2,ns) M=R12 at*
  obtain⟨m1,m2,ms⟩:=R12
  obtain⟨s12,rfl,hj1,hj2,oe12⟩:=o12
  obtain⟨A12,c12,rfl,_⟩:=oe12.form
  simp only at hj1 hj2 oe12⊢
  have b8:Below w12.heap.size w12 (w12.alloc (Obj.cells #[Value.int IntKind.i64 m1,Value.int IntKind.i64 m2, .slice A12 ms.length c12] 26)):=(Below.refl _ _).alloc (Nat.le_refl _) _
  have O8:=hDD (oe12.below b8)
  have B13:=hDD (B12.out.trans (b8.mono (by have:=BS.out.size;omega)))
  have HBS:=hDD BS.out.size
  clear b8 oe12
  have uXR0:=(XR.out.below B13.out).c0
  have uXR1:=(XR.out.below B13.out).c1
  have uXR2:=(XR.out.below B13.out).c2
  have wXR0:=(XR.out.below B13.out).fz 0
  have wXR1:=(XR.out.below B13.out).fz 1
  have wXR2:=(XR.out.below B13.out).fz 2
  go_wp2
  obtain⟨e0,e1,e2,bw,ow⟩:=(XR.out.below B13.out).fin (a:= .int .i64 m1) (b:= .int .i64 m2) (BX.out.trans (B13.out.mono (by omega))) (by omega) O8.out (fun b hb=>by have h1:=(O8.out.1.lt b hb).1;have h2:=HBS.out;omega)
  exact bodyPost_ret (v:= .tuple #[.agg #[.int .i64 m1, .int .i64 m2, .slice A12 ms.length c12], .bool true]) (by simp[results,Tryz.results52,go_sem,e0,e1,e2]) rfl ⟨_,by rw[F.out],by rw[F.out];exact⟨_,rfl,hj1,hj2,ow.mono (by have h2:=HBS.out;omega)⟩,bw⟩
end Go.Proofs.YteobmaambgmdbaaGreat
namespace Go.Proofs.YteobmaambgmdbaaGreat
set_option maxRecDepth 20000
set_option linter.unusedVariables false
set_option linter.unusedSimpArgs false
open Go.RowKit
theorem walk_readT (es:List EdD): ∀(w:List Int) (v:Int),walkF es v (w.take (readF es v w).2)=(readF es v w).1
 | [],v=>rfl
 | x::w,v=>by
   unfold readF
   split
   ·rfl
   ·rename_i q
    simp only[List.take_succ_cons]
    rw[walkF_cons,if_neg q]
    exact walk_readT es w _
end Go.Proofs.YteobmaambgmdbaaGreat
namespace Go.Proofs.YteobmaambgmdbaaGreat
set_option maxRecDepth 20000
set_option linter.unusedVariables false
set_option linter.unusedSimpArgs false
open Go.RowKit
section
variable {g:GrD} (hc:coreB g=true)
include hc
theorem core_parts:grB g=true∧Fol g.2.2:=foldB_parts (coreB_foldB hc)
omit hc in
theorem okR_noB: ∀ {es:List EdD} {v:Int} {r:List Int},okR es v r→NoB r.reverse∧(∀y∈r,Lt3 y)∧ ∀y∈r.reverse.head?,nextV es v y<0
 | _,_,[],_=>by
   refine⟨trivial,fun y hy=> ?_,fun y hy=> ?_⟩
   ·cases hy
   ·cases hy
 | _,_,[y],h=>by
   refine⟨trivial,fun z hz=> ?_,fun z hz=> ?_⟩
   ·rw[List.mem_singleton.1 hz];exact h.2
   ·injection hz with hz
    subst hz
    exact h.1
 | es,v,y::z::r,h=>by
   obtain⟨h1,h2,h3⟩:=okR_noB (r:=z::r) h.2.2
   refine⟨?_,fun x hx=> ?_,fun x hx=> ?_⟩
   ·rw[List.reverse_cons]
    refine NoB.app h1 trivial fun a ha b hb=> ?_
    have e:b=y:=by injection hb with hb;exact hb.symm
    have e2:a=z:=by
     rw[List.reverse_cons,List.getLast?_concat] at ha
     injection ha with ha;exact ha.symm
    subst e;subst e2
    exact h.1
   ·rcases List.mem_cons.1 hx with e | e
    ·subst e;exact h.2.1
    ·exact h2 x e
   ·refine h3 x ?_
    rw[List.reverse_cons] at hx
    rcases hq:(z::r).reverse with _ | ⟨p,q⟩
    ·simp at hq
    ·rw[hq] at hx;exact hx
theorem ok0:okS g ((0:Int),([]:List Int)):=by
 obtain⟨_,hsz,_,_⟩:=grB_parts (core_parts hc).1
 exact⟨⟨by simp only;omega,by simp only;omega⟩,trivial⟩
end
theorem fin_edges {g:GrD} (hfi:finB g=true):g.2.2.length=g.2.1.toNat*g.1.toNat:=by
 have hc:coreB g=true:=by unfold finB at hfi;simp only[Bool.and_eq_true] at hfi;exact hfi.1
 obtain⟨hg,hf⟩:=core_parts hc
 obtain⟨hr,hsz,_,_⟩:=grB_parts hg
 have hE:=fun e (he:e∈g.2.2)=>edge_of_gr hg he
 obtain⟨R,hR⟩: ∃R:Nat,g.1=R:=⟨g.1.toNat,by omega⟩
 have hRn:g.1.toNat=R:=by omega
 rw[hRn]
 let f:EdD→Nat:=fun e=>e.1.toNat*R+(e.2.1-1).toNat
 have hnd:(g.2.2.map f).Nodup:=by
  rw[List.nodup_iff_pairwise_ne,List.pairwise_map]
  refine List.Pairwise.imp_of_mem ?_ hf
  intro a b ha hb hab e
  have h1:=hE a ha
  have h2:=hE b hb
  have m1:(a.2.1-1).toNat<R:=by omega
  have m2:(b.2.1-1).toNat<R:=by omega
  have hR0:0<R:=by omega
  have e1:a.1.toNat=b.1.toNat:=by
   have q:f a/R=f b/R:=by rw[e]
   simp only[f] at q
   rwa [Nat.mul_comm a.1.toNat,Nat.mul_comm b.1.toNat,Nat.mul_add_div hR0,Nat.mul_add_div hR0,Nat.div_eq_of_lt m1,Nat.div_eq_of_lt m2] at q
  have e2:(a.2.1-1).toNat=(b.2.1-1).toNat:=by
   have q:f a=f b:=e
   simp only[f] at q
   rw[e1] at q
   omega
  have:clash a b=true:=by
   unfold clash
   have e3:a.1=b.1:=by omega
   have e4:a.2.1=b.2.1:=by omega
   simp[e3,e4]
  rw[this] at hab
  cases hab
 have hmem: ∀n,n∈g.2.2.map f↔n∈List.range (g.2.1.toNat*R):=by
  intro n
  rw[List.mem_range,List.mem_map]
  constructor
  ·rintro⟨e,he,rfl⟩
   have h1:=hE e he
   have m1:(e.2.1-1).toNat<R:=by omega
   have m2:e.1.toNat+1≤g.2.1.toNat:=by omega
   have m3:=Nat.mul_le_mul_right R m2
   simp only[f]
   rw[Nat.add_mul,Nat.one_mul] at m3
   omega
  ·intro hn
   have hR0:0<R:=by omega
   have hv:n/R<g.2.1.toNat:=(Nat.div_lt_iff_lt_mul hR0).2 hn
   have hx:=Nat.mod_lt n hR0
   have hdm:=Nat.div_add_mod n R
   generalize n/R=a at*
   generalize n%R=b at*
   have h1:=fin_next hfi (v:=(a:Int)) (x:=(b:Int)+1) ⟨by omega,by omega⟩ (letters_mem.2 (by omega))
   obtain⟨e,he,hm⟩:=nextV_mem h1
   refine⟨e,he,?_⟩
   unfold mt at hm
   rw[if_pos (by omega)] at hm
   split at hm
   ·rename_i q
    simp only[f]
    rw[q.2,q.1,Int.toNat_natCast,Nat.mul_comm]
    omega
   ·cases hm
 have:=((List.perm_ext_iff_of_nodup hnd List.nodup_range).2 hmem).length_eq
 simpa using this
end Go.Proofs.YteobmaambgmdbaaGreat
namespace Go.Proofs.YteobmaambgmdbaaGreat
set_option maxRecDepth 20000
set_option linter.unusedVariables false
set_option linter.unusedSimpArgs false
open Go.RowKit
theorem walk_letters {g:GrD} (hg:grB g=true): ∀ {w:List Int} {v:Int},(∀x∈w,-3≤x∧x≤3)→0≤walkF g.2.2 v w→ ∀x∈w,x∈lettersL g.1.toNat
 | [],_,_,_,x,hx=>by cases hx
 | y::w,v,hl,h,x,hx=>by
   rw[walkF_cons] at h
   split at h
   ·exact absurd h (by decide)
   ·rename_i q
    rcases List.mem_cons.1 hx with e | e
    ·subst e
     exact next_letter hg (hl x (by simp)) (Int.not_lt.1 q)
    ·exact walk_letters hg (fun z hz=>hl z (by simp[hz])) h x e
theorem lt3_letters {g:GrD} (hg:grB g=true) {w:List Int} (h: ∀x∈w,x∈lettersL g.1.toNat): ∀x∈w,Lt3 x:=fun x hx=>by
 have h1:=letters_mem.1 (h x hx)
 have h2:=(grB_parts hg).1
 exact⟨by omega,by omega,by omega⟩
theorem incl_of_loops {a b:GrD} (ha:coreB a=true) (hb:coreB b=true) (hr:a.1=b.1)
  (H: ∀w,(∀x∈w,Lt3 x)→NoB w→walkF a.2.2 0 w=0→walkF b.2.2 0 w=0):inclS a b=true:=by
 obtain⟨hga,hfa⟩:=core_parts ha
 rw[incl_eq]
 unfold inclI
 rw[ha,hb,decide_eq_true hr,Bool.true_and,Bool.true_and,Bool.true_and]
 unfold basF
 rw[if_pos ha,List.all_eq_true]
 intro w hw
 obtain⟨e,he,rfl⟩:=List.mem_map.1 hw
 obtain⟨he1,he2⟩:=List.mem_filter.1 he
 have hre:=edge_of_gr hga he1
 have c1:=core_all ha hre.1
 have c2:=core_all ha hre.2.2
 have hwk:=bas_walk hga hfa he1 c1 c2
 have hl3:=bas_let3 hga he1 c1 c2
 exact decide_eq_true (H _ (lt3_letters hga (walk_letters (v:=0) hga hl3 (by omega))) (bas_chain hga hfa he1 he2 c1 c2) hwk)
theorem img_inv {a b:GrD} (h:inclS a b=true) (h':inclS b a=true) {v:Int} (hv:v∈canO a):imgW b a (imgW a b v)=v:=by
 obtain⟨ha,hb,_⟩:=incl_parts h
 have hga:=coreB_grB ha
 have hgb:=coreB_grB hb
 have hz:(0:Int)∈canO b:=List.mem_of_getElem? (canO_ok hgb).2.2
 have hr:=imgW_range h hv
 have:=incl_hom h' (wdO a v) 0 (wd_let3 hga hv) hz hr.1
 rw[incl_zero hgb,wd_walk hga hv] at this
 exact this.symm
theorem img_step {a b:GrD} (h:inclS a b=true) (h':inclS b a=true) {u x:Int} (hu:u∈canO a) (hx: -3≤x∧x≤3):
  (0≤nextV a.2.2 u x→nextV a.2.2 u x∈canO a∧nextV b.2.2 (imgW a b u) x=imgW a b (nextV a.2.2 u x)∧0≤imgW a b (nextV a.2.2 u x))∧(nextV a.2.2 u x<0→nextV b.2.2 (imgW a b u) x<0):=by
 obtain⟨ha,hb,_⟩:=incl_parts h
 have hga:=coreB_grB ha
 constructor
 ·intro h0
  have hm:=canO_closed hga hu hx h0
  exact⟨hm,(stp_in h hu hx h0).2.symm,(imgW_range h hm).1⟩
 ·intro h0
  apply Classical.byContradiction
  intro q
  have hr:=imgW_range h hu
  have:=stp_in h' (core_all hb hr) hx (by omega)
  rw[img_inv h h' hu] at this
  omega
theorem incl_anti {a b:GrD} (h:inclS a b=true) (h':inclS b a=true):a=b:=by
 obtain⟨ha,hb,hr⟩:=incl_parts h
 obtain⟨hga,hfa⟩:=core_parts ha
 obtain⟨hgb,hfb⟩:=core_parts hb
 have hoa:=canO_ok hga
 have hinj: ∀u∈canO a,∀v∈canO a,imgW a b u=imgW a b v→u=v:=fun u hu v hv e=>by
  rw[←img_inv h h' hu,←img_inv h h' hv,e]
 have hm:=canF_map (g:=a) (h:=b) (o:=canO a) (f:=imgW a b) (ls:=lettersL a.1.toNat) hinj (fun u hu x hx=>img_step h h' hu (let3 hga hx)) 41 0 [0] (fun y hy=>by
  rw[List.mem_singleton.1 hy];exact List.mem_of_getElem? hoa.2.2)
 rw[List.map_cons,List.map_nil,incl_zero hga] at hm
 have hcan:canO b=(canO a).map (imgW a b):=by
  show canF b.2.2 (lettersL b.1.toNat) 41 0 [0]=_
  rw[←hr]
  exact hm
 have ea:canG a=a:=by unfold coreB at ha;simp only[Bool.and_eq_true,decide_eq_true_eq] at ha;exact ha.2
 have eb:canG b=b:=by unfold coreB at hb;simp only[Bool.and_eq_true,decide_eq_true_eq] at hb;exact hb.2
 have hob:=canO_ok hgb
 have hov: ∀i:Int,0≤i→i<(canO a).length→ov (canO b) i=imgW a b (ov (canO a) i):=fun i h0 h1=>by
  obtain⟨k,rfl⟩: ∃k:Nat,i=(k:Int):=⟨i.toNat,by omega⟩
  have hk:k<(canO a).length:=by omega
  rw[ov_get hk,ov_get (by rw[hcan];simpa using hk)]
  simp[hcan]
 have hlen:(canO b).length=(canO a).length:=by rw[hcan];simp
 have key: ∀e:EdD,e∈(canG a).2.2↔e∈(canG b).2.2:=fun e=>by
  have hia:=fun he=>edge_of_gr (g:=canG a) (foldB_parts (foldB_canG (core_fold ha))).1 (e:=e) he
  have hib:=fun he=>edge_of_gr (g:=canG b) (foldB_parts (foldB_canG (core_fold hb))).1 (e:=e) he
  have sa:(canG a).2.1=((canO a).length:Int):=rfl
  have sb:(canG b).2.1=((canO b).length:Int):=rfl
  have ra:(canG a).1=a.1:=rfl
  have rb:(canG b).1=b.1:=rfl
  have h3:=(grB_parts hga).1
  have mid: ∀(h1:0≤e.1∧e.1<(canO a).length) (h2:0≤e.2.2∧e.2.2<(canO a).length) (h4:1≤e.2.1∧e.2.1≤a.1),e∈(canG a).2.2↔e∈(canG b).2.2:=fun h1 h2 h4=>by
   show e∈(rnG a (canO a)).2.2↔e∈(rnG b (canO b)).2.2
   rw[rn_edge hoa.1 h1 h2,rn_edge hob.1 (by rw[hlen];exact h1) (by rw[hlen];exact h2),hov _ h1.1 h1.2,hov _ h2.1 h2.2]
   have m1:=ov_mem h1.1 h1.2
   have m2:=ov_mem h2.1 h2.2
   generalize ov (canO a) e.1=p at*
   generalize ov (canO a) e.2.2=q at*
   have q0:=(hoa.2.1 q m2).1
   have st:=img_step h h' m1 (x:=e.2.1) (by omega)
   have i1:(p,e.2.1,q)∈a.2.2↔nextV a.2.2 p e.2.1=q:=by
    rw[next_iff hga hfa (by omega) q0]
    constructor
    ·intro z;exact .inl ⟨by omega,z⟩
    ·rintro(z | z)
     ·exact z.2
     ·omega
   have i2:(imgW a b p,e.2.1,imgW a b q)∈b.2.2↔nextV b.2.2 (imgW a b p) e.2.1=imgW a b q:=by
    rw[next_iff hgb hfb (by omega) (imgW_range h m2).1]
    constructor
    ·intro z;exact .inl ⟨by omega,z⟩
    ·rintro(z | z)
     ·exact z.2
     ·omega
   rw[i1,i2]
   constructor
   ·intro z
    have:=(st.1 (by omega)).2.1
    rw[this,z]
   ·intro z
    have hr2:=(imgW_range h m2).1
    rcases Int.lt_or_le (nextV a.2.2 p e.2.1) 0 with y | y
    ·have:=st.2 y;omega
    ·obtain⟨z1,z2,_⟩:=st.1 y
     rw[z2] at z
     exact hinj _ z1 _ m2 z
  constructor
  ·intro he
   obtain⟨e1,e2,e3⟩:=hia he
   exact(mid (by omega) (by omega) (by omega)).1 he
  ·intro he
   obtain⟨e1,e2,e3⟩:=hib he
   exact(mid (by omega) (by omega) (by omega)).2 he
 rw[←ea,←eb]
 have s1:Srt cmpE (canG a).2.2:=gr_srt (foldB_parts (foldB_canG (core_fold ha))).1
 have s2:Srt cmpE (canG b).2.2:=gr_srt (foldB_parts (foldB_canG (core_fold hb))).1
 have e3:(canG a).2.2=(canG b).2.2:=Srt.ext cmpE_ord s1 s2 key
 have e1:(canG a).1=(canG b).1:=hr
 have e2:(canG a).2.1=(canG b).2.1:=by show((canO a).length:Int)=((canO b).length:Int);rw[hlen]
 exact Prod.ext e1 (Prod.ext e2 e3)
theorem core_uniq {a b:GrD} (ha:coreB a=true) (hb:coreB b=true) (hr:a.1=b.1)
  (H: ∀w,(∀x∈w,Lt3 x)→NoB w→(walkF a.2.2 0 w=0↔walkF b.2.2 0 w=0)):a=b:=
 incl_anti (incl_of_loops ha hb hr fun w h1 h2 h=>(H w h1 h2).1 h) (incl_of_loops hb ha hr.symm fun w h1 h2 h=>(H w h1 h2).2 h)
theorem mov_loops {g:GrD} (hf:foldB g=true) {u:Nat} (hu:(u:Int)<g.2.1) (hc:Conn g.2.2 0 u):(movG g u).1=g.1∧ ∀w,(∀x∈w,Lt3 x)→NoB w→(walkF (movG g u).2.2 0 w=0↔walkF g.2.2 u w=u):=by
 obtain⟨s,hs,hz⟩:=Sub.mov hf hu hc
 obtain⟨hg,hfo⟩:=foldB_parts hf
 have hx:=coreB_grB (movG_core hf hu)
 have hsz:=(grB_parts hx).2.1
 refine⟨hs.rk,fun w hl hn=>⟨fun h=> ?_,fun h=> ?_⟩⟩
 ·have:=hs.walk hx w 0 (by omega) (by omega) (fun x hx=>(hl x hx).b3) (by omega)
  rwa [h,hz] at this
 ·refine hs.lp 0 w (by omega) (by omega) .base (fun x hx=>(hl x hx).b3) hn ?_
  rw[hz]
  exact h
section
variable {g:GrD} (hfi:finB g=true)
include hfi
theorem fin_coreB:coreB g=true:=by unfold finB at hfi;simp only[Bool.and_eq_true] at hfi;exact hfi.1
theorem fin_run {w:List Int} {v:Int} (hv:0≤v∧v<g.2.1) (hw: ∀x∈w,x∈lettersL g.1.toNat):runS g.2.2 (v,[]) w=(walkF g.2.2 v w,[]):=
 run_walk (fin_walk (core_parts (fin_coreB hfi)).1 hfi hv hw).1
theorem fin_red {w:List Int} {v:Int} (hv:0≤v∧v<g.2.1) (hw: ∀x∈w,x∈lettersL g.1.toNat):walkF g.2.2 v (redL [] w)=walkF g.2.2 v w:=by
 obtain⟨hg,hf⟩:=core_parts (fin_coreB hfi)
 have h1:=run_red hg hf (s:=(v,[])) ⟨hv,trivial⟩ (lt3_letters hg hw)
 have hr: ∀x∈redL [] w,x∈lettersL g.1.toNat:=fun x hx=>by
  rcases redL_mem hx with q | q
  ·cases q
  ·exact hw x q
 rw[fin_run hfi hv hw,fin_run hfi hv hr] at h1
 injection h1
omit hfi in
theorem inv_letters {w:List Int} (hw: ∀x∈w,x∈lettersL g.1.toNat): ∀x∈invN w,x∈lettersL g.1.toNat:=fun x hx=>by
 have:=letters_mem.1 (hw _ (invN_mem hx))
 exact letters_mem.2 (by omega)
theorem mov_iff {u v:Nat} (hu:(u:Int)<g.2.1) (hv:(v:Int)<g.2.1):movG g u=movG g v↔ ∀w,(∀x∈w,x∈lettersL g.1.toNat)→(walkF g.2.2 u w=u↔walkF g.2.2 v w=v):=by
 have hc:=fin_coreB hfi
 have hf:=core_fold hc
 obtain⟨hg,_⟩:=core_parts hc
 obtain⟨ru,lu⟩:=mov_loops hf hu (core_conn hc ⟨by omega,hu⟩)
 obtain⟨rv,lv⟩:=mov_loops hf hv (core_conn hc ⟨by omega,hv⟩)
 constructor
 ·intro e w hw
  have h3:=lt3_letters hg hw
  rw[←fin_red hfi ⟨by omega,hu⟩ hw,←fin_red hfi ⟨by omega,hv⟩ hw,←lu _ (red_lt3 h3) (red_noB h3),←lv _ (red_lt3 h3) (red_noB h3),e]
 ·intro H
  refine core_uniq (movG_core hf hu) (movG_core hf hv) (by rw[ru,rv]) fun w h3 hn=> ?_
  rw[lu w h3 hn,lv w h3 hn]
  constructor
  ·intro h
   exact(H w (walk_letters (v:=(u:Int)) hg (fun x hx=>(h3 x hx).b3) (by omega))).1 h
  ·intro h
   exact(H w (walk_letters (v:=(v:Int)) hg (fun x hx=>(h3 x hx).b3) (by omega))).2 h
def fibM (g:GrD) (x:GrD):List Nat:=(List.range g.2.1.toNat).filter fun (v:Nat)=>decide (movG g v=x)
theorem fib_shift {u:Nat} (hu:(u:Int)<g.2.1) {w:List Int} (hw: ∀x∈w,x∈lettersL g.1.toNat):(fibM g (movG g u)).length≤(fibM g (movG g (walkF g.2.2 u w).toNat)).length:=by
 have hc:=fin_coreB hfi
 obtain⟨hg,hf⟩:=core_parts hc
 have hw3:=lt3_letters hg hw
 have hin: ∀v:Nat,(v:Int)<g.2.1→0≤walkF g.2.2 v w∧walkF g.2.2 v w<g.2.1:=fun v hv=>fin_walk hg hfi ⟨by omega,hv⟩ hw
 have hiw:=inv_letters hw
 have hst: ∀v∈fibM g (movG g u),(v:Int)<g.2.1∧(walkF g.2.2 v w).toNat∈fibM g (movG g (walkF g.2.2 u w).toNat):=fun v hv=>by
  obtain⟨hv1,hv2⟩:=List.mem_filter.1 hv
  have hv1:=List.mem_range.1 hv1
  have hvN:(v:Int)<g.2.1:=by omega
  have heq:=(mov_iff hfi hvN hu).1 (of_decide_eq_true hv2)
  have r1:=hin v hvN
  have r2:=hin u hu
  refine⟨hvN,List.mem_filter.2 ⟨List.mem_range.2 (by omega),decide_eq_true ((mov_iff hfi (by omega) (by omega)).2 fun z hz=> ?_)⟩⟩
  rw[Int.toNat_of_nonneg r1.1,Int.toNat_of_nonneg r2.1]
  have hz2: ∀x∈w++z++invN w,x∈lettersL g.1.toNat:=fun x hx=>by
   rcases List.mem_append.1 hx with q | q
   ·rcases List.mem_append.1 q with q | q
    ·exact hw x q
    ·exact hz x q
   ·exact hiw x q
  have h1:=heq (w++z++invN w) hz2
  have conj: ∀t:Nat,(t:Int)<g.2.1→(walkF g.2.2 t (w++z++invN w)=t↔walkF g.2.2 (walkF g.2.2 t w) z=walkF g.2.2 t w):=fun t ht=>by
   have rt:=hin t ht
   have rz:=fin_walk hg hfi rt hz
   have e1:walkF g.2.2 t (w++z++invN w)=walkF g.2.2 (walkF g.2.2 (walkF g.2.2 t w) z) (invN w):=by
    have h1:=fin_run hfi (v:=t) ⟨by omega,ht⟩ hz2
    rw[runS_app,runS_app,fin_run hfi ⟨by omega,ht⟩ hw,fin_run hfi rt hz,fin_run hfi rz hiw] at h1
    injection h1 with h1
    exact h1.symm
   rw[e1]
   constructor
   ·intro h
    have hb:=walk_back hg hf (invN w) (walkF g.2.2 (walkF g.2.2 t w) z) (fun x hx=>((lt3_letters hg hiw) x hx).b3) rz.1 (by omega)
    rw[h,invN_inv] at hb
    exact hb.symm
   ·intro h
    rw[h]
    exact walk_back hg hf w t (fun x hx=>(hw3 x hx).b3) (by omega) rt.1
  rw[conj v hvN,conj u hu] at h1
  exact h1
 have hnd:((fibM g (movG g u)).map fun v=>(walkF g.2.2 (v:Nat) w).toNat).Nodup:=by
  have hd:(fibM g (movG g u)).Nodup:=List.nodup_range.filter _
  unfold List.Nodup at*
  rw[List.pairwise_map]
  refine hd.imp_of_mem fun {a b} ha hb hab e=>hab ?_
  have ha:=(hst a ha).1
  have hb:=(hst b hb).1
  have b1:=walk_back hg hf w a (fun x hx=>(hw3 x hx).b3) (by omega) (hin a ha).1
  have b2:=walk_back hg hf w b (fun x hx=>(hw3 x hx).b3) (by omega) (hin b hb).1
  have:=hin a ha
  have:=hin b hb
  have e':walkF g.2.2 a w=walkF g.2.2 b w:=by omega
  rw[e'] at b1
  omega
 have:=hnd.length_le_of_subset fun z hz=>by
  obtain⟨v,hv,rfl⟩:=List.mem_map.1 hz
  exact(hst v hv).2
 rwa [List.length_map] at this
theorem mov_zero:movG g 0=g:=by
 have hc:=fin_coreB hfi
 have hf:=core_fold hc
 obtain⟨hg,_⟩:=core_parts hc
 have hsz:=(grB_parts hg).2.1
 obtain⟨r0,l0⟩:=mov_loops hf (u:=0) (by omega) .base
 exact core_uniq (movG_core hf (by omega)) hc r0 fun w h3 hn=>l0 w h3 hn
theorem fib_all {u:Nat} (hu:(u:Int)<g.2.1):(fibM g (movG g u)).length=(fibM g g).length:=by
 have hc:=fin_coreB hfi
 obtain⟨hg,hf⟩:=core_parts hc
 have hsz:=(grB_parts hg).2.1
 have hm:=core_all hc (v:=u) ⟨by omega,hu⟩
 have hw:=wd_let hg hm
 have hwk:=wd_walk hg hm
 have h1:=fib_shift hfi (u:=0) (by omega) hw
 have h2:=fib_shift hfi (u:=u) hu (inv_letters hw)
 have hb:=walk_back hg hf (wdO g u) 0 (wd_let3 hg hm) (by omega) (by omega)
 rw[hwk] at hb
 have e0:((0:Nat):Int)=0:=rfl
 rw[e0,hwk,mov_zero hfi,Int.toNat_natCast] at h1
 rw[hb,show(0:Int).toNat=0 from rfl,mov_zero hfi] at h2
 omega
end
theorem conU_spec (g:GrD): ∀n,(conU g n).Nodup∧(∀x∈conU g n,∃u,u<n∧x=movG g u)∧ ∀u,u<n→movG g u∈conU g n
 | 0=>by
   refine⟨List.nodup_nil,fun x hx=> ?_,fun u hu=> ?_⟩
   ·cases hx
   ·omega
 | n+1=>by
   obtain⟨h1,h2,h3⟩:=conU_spec g n
   have e0:conU g (n+1)=addGs (conU g n) (movG g n):=rfl
   rw[e0]
   unfold addGs
   by_cases hi:inG (conU g n) (movG g n)=true
   ·rw[if_pos hi]
    have hm:movG g n∈conU g n:=by unfold inG at hi;exact of_decide_eq_true hi
    refine⟨h1,fun x hx=> ?_,fun u hu=> ?_⟩
    ·obtain⟨u,a,b⟩:=h2 x hx
     exact⟨u,by omega,b⟩
    ·rcases Nat.lt_or_ge u n with q | q
     ·exact h3 u q
     ·obtain rfl:u=n:=by omega
      exact hm
   ·rw[if_neg hi]
    have hm:movG g n∉conU g n:=fun q=>hi (by unfold inG;exact decide_eq_true q)
    refine⟨?_,fun x hx=> ?_,fun u hu=> ?_⟩
    ·rw[List.nodup_append]
     refine⟨h1,by simp,fun a ha b hb e=> ?_⟩
     rw[List.mem_singleton.1 hb] at e
     exact hm (e▸ha)
    ·rcases List.mem_append.1 hx with q | q
     ·obtain⟨u,a,b⟩:=h2 x q
      exact⟨u,by omega,b⟩
     ·exact⟨n,by omega,List.mem_singleton.1 q⟩
    ·rcases Nat.lt_or_ge u n with q | q
     ·exact List.mem_append.2 (.inl (h3 u q))
     ·obtain rfl:u=n:=by omega
      exact List.mem_append.2 (.inr (by simp))
theorem fib_sum {α:Type} [DecidableEq α] (f:Nat→α): ∀(n:Nat) (D:List α),D.Nodup→(∀v,v<n→f v∈D)→(D.map fun x=>((List.range n).filter fun v=>decide (f v=x)).length).sum=n
 | 0,D,_,_=>by
   have: ∀L:List α,(L.map fun x=>((List.range 0).filter fun v=>decide (f v=x)).length).sum=0:=fun L=>by
    induction L with
    | nil=>rfl
    | cons a L ih=>rw[List.map_cons,List.sum_cons,ih];simp
   exact this D
 | n+1,D,hd,hm=>by
   have ih:=fib_sum f n D hd fun v hv=>hm v (by omega)
   have hone: ∀L:List α,L.Nodup→(L.map fun x=>((List.range (n+1)).filter fun v=>decide (f v=x)).length).sum=(L.map fun x=>((List.range n).filter fun v=>decide (f v=x)).length).sum+if f n∈L then 1 else 0:=fun L=>by
    induction L with
    | nil=>intro _;rfl
    | cons a L ihL=>
      intro hd
      obtain⟨ha,hd⟩:=List.nodup_cons.1 hd
      rw[List.map_cons,List.map_cons,List.sum_cons,List.sum_cons,ihL hd,List.range_succ,List.filter_append,List.length_append]
      by_cases e:f n=a
      ·subst e
       rw[if_neg ha,if_pos (by simp)]
       simp
       omega
      ·have e2:(f n∈a::L)↔f n∈L:=by simp[e]
       simp only[e2]
       simp[e]
       omega
   rw[hone D hd,ih,if_pos (hm n (by omega))]
def nrmL (g:GrD):List (List Int):=if finB g=true then((List.range g.2.1.toNat).filter fun (v:Nat)=>decide (movG g v=g)).map fun (v:Nat)=>wdO g v else []
def trvB (g:GrD):Bool:=coreB g&&decide (g.2.2= [])
def norB (g:GrD):Bool:=trvB g||(finB g&&decide (((nrmL g).length:Int)=g.2.1))
theorem nrm_len {g:GrD} (hfi:finB g=true):(nrmL g).length=(fibM g g).length:=by
 unfold nrmL
 rw[if_pos hfi,List.length_map]
 rfl
theorem con_nrm {g:GrD} (hfi:finB g=true):(conF g).length*(nrmL g).length=g.2.1.toNat:=by
 obtain⟨h1,h2,h3⟩:=conU_spec g g.2.1.toNat
 have hs:=fib_sum (fun v:Nat=>movG g v) g.2.1.toNat (conU g g.2.1.toNat) h1 h3
 have e:(conU g g.2.1.toNat).map (fun x=>((List.range g.2.1.toNat).filter fun v=>decide (movG g v=x)).length)=(conU g g.2.1.toNat).map fun _=>(fibM g g).length:=List.map_congr_left fun x hx=>by
  obtain⟨u,hu,rfl⟩:=h2 x hx
  exact fib_all hfi (by omega)
 rw[e] at hs
 have hc: ∀L:List GrD,(L.map fun _=>(fibM g g).length).sum=L.length*(fibM g g).length:=fun L=>by
  induction L with
  | nil=>simp
  | cons a L ih=>rw[List.map_cons,List.sum_cons,ih,List.length_cons,Nat.succ_mul];omega
 rw[hc] at hs
 rw[nrm_len hfi]
 unfold conF
 rw[if_pos hfi]
 exact hs
theorem trv_not {g:GrD} (hfi:finB g=true):trvB g=false:=by
 have hc:=fin_coreB hfi
 obtain⟨hg,hf⟩:=core_parts hc
 obtain⟨hr,hsz,_,_⟩:=grB_parts hg
 apply Bool.eq_false_iff.2
 intro h
 unfold trvB at h
 simp only[Bool.and_eq_true,decide_eq_true_eq] at h
 have:=fin_edges hfi
 rw[h.2] at this
 have h1:1*1≤g.2.1.toNat*g.1.toNat:=Nat.mul_le_mul (by omega) (by omega)
 simp only[List.length_nil] at this
 omega
theorem nor_con {g:GrD} (hfi:finB g=true):norB g=decide ((conF g).length=1):=by
 have hc:=fin_coreB hfi
 obtain⟨hr,hsz,_,_⟩:=grB_parts (core_parts hc).1
 have h:=con_nrm hfi
 unfold norB
 rw[trv_not hfi,hfi,Bool.false_or,Bool.true_and]
 refine decide_eq_decide.2 ⟨fun e=> ?_,fun e=> ?_⟩
 ·have e':(nrmL g).length=g.2.1.toNat:=by omega
  rw[e'] at h
  have hp:0<g.2.1.toNat:=by omega
  exact Nat.eq_of_mul_eq_mul_right hp (by rw[h,Nat.one_mul])
 ·rw[e,Nat.one_mul] at h
  omega
end Go.Proofs.YteobmaambgmdbaaGreat
namespace Go.Proofs.YteobmaambgmdbaaGreat
set_option maxRecDepth 20000
set_option linter.unusedVariables false
set_option linter.unusedSimpArgs false
open Go.RowKit
theorem mt_half {p x y:Int} {e:EdD} (hx: -3≤x∧x≤3) (h:mt p x e=some y):hE e p x:=by
 unfold hE
 rcases(mt_iff hx).1 h with ⟨_,a,b,_⟩ | ⟨_,a,b,_⟩
 ·exact .inl ⟨b,a⟩
 ·exact .inr ⟨b,a⟩
theorem next_keep {a b:GrD} (hfb:Fol b.2.2) (hsub: ∀e∈a.2.2,e∈b.2.2) {p x:Int} (h:0≤nextV a.2.2 p x):nextV b.2.2 p x=nextV a.2.2 p x:=by
 obtain⟨e,he,hm⟩:=nextV_mem h
 exact nextV_of hfb (hsub e he) hm
theorem walk_keep {a b:GrD} (hfb:Fol b.2.2) (hsub: ∀e∈a.2.2,e∈b.2.2): ∀ {w:List Int} {p:Int},0≤walkF a.2.2 p w→walkF b.2.2 p w=walkF a.2.2 p w
 | [],_,_=>rfl
 | x::w,p,h=>by
   rw[walkF_cons] at h
   split at h
   ·exact absurd h (by decide)
   ·rename_i q
    rw[walkF_cons,walkF_cons,next_keep hfb hsub (Int.not_lt.1 q),if_neg q,if_neg q]
    exact walk_keep hfb hsub h
def upS (b:GrD) (s:Int×List Int):Int×List Int:=runS b.2.2 (s.1,[]) s.2.reverse
theorem up_act {a b:GrD} (hga:grB a=true) (hgb:grB b=true) (hfb:Fol b.2.2) (hsub: ∀e∈a.2.2,e∈b.2.2) (hsz:a.2.1≤b.2.1) {s:Int×List Int} (hs:okS a s) {x:Int} (hx:Lt3 x):
  upS b (actS a.2.2 s x)=actS b.2.2 (upS b s) x:=by
 obtain⟨p,r⟩:=s
 obtain⟨hp,hr⟩:=hs
 simp only at hp hr
 match r with
 | []=>
   by_cases q:nextV a.2.2 p x<0
   ·have e:actS a.2.2 (p,[]) x=(p,[x]):=by unfold actS;simp only;rw[if_pos q]
    rw[e]
    rfl
   ·have e:actS a.2.2 (p,[]) x=(nextV a.2.2 p x,[]):=by unfold actS;simp only;rw[if_neg q]
    have k:=next_keep hfb hsub (Int.not_lt.1 q)
    rw[e]
    show(nextV a.2.2 p x,[])=actS b.2.2 (p,[]) x
    unfold actS
    simp only
    rw[k,if_neg q]
 | y::r=>
   have hok:okS b (runS b.2.2 (p,[]) r.reverse):=run_ok hgb (s:=(p,[])) ⟨⟨hp.1,by show p<b.2.1;omega⟩,trivial⟩ fun z hz=>(okR_noB hr).2.1 z (by simp at hz;simp[hz])
   have hy:Lt3 y:=okR_lt hr
   have e2:upS b (p,y::r)=actS b.2.2 (runS b.2.2 (p,[]) r.reverse) y:=by
    unfold upS
    simp only[List.reverse_cons]
    rw[runS_app]
    rfl
   by_cases e:y= -x
   ·have e1:actS a.2.2 (p,y::r) x=(p,r):=by unfold actS;simp only;rw[if_pos e]
    rw[e1,e2,show x= -y by omega,act_back hgb hfb hok hy]
    rfl
   ·have e1:actS a.2.2 (p,y::r) x=(p,x::y::r):=by unfold actS;simp only;rw[if_neg e]
    rw[e1]
    unfold upS
    simp only[List.reverse_cons]
    rw[runS_app]
    rfl
theorem up_run {a b:GrD} (hga:grB a=true) (hgb:grB b=true) (hfb:Fol b.2.2) (hsub: ∀e∈a.2.2,e∈b.2.2) (hsz:a.2.1≤b.2.1): ∀ {w:List Int} {s:Int×List Int},okS a s→(∀x∈w,Lt3 x)→upS b (runS a.2.2 s w)=runS b.2.2 (upS b s) w
 | [],_,_,_=>rfl
 | x::w,s,hs,hw=>by
   rw[runS_cons,runS_cons,←up_act hga hgb hfb hsub hsz hs (hw x (by simp))]
   exact up_run hga hgb hfb hsub hsz (act_ok hga hs (hw x (by simp))) fun y hy=>hw y (by simp[hy])
section
variable {g:GrD} {t:List Int}
def cjV (g:GrD) (t:List Int):Int:=(readF g.2.2 0 t).1
def cjW (g:GrD) (t:List Int):List Int:=t.drop (readF g.2.2 0 t).2
def cjN (g:GrD):Nat:=(hairX g).2.1.toNat
theorem cj_mem {e:EdD}:e∈(cjY g t).2.2↔e∈g.2.2∨ ∃j,j<(cjW g t).length∧e=pthE (cjN g) (cjV g t) g.2.1 (cjW g t) j:=by
 have hsp:=(srt_spec cmpE_ord (g.2.2++pthL (cjN g) (cjV g t) g.2.1 (cjW g t) (cjW g t).length)).2 e
 show e∈srt cmpE (g.2.2++pthL (cjN g) (cjV g t) g.2.1 (cjW g t) (cjW g t).length)↔_
 rw[hsp,List.mem_append,pth_mem]
variable (hf:foldB g=true) (hw:wordB g.1 t=true) (hn:(readF g.2.2 0 t).2<t.length) (h40:g.2.1<40) (hok:addOk (hairX g) (t.drop (readF g.2.2 0 t).2)=true)
include hf hw hn h40 hok
theorem cj_facts:grB (cjY g t)=true∧Fol (cjY g t).2.2∧g.2.1<(cjY g t).2.1∧(0≤cjV g t∧cjV g t<g.2.1)∧(∀x∈cjW g t,Lt3 x)∧NoB (cjW g t)∧0<(cjW g t).length∧(cjN g:Int)=g.2.1+1∧1≤g.2.1:=by
 obtain⟨h1,h2⟩:=foldB_parts (cjY_fold hf hw hn h40 hok)
 have hsz:=(grB_parts (foldB_parts hf).1).2.1
 have hw3:=wordB_lt3 hw
 have hdw: ∀x∈cjW g t,Lt3 x:=fun x hx=>hw3 x (List.drop_subset _ _ hx)
 refine⟨h1,h2,cjY_size (by omega),read_range (foldB_parts hf).1 t 0 (by omega),hdw,noB_of_red (redP_drop (wordB_redP hw) _) hdw,?_,?_,hsz.1⟩
 ·unfold cjW;rw[List.length_drop];omega
 ·show(((hairX g).2.1.toNat:Nat):Int)=_
  have:(hairX g).2.1=g.2.1+1:=rfl
  omega
theorem cj_step {j:Nat} (hj:j<(cjW g t).length):nextV (cjY g t).2.2 (atP (cjN g) (cjW g t).length (cjV g t) g.2.1 j) (cjW g t)[j]=nxP (cjN g) (cjW g t).length g.2.1 j:=by
 obtain⟨hg,hfo,_,_,hl,_,_,_,_⟩:=cj_facts hf hw hn h40 hok
 have hx:=hl _ (List.getElem_mem hj)
 refine nextV_of hfo (cj_mem.2 (.inr ⟨j,hj,rfl⟩)) ?_
 rw[mt_iff hx.b3]
 unfold pthE stpE
 rw[getD_at hj]
 have:=hx.2.2
 by_cases h0:0<(cjW g t)[j]
 ·rw[if_pos h0];exact .inl ⟨h0,rfl,rfl,rfl⟩
 ·rw[if_neg h0];exact .inr ⟨by omega,rfl,rfl,rfl⟩
theorem cj_half {p x:Int} (hx: -3≤x∧x≤3) (h:0≤nextV (cjY g t).2.2 p x):(0≤nextV g.2.2 p x∧p<g.2.1)∨ ∃j,∃hj:j<(cjW g t).length,(p=atP (cjN g) (cjW g t).length (cjV g t) g.2.1 j∧x=(cjW g t)[j])∨(p=nxP (cjN g) (cjW g t).length g.2.1 j∧x= -(cjW g t)[j]):=by
 obtain⟨hg,hfo,_,_,hl,_,_,_,_⟩:=cj_facts hf hw hn h40 hok
 obtain⟨e,he,hm⟩:=nextV_mem h
 have hh:=mt_half hx hm
 rcases cj_mem.1 he with q | ⟨j,hj,rfl⟩
 ·have:=half_read hf q hh
  exact .inl ⟨this.1,this.2.2⟩
 ·refine .inr ⟨j,hj,?_⟩
  have hz:=(hl _ (List.getElem_mem hj)).2.2
  unfold pthE at hh
  rw[getD_at hj] at hh
  exact(stp_half hz).1 hh
theorem cj_nx {j:Nat}:g.2.1≤nxP (cjN g) (cjW g t).length g.2.1 j:=by
 obtain⟨_,_,_,_,_,_,_,hN,_⟩:=cj_facts hf hw hn h40 hok
 unfold nxP
 split<;>omega
theorem cj_fwd: ∀(q:List Int) (j:Nat) (hj:j<(cjW g t).length),(∀x∈q,Lt3 x)→NoB ((cjW g t)[j]::q)→walkF (cjY g t).2.2 (nxP (cjN g) (cjW g t).length g.2.1 j) q<0∨g.2.1≤walkF (cjY g t).2.2 (nxP (cjN g) (cjW g t).length g.2.1 j) q
 | [],j,hj,_,_=> .inr (cj_nx hf hw hn h40 hok)
 | x::q,j,hj,hq,hb=>by
   obtain⟨hg,hfo,_,hv,hl,_,_,hN,hs1⟩:=cj_facts hf hw hn h40 hok
   rw[walkF_cons]
   by_cases h0:nextV (cjY g t).2.2 (nxP (cjN g) (cjW g t).length g.2.1 j) x<0
   ·rw[if_pos h0];exact .inl (by omega)
   ·rw[if_neg h0]
    have hnx:=cj_nx hf hw hn h40 hok (j:=j)
    have hne:x≠ -(cjW g t)[j]:=hb.1
    have hvr:(0≤g.2.1∧g.2.1<(hairX g).2.1):=by show 0≤g.2.1∧g.2.1<g.2.1+1;omega
    rcases cj_half hf hw hn h40 hok (hq x (by simp)).b3 (Int.not_lt.1 h0) with ⟨_,y⟩ | ⟨i,hi,(⟨y,z⟩ | ⟨y,z⟩)⟩
    ·omega
    ·have hij:i=j+1:=by
      cases i with
      | zero=>rw[atP_zero] at y;omega
      | succ i=>
        rw[atP_succ] at y
        have:j=i:=nx_inj (g:=hairX g) (t:=cjW g t) (v:=g.2.1) hvr hj (by omega) y
        omega
     subst hij
     have e:=cj_step hf hw hn h40 hok hi
     rw[atP_succ,←z] at e
     rw[e]
     refine cj_fwd q (j+1) hi (fun y hy=>hq y (by simp[hy])) ?_
     rw[←z]
     exact hb.2
    ·have:j=i:=nx_inj (g:=hairX g) (t:=cjW g t) (v:=g.2.1) hvr hj hi y
     subst this
     exact absurd z hne
theorem cj_out {p x:Int} {q:List Int} (hp:0≤p∧p<g.2.1) (hq: ∀y∈x::q,Lt3 y) (hb:NoB (x::q)) (h0:nextV g.2.2 p x<0):walkF (cjY g t).2.2 p (x::q)<0∨g.2.1≤walkF (cjY g t).2.2 p (x::q):=by
 obtain⟨hg,hfo,_,hv,hl,_,_,hN,hs1⟩:=cj_facts hf hw hn h40 hok
 rw[walkF_cons]
 by_cases h1:nextV (cjY g t).2.2 p x<0
 ·rw[if_pos h1];exact .inl (by omega)
 ·rw[if_neg h1]
  rcases cj_half hf hw hn h40 hok (hq x (by simp)).b3 (Int.not_lt.1 h1) with ⟨y,_⟩ | ⟨i,hi,(⟨y,z⟩ | ⟨y,z⟩)⟩
  ·omega
  ·have e:=cj_step hf hw hn h40 hok hi
   rw[←y,←z] at e
   rw[e]
   refine cj_fwd hf hw hn h40 hok q i hi (fun y hy=>hq y (by simp[hy])) ?_
   rw[←z]
   exact hb
  ·have:=cj_nx hf hw hn h40 hok (j:=i)
   omega
theorem cj_loop {w:List Int} (h3: ∀x∈w,Lt3 x):runS (cjY g t).2.2 (0,[]) w=(0,[])↔runS g.2.2 (0,[]) w=(0,[]):=by
 obtain⟨hg,hfo,hsz,hv,hl,_,_,hN,hs1⟩:=cj_facts hf hw hn h40 hok
 obtain⟨hga,hfa⟩:=foldB_parts hf
 have hsub: ∀e∈g.2.2,e∈(cjY g t).2.2:=fun e he=>cj_mem.2 (.inl he)
 have hok0:okS g ((0:Int),([]:List Int)):=⟨⟨by simp only;omega,by simp only;omega⟩,trivial⟩
 have hup:=up_run hga hg hfo hsub (by omega) (s:=(0,[])) hok0 h3
 have e0:upS (cjY g t) (0,[])=(0,[]):=rfl
 rw[e0] at hup
 rw[←hup]
 constructor
 ·intro h
  have hs:=run_ok hga hok0 h3
  generalize runS g.2.2 (0,[]) w=s at*
  obtain⟨p,r⟩:=s
  obtain⟨hp,hr⟩:=hs
  simp only at hp hr
  obtain⟨k1,k2,k3⟩:=okR_noB hr
  unfold upS at h
  simp only at h
  rcases hq:r.reverse with _ | ⟨x,q⟩
  ·have:r= []:=by simpa using hq
   subst this
   exact h
  ·exfalso
   rw[hq] at h k1 k3
   have hx3: ∀y∈x::q,Lt3 y:=fun y hy=>k2 y (by rw[←hq] at hy;simpa using hy)
   rcases cj_out hf hw hn h40 hok hp hx3 k1 (k3 x rfl) with z | z
   ·have:=run_stop hg k1 (v:=p) ⟨hp.1,by omega⟩ z
    rw[h] at this
    exact this rfl
   ·rw[run_walk (by omega)] at h
    injection h with h
    omega
 ·intro h
  rw[h]
  rfl
theorem cj_along: ∀m,m≤(cjW g t).length→walkF (cjY g t).2.2 (cjV g t) ((cjW g t).take m)=atP (cjN g) (cjW g t).length (cjV g t) g.2.1 m
 | 0,_=>by rw[List.take_zero];rfl
 | m+1,hm=>by
   obtain⟨hg,hfo,hsz,hv,hl,_,_,hN,hs1⟩:=cj_facts hf hw hn h40 hok
   have ih:=cj_along m (by omega)
   have e:=cj_step hf hw hn h40 hok (j:=m) hm
   have hnx:=cj_nx hf hw hn h40 hok (j:=m)
   have ha:0≤atP (cjN g) (cjW g t).length (cjV g t) g.2.1 m:=by
    cases m with
    | zero=>rw[atP_zero];omega
    | succ m=>rw[atP_succ];have:=cj_nx hf hw hn h40 hok (j:=m);omega
   rw[List.take_succ_eq_append_getElem hm,walkF_app _ _ _ _ (by omega),ih,walkF_one _ _ _ (by omega),e,atP_succ]
theorem cj_end:walkF (cjY g t).2.2 0 t=g.2.1:=by
 obtain⟨hg,hfo,hsz,hv,hl,_,hlen,hN,hs1⟩:=cj_facts hf hw hn h40 hok
 have hsub: ∀e∈g.2.2,e∈(cjY g t).2.2:=fun e he=>cj_mem.2 (.inl he)
 have h1:=walk_readT g.2.2 t 0
 have h2:=walk_keep (a:=g) (b:=cjY g t) hfo hsub (w:=t.take (readF g.2.2 0 t).2) (p:=0) (by rw[h1];exact hv.1)
 rw[h1] at h2
 have h3:=cj_along hf hw hn h40 hok (cjW g t).length (Nat.le_refl _)
 rw[List.take_length] at h3
 have key: ∀(es:List EdD) (k:Nat),0≤walkF es 0 (t.take k)→walkF es 0 t=walkF es (walkF es 0 (t.take k)) (t.drop k):=fun es k h=>by
  rw[←walkF_app _ _ _ _ h,List.take_append_drop]
 rw[key _ (readF g.2.2 0 t).2 (by rw[h2];exact hv.1),h2]
 show walkF (cjY g t).2.2 (cjV g t) (cjW g t)=g.2.1
 rw[h3]
 obtain⟨m,hm⟩: ∃m,(cjW g t).length=m+1:=⟨(cjW g t).length-1,by omega⟩
 rw[hm,atP_succ]
 unfold nxP
 rw[if_neg (by omega)]
end
theorem mov_conj {Y:GrD} (hf:foldB Y=true) {t:List Int} (ht: ∀x∈t,Lt3 x) {n:Nat} (hn:(n:Int)<Y.2.1) (hwk:walkF Y.2.2 0 t=n):
  (movG Y n).1=Y.1∧ ∀w,(∀x∈w,Lt3 x)→NoB w→(walkF (movG Y n).2.2 0 w=0↔runS Y.2.2 (0,[]) (t++w++invN t)=(0,[])):=by
 obtain⟨hg,hfo⟩:=foldB_parts hf
 have hsz:=(grB_parts hg).2.1
 have hc:Conn Y.2.2 0 (n:Int):=by
  have:=conn_walk t 0 (fun x hx=>(ht x hx).b3) (.base (es:=Y.2.2) (v:=0)) (by omega)
  rwa [hwk] at this
 obtain⟨h1,h2⟩:=mov_loops hf hn hc
 have hok0:okS Y ((0:Int),([]:List Int)):=⟨⟨by simp only;omega,by simp only;omega⟩,trivial⟩
 have hokn:okS Y ((n:Int),([]:List Int)):=⟨⟨by simp only;omega,hn⟩,trivial⟩
 have hti: ∀x∈invN t,Lt3 x:=fun y hy=>by have:=(ht _ (invN_mem hy)).neg;rwa [Int.neg_neg] at this
 refine⟨h1,fun w h3 hb=> ?_⟩
 have hrt:runS Y.2.2 (0,[]) t=((n:Int),[]):=by rw[run_walk (by omega),hwk]
 rw[h2 w h3 hb,walk_iff hg hb ⟨by omega,hn⟩ (by omega),runS_app,runS_app,hrt]
 constructor
 ·intro h
  rw[h,←hrt,run_inv hg hfo hok0 ht]
 ·intro h
  have:=run_inv hg hfo (run_ok hg hokn h3) hti
  rw[h,invN_inv,hrt] at this
  exact this.symm
theorem conj_law {g:GrD} {t:List Int} (hs:(conjF g t).2=true):coreB g=true∧wordB g.1 t=true∧coreB (conjF g t).1=true∧(conjF g t).1.1=g.1∧
  ∀w,(∀x∈w,Lt3 x)→NoB w→(walkF (conjF g t).1.2.2 0 w=0↔runS g.2.2 (0,[]) (t++w++invN t)=(0,[])):=by
 unfold conjF at hs⊢
 by_cases hc:coreB g=true∧wordB g.1 t=true
 ·rw[if_pos hc] at hs⊢
  obtain⟨hc,hw⟩:=hc
  have hf:=core_fold hc
  obtain⟨hg,hfo⟩:=foldB_parts hf
  have hsz:=(grB_parts hg).2.1
  have hw3:=wordB_lt3 hw
  refine⟨hc,hw,?_⟩
  have hrr:=read_range hg t 0 ⟨by omega,by omega⟩
  by_cases hl:(readF g.2.2 0 t).2=t.length
  ·rw[if_pos hl]
   have h1:=walk_readT g.2.2 t 0
   rw[hl,List.take_length] at h1
   generalize (readF g.2.2 0 t).1=v at*
   obtain⟨n,rfl⟩: ∃n:Nat,v=n:=⟨v.toNat,by omega⟩
   rw[Int.toNat_natCast]
   have:=mov_conj hf hw3 hrr.2 h1
   exact⟨movG_core hf hrr.2,this.1,this.2⟩
  ·rw[if_neg hl] at hs⊢
   by_cases hk:g.2.1<40∧addOk (hairX g) (t.drop (readF g.2.2 0 t).2)=true
   ·rw[if_pos hk]
    obtain⟨h40,hok⟩:=hk
    have hn:(readF g.2.2 0 t).2<t.length:=by have:=readF_le g.2.2 t 0;omega
    have hY:=cjY_fold hf hw hn h40 hok
    have hsY:=cjY_size (g:=g) (t:=t) (by omega)
    have he:=cj_end hf hw hn h40 hok
    have hnn:((g.2.1.toNat:Nat):Int)=g.2.1:=by omega
    obtain⟨m1,m2⟩:=mov_conj hY hw3 (n:=g.2.1.toNat) (by omega) (by omega)
    refine⟨movG_core hY (by omega),m1,fun w h3 hb=> ?_⟩
    rw[m2 w h3 hb]
    refine cj_loop hf hw hn h40 hok fun x hx=> ?_
    rcases List.mem_append.1 hx with q | q
    ·rcases List.mem_append.1 q with q | q
     ·exact hw3 x q
     ·exact h3 x q
    ·have:=(hw3 _ (invN_mem q)).neg;rwa [Int.neg_neg] at this
   ·rw[if_neg hk] at hs;cases hs
 ·rw[if_neg hc] at hs;cases hs
theorem fib_full {g:GrD} (h:(fibM g g).length=g.2.1.toNat) {u:Nat} (hu:u<g.2.1.toNat):movG g u=g:=by
 have h':((List.range g.2.1.toNat).filter fun (v:Nat)=>decide (movG g v=g)).length=(List.range g.2.1.toNat).length:=by rw[List.length_range];exact h
 have:=List.length_filter_eq_length_iff.1 h' u (List.mem_range.2 hu)
 exact of_decide_eq_true this
theorem conj_wd {g:GrD} {v:Int} (hv:0≤v∧v<g.2.1) (hm:movG g v.toNat=g) (hs:(conjF g (wdO g v)).2=true):(conjF g (wdO g v)).1=g:=by
 obtain⟨hc,hw,_⟩:=conj_law hs
 obtain⟨hg,hfo⟩:=core_parts hc
 have hwk:=wd_walk hg (core_all hc hv)
 have hr:=walk_read g.2.2 (wdO g v) 0 (by omega)
 unfold conjF at hs⊢
 rw[if_pos ⟨hc,hw⟩]
 rcases hr with q | ⟨_,q1,q2⟩
 ·omega
 ·rw[if_pos q1,q2,hwk]
  exact hm
theorem nor_conj {g:GrD} {t:List Int} (hn:norB g=true) (hs:(conjF g t).2=true):(conjF g t).1=g:=by
 obtain⟨hc,hw,hcx,hr,hL⟩:=conj_law hs
 obtain⟨hg,hfo⟩:=core_parts hc
 have hsz:=(grB_parts hg).2.1
 have hw3:=wordB_lt3 hw
 have ok0':=ok0 hc
 unfold norB at hn
 rcases Bool.or_eq_true_iff.1 hn with h | h
 ·unfold trvB at h
  simp only[Bool.and_eq_true,decide_eq_true_eq] at h
  have he:=h.2
  have hti: ∀x∈invN t,Lt3 x:=fun y hy=>by have:=(hw3 _ (invN_mem hy)).neg;rwa [Int.neg_neg] at this
  have triv: ∀W,(∀x∈W,Lt3 x)→runS g.2.2 (0,[]) W=(0,[])→ ∀s,okS g s→runS g.2.2 s W=s:=fun W h3 hW s hsk=>by
   have h1:=(loop_iff hg hfo h3 ⟨by omega,by omega⟩ (by omega)).2 hW
   have hnil:redL [] W= []:=by
    rcases hq:redL [] W with _ | ⟨x,q⟩
    ·rfl
    ·rw[hq,walkF_cons,he,nextV_nil,if_pos (by decide)] at h1
     exact absurd h1 (by decide)
   rw[←run_red hg hfo hsk h3,hnil]
   rfl
  refine core_uniq hcx hc hr fun w h3 hb=> ?_
  rw[hL w h3 hb,walk_iff hg hb ⟨by omega,by omega⟩ (by omega)]
  have h3': ∀x∈t++w++invN t,Lt3 x:=fun x hx=>by
   rcases List.mem_append.1 hx with q | q
   ·rcases List.mem_append.1 q with q | q
    ·exact hw3 x q
    ·exact h3 x q
   ·exact hti x q
  constructor
  ·intro h
   have hk:=triv _ h3' h (runS g.2.2 (0,[]) (invN t)) (run_ok hg ok0' hti)
   have hi:=run_inv hg hfo ok0' hti
   rw[invN_inv] at hi
   rw[runS_app,runS_app,hi] at hk
   have h2:=run_inv hg hfo (run_ok hg ok0' h3) hti
   rw[hk,invN_inv,hi] at h2
   exact h2.symm
  ·intro h
   rw[runS_app,runS_app,triv w h3 h _ (run_ok hg ok0' hw3)]
   exact run_inv hg hfo ok0' hw3
 ·obtain⟨hfi,hl⟩:=Bool.and_eq_true_iff.1 h
  have hl:=of_decide_eq_true hl
  rw[nrm_len hfi] at hl
  have hwl:=word_letters hw
  have hwk:=fin_walk hg hfi (v:=0) ⟨by omega,by omega⟩ hwl
  have hrd:=walk_read g.2.2 t 0 (by omega)
  unfold conjF at hs⊢
  rw[if_pos ⟨hc,hw⟩]
  rcases hrd with q | ⟨_,q1,q2⟩
  ·omega
  ·rw[if_pos q1,q2]
   exact fib_full (by omega) (by omega)
end Go.Proofs.YteobmaambgmdbaaGreat
