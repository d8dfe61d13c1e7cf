/- Parts of the proof: LoW, Cpy, UpI, Word, Prod, Subst, Eqn, Sol, SolU, Mark, Put, IIL, SolM, Fmt, EqP, Parts, Sing, Par, ParS, CycP, EqnM, DrawW, Fre, Rgn, CanS. -/
import Derived.Test.YteobmaambgmdbaaGreatP02
import Derived.Test.YteobmaambgmdbaaGreatP01
import Derived.Outline
import Derived.Deep.RegionHeld3
namespace Go.Proofs.YteobmaambgmdbaaGreat
set_option maxRecDepth 20000
set_option linter.unusedVariables false
set_option linter.unusedSimpArgs false
open Go.RowKit
theorem OwII_one (w:World) {lo:Nat} (h:lo≤w.heap.size):OwII lo (w.heap.size+2) (.slice (some ⟨w.heap.size+1,0,none⟩) 1 1) [[]] ((w.alloc (.cells #[] 3)).alloc (.cells #[.slice (some ⟨w.heap.size,0,none⟩) 0 0] 27)):=by
 have h1:OwI (w.alloc (.cells #[] 3)) 0 (.slice (some ⟨w.heap.size,0,none⟩) 0 0) []:=OwI_lit w [] I64s_nil (by simp) (Nat.zero_le _)
 have hs:(w.alloc (.cells #[] 3)).heap.size=w.heap.size+1:=by simp
 have h2:=World.ownsRow_lit (e:=27) (size:=1) (base:=0) (w.alloc (.cells #[] 3)) #[.slice (some ⟨w.heap.size,0,none⟩) 0 0] 1 (Nat.zero_le _) (by unfold maxLen;omega) (by simp)
 rw[hs] at h2
 refine⟨[w.heap.size+1,w.heap.size],⟨[([.slice (some ⟨w.heap.size,0,none⟩) 0 0],[],[w.heap.size])],rfl,?_,by simpa using h2,by simp[Value.ownBlock]⟩,by simp,fun b hb=> ?_⟩
 ·intro e he
  simp at he
  subst he
  exact⟨rfl,_,rfl,h1.alloc _,by simp[Value.ownBlock]⟩
 ·simp at hb
  omega
theorem Ow3.mk {lo mid hi:Nat} {w:World} {v1 v2:Value} {L1 L2:List (List Int)} (h1:OwII lo mid v1 L1 w) (h2:OwII mid hi v2 L2 w) (hl:lo≤mid) (hm:mid≤hi) (hh:hi≤w.heap.size):Ow3 lo w v1 L1 v2 L2 (.slice none 0 0) []:=by
 obtain⟨F1,a1,a2,a3⟩:=h1
 obtain⟨F2,b1,b2,b3⟩:=h2
 refine⟨F1,F2,[],a1,b1,⟨[],rfl,fun e he=>by(cases he),⟨rfl, .inl ⟨rfl,rfl⟩⟩,by simp[Value.ownBlock]⟩,?_,fun b hb=> ?_⟩
 ·rw[List.append_nil]
  refine List.nodup_append.2 ⟨a2,b2,fun x hx y hy hxy=> ?_⟩
  have:=a3 x hx
  have:=b3 y hy
  omega
 ·rw[List.append_nil] at hb
  rcases List.mem_append.1 hb with hb | hb
  ·have:=a3 b hb;omega
  ·have:=b3 b hb;omega
theorem take_filter {α} (p:α→Bool) (l:List α) (k:Nat) (h:k<l.length):(l.take (k+1)).filter p=if p l[k]=true then(l.take k).filter p++ [l[k]] else(l.take k).filter p:=by
 rw[List.take_succ_eq_append_getElem h,List.filter_append]
 rcases e:p l[k] with _ | _
 ·simp[e]
 ·simp[e]
theorem take_flat {α β} (f:α→List β) (l:List α) (k:Nat) (h:k<l.length):(l.take (k+1)).flatMap f=(l.take k).flatMap f++f l[k]:=by
 rw[List.take_succ_eq_append_getElem h,List.flatMap_append]
 simp
theorem Ow3.row3 {lo n cap k:Nat} {w:World} {A:Option Addr} {v1 v2:Value} {L1 L2 L3:List (List Int)} (h:Ow3 lo w v1 L1 v2 L2 (.slice A n cap) L3) (hk:k<L3.length):
  ∃g A1 c1,A=some ⟨g,0,none⟩∧g<w.heap.size∧w.cell? ⟨g,k,none⟩=some (.slice A1 L3[k].length c1)∧L3[k].length≤c1∧c1≤maxLen∧OwI w 0 (.slice A1 L3[k].length c1) L3[k]∧
   ∀b,(Value.slice A1 L3[k].length c1).ownBlock=some b→v1.ownBlock≠some b∧v2.ownBlock≠some b∧b<w.heap.size:=by
 obtain⟨F1,F2,F3,h1,h2,⟨es,e1,e2,e3,rfl⟩,hn,hF⟩:=h
 have hl:es.length=L3.length:=by rw[←e1];simp
 have hke:k<es.length:=by omega
 obtain⟨f1,f2⟩:=flat_ones es fun e he=>(e2 e he).1
 have hif:k<((es.map (·.1)).flatten).length:=by omega
 obtain⟨s,hs,ho,hFe⟩:=(e2 es[k] (by simp)).2
 have hd:es[k].2.1=L3[k]:=by simp[←e1]
 rw[hd] at ho
 have hfk:=f2 k hke hif
 rw[hs] at hfk
 injection hfk with hfk _
 obtain⟨A',cap',hv,_,_,_,hg⟩:=owns_form e3
 obtain⟨g,hA,_,hglt⟩:=hg (by omega)
 injection hv with q1 q2 q3
 subst q1 q2 q3 hA
 obtain⟨A1,c1,rfl,a1,a2,_,_⟩:=OwI.form ho
 have hc:=e3.cellAt k (by omega)
 rw[List.getElem?_eq_getElem hif,←hfk] at hc
 refine⟨g,A1,c1,rfl,hglt,hc,a1,a2,ho,fun b hb=> ?_⟩
 have hm:b∈(es.map (·.2.2)).flatten:=List.mem_flatten.2 ⟨es[k].2.2,List.mem_map.2 ⟨es[k],by simp,rfl⟩,by rw[hFe];simp[hb]⟩
 obtain⟨n1,n2,n3⟩:=List.nodup_append.1 hn
 obtain⟨n4,n5,n6⟩:=List.nodup_append.1 n2
 exact⟨fun e=>n3 b (h1.mem e) b (by simp[hm]) rfl,fun e=>n6 b (h2.mem e) b (by simp[hm]) rfl,(hF b (by simp[hm])).2⟩
theorem own_keep {w w':World} {base:Nat} {s:Value} {xs:List Int} (h:OwI w base s xs) (hb: ∀b,s.ownBlock=some b→w'.heap[b]? =w.heap[b]?):OwI w' base s xs:=⟨ownsRow_keep h.1 hb,h.2⟩
def RowI (w:World) (RV:Value) (ws:List Int) (next:Value):Prop:=OwI w 0 RV ws∧ ∀b,RV.ownBlock=some b→next.ownBlock≠some b∧b<w.heap.size
theorem RowI.below {w w':World} {RV next:Value} {ws:List Int} (h:RowI w RV ws next) (hb:Below w.heap.size w w'):RowI w' RV ws next:=
 ⟨own_keep h.1 fun b hv=>hb.block b (h.2 b hv).2,fun b hv=>⟨(h.2 b hv).1,by have:=(h.2 b hv).2;have:=hb.size;omega⟩⟩
theorem RowI.other {w w0 w':World} {RV next out:Value} {ws:List Int} (h:RowI w RV ws next) (hb:Below w.heap.size w w0) (hg:w0.grownBy w' out.ownBlock) (ho: ∀b,RV.ownBlock=some b→out.ownBlock≠some b):RowI w' RV ws next:=by
 have h1:=h.below hb
 exact⟨own_keep h1.1 fun b hv=>hg.block b (h1.2 b hv).2 fun e=>ho b hv e.symm,fun b hv=>⟨(h.2 b hv).1,by have:=(h1.2 b hv).2;have:=hg.size;omega⟩⟩
theorem RowI.push {w w0 w':World} {RV next v':Value} {ws:List Int} (h:RowI w RV ws next) (hb:Below w.heap.size w w0) (hg:w0.grownBy w' next.ownBlock) (hat:v'.ownBlock=next.ownBlock∨v'.ownBlock=some w0.heap.size):RowI w' RV ws v':=by
 have h1:=h.other hb hg fun b hv=>(h.2 b hv).1
 refine⟨h1.1,fun b hv=>⟨fun e=> ?_,(h1.2 b hv).2⟩⟩
 rcases hat with q | q
 ·exact(h.2 b hv).1 (by rw[←q];exact e)
 ·rw[q] at e;injection e with e;have:=((h.below hb).2 b hv).2;omega
structure LwI (lo gl rk cl:Nat) (ls:List Int) (W wr:World) (out:Value) (L1:List (List Int)) (next:Value) (L2:List (List Int)) (layer:Value) (L3:List (List Int)):Prop where
 o:Ow3 lo wr out L1 next L2 layer L3
 l:OwI wr 0 (.slice (some ⟨gl,0,none⟩) (2*rk) cl) ls
 b:Below lo W wr
 g:gl<wr.heap.size
 a1:out.ownBlock≠some gl
 a2:next.ownBlock≠some gl
 lo_le:lo≤wr.heap.size
section
variable {lo gl rk cl:Nat} {ls:List Int} {W wr w' w0:World} {out next layer v':Value} {L1 L2 L3 L':List (List Int)}
theorem LwI.below (h:LwI lo gl rk cl ls W wr out L1 next L2 layer L3) (hb:Below wr.heap.size wr w'):LwI lo gl rk cl ls W w' out L1 next L2 layer L3:=
 ⟨h.o.below hb,h.l.below hb,h.b.trans (hb.mono h.lo_le),by have:=h.g;have:=hb.size;omega,h.a1,h.a2,by have:=h.lo_le;have:=hb.size;omega⟩
theorem LwI.push1 (h:LwI lo gl rk cl ls W wr out L1 next L2 layer L3) (hb:Below wr.heap.size wr w0) (ho:Ow3 lo w' v' L' next L2 layer L3) (hl:Below lo w0 w') (hg:w0.grownBy w' out.ownBlock) (hat:v'.ownBlock=out.ownBlock∨v'.ownBlock=some w0.heap.size):
  LwI lo gl rk cl ls W w' v' L' next L2 layer L3:=by
 have h1:=h.below hb
 refine⟨ho,h1.l.kept hg (.inr fun e=>h.a1 (by rw[←e];rfl)),h1.b.trans hl,by have:=h1.g;have:=hg.size;omega,fun e=> ?_,h.a2,by have:=h1.lo_le;have:=hg.size;omega⟩
 rcases hat with q | q
 ·exact h.a1 (by rw[←q];exact e)
 ·rw[q] at e;injection e with e;have:=h1.g;omega
theorem LwI.push2 (h:LwI lo gl rk cl ls W wr out L1 next L2 layer L3) (hb:Below wr.heap.size wr w0) (ho:Ow3 lo w' out L1 v' L' layer L3) (hl:Below lo w0 w') (hg:w0.grownBy w' next.ownBlock) (hat:v'.ownBlock=next.ownBlock∨v'.ownBlock=some w0.heap.size):
  LwI lo gl rk cl ls W w' out L1 v' L' layer L3:=by
 have h1:=h.below hb
 refine⟨ho,h1.l.kept hg (.inr fun e=>h.a2 (by rw[←e];rfl)),h1.b.trans hl,by have:=h1.g;have:=hg.size;omega,h.a1,fun e=> ?_,by have:=h1.lo_le;have:=hg.size;omega⟩
 rcases hat with q | q
 ·exact h.a2 (by rw[←q];exact e)
 ·rw[q] at e;injection e with e;have:=h1.g;omega
theorem LwI.roll (h:LwI lo gl rk cl ls W wr out L1 next L2 layer L3):LwI lo gl rk cl ls W (wr.alloc (.cells #[] 27)) out L1 (.slice (some ⟨wr.heap.size,0,none⟩) 0 0) [] next L2:=by
 have h1:=h.below ((Below.refl wr.heap.size wr).alloc (Nat.le_refl _) (.cells #[] 27))
 exact⟨h.o.roll h.lo_le,h1.l,h1.b,h1.g,h.a1,fun e=>by simp[Value.ownBlock] at e;have:=h.g;omega,h1.lo_le⟩
end
theorem nxt_room {es:List EdD} {u:Int} {ls:List Int} {LK:List (List Int)} {p:Int→Bool} {f:Int→List Int} {q q':Nat} (h1:ls.length≤6) (h2:LK.length≤7776):((LK.take q).flatMap (nxtG es u ls)++((ls.take q').filter p).map f).length≤1073741824:=by
 have a:=flat_le (nxtG es u ls) 6 (fun w=>Nat.le_trans (nxtG_len es u ls w) h1) (LK.take q)
 have b:=List.length_filter_le p (ls.take q')
 rw[List.length_take] at a b
 rw[List.length_append,List.length_map]
 have:min q LK.length*6≤7776*6:=Nat.mul_le_mul_right 6 (by omega)
 omega
set_option maxHeartbeats 4000000 in
theorem specLoopWords_any (v:Value) (g:GrD) (u:Int) (m:Nat) (w:World) (h:ArgG w v g) (hf:foldB g=true) (hu:0≤u∧u<g.2.1) (hm:m≤4):
  Calls Tryz.prog 77 #[v, .int .i64 u, .int .i64 m] w fun e w'=> ∃r,e= .returned r∧OwII w.heap.size w'.heap.size r (lpG g.2.2 u (lettersL g.1.toNat) (m+1)) w'∧Below w.heap.size w w':=by
 have HG:=hDD h
 have HF:=hDD hf
 obtain⟨hg,hfol⟩:=foldB_parts hf
 have ONE:=hDD (steps_one hfol)
 obtain⟨hr13,hsz40,hl120,_⟩:=grB_parts hg
 have NV:Hid (∀v x,nextV g.2.2 v x= -1∨(0≤nextV g.2.2 v x∧nextV g.2.2 v x<g.2.1)):=hDD fun v x=>nextV_range hg v x
 have HWR:=hDD (walkF_range hg)
 obtain⟨s,rfl,hi1,hi2,ha⟩:=h
 obtain⟨A,cap,rfl⟩:=ha.form
 obtain⟨g1,N,es⟩:=g
 simp only at*
 obtain⟨rk,rfl⟩: ∃rk:Nat,g1=(rk:Int):=⟨g1.toNat,by omega⟩
 have hsub:IntKind.i64.wrap (N-1)=N-1:=by rw[IntKind.wrap_i64];omega
 have HIN2:Hid (inB u 0 (N-1)=true):=hDD (inB_iff.2 ⟨hu.1,by omega⟩)
 have HIN4:Hid (inB (m:Int) 0 4=true):=hDD (inB_iff.2 (by omega))
 have hrk3:1≤rk∧rk≤3:=by omega
 rw[Int.toNat_natCast]
 have HLM:=hDD (layG_mem es u (lettersL rk) hu.1)
 have HLC:=hDD (layG_len es u (lettersL rk) (by rw[lettersL_len];omega))
 have HPC:=hDD (lpG_len es u (lettersL rk) (by rw[lettersL_len];omega))
 have hls:=lettersL_len rk
 have HL64:=hDD (lettersL_I64 (n:=rk) (by omega))
 clear hf hg hfol ha
 go_enter Tryz.func77,Tryz.ntmps77
 have bx:Below w.heap.size w ((w.alloc (Obj.cells #[Value.int IntKind.i64 rk,Value.int IntKind.i64 N, .slice A es.length cap] 26)).alloc (.cells #[] 27)):=(by repeat(first | exact Below.refl _ _ | (refine Below.setCell ?_ (by first | omega | (simp<;>omega)) _) | (refine bel_drewN ?_ _) | (refine Below.drew ?_) | (refine Below.alloc ?_ (by first | omega | (simp<;>omega)) _)))
 have HOU:Hid (OwII (w.heap.size+1) (w.heap.size+2) (.slice (some ⟨w.heap.size+1,0,none⟩) 0 0) [] ((w.alloc (Obj.cells #[Value.int IntKind.i64 rk,Value.int IntKind.i64 N, .slice A es.length cap] 26)).alloc (.cells #[] 27))):=hDD (by
  have:=OwII_lit (lo:=w.heap.size+1) (w.alloc (Obj.cells #[Value.int IntKind.i64 rk,Value.int IntKind.i64 N, .slice A es.length cap] 26)) (by simp)
  simpa using this)
 go_wp2_with fail
 obtain⟨W,hW⟩: ∃W,W=(w.alloc (Obj.cells #[Value.int IntKind.i64 rk,Value.int IntKind.i64 N, .slice A es.length cap] 26)).alloc (.cells #[] 27):=⟨_,rfl⟩
 rw[←hW] at bx HOU⊢
 have hsW:W.heap.size=w.heap.size+2:=by rw[hW];simp
 have L0:Hid (W.cell? ⟨w.heap.size,0,none⟩=some (.int .i64 rk)):=hDD (by rw[hW];simp[go_sem])
 have L1:Hid (W.cell? ⟨w.heap.size,1,none⟩=some (.int .i64 N)):=hDD (by rw[hW];simp[go_sem])
 have L2:Hid (W.cell? ⟨w.heap.size,2,none⟩=some (.slice A es.length cap)):=hDD (by rw[hW];simp[go_sem])
 have BX:=hDD bx
 have HA:Hid (∀w',Below W.heap.size W w'→ArgG w' (.agg #[.int .i64 rk, .int .i64 N, .slice A es.length cap]) (rk,N,es)):=hDD fun w' hb=>HG.out.below (BX.out.trans (hb.mono BX.out.size))
 have hif:=specIsFolded_any _ (rk,N,es) W (HA.out _ (Below.refl _ _))
 rw[HF.out] at hif
 have HIF:=hDD hif
 clear hW bx hif
 refine HIF.out.mono ?_
 rintro e w1 ⟨rfl,b1⟩
 have hs1:=b1.size
 have q0:=(b1.cell (p:=⟨w.heap.size,0,none⟩) (by show w.heap.size<_;omega)).trans L0.out
 have q1:=(b1.cell (p:=⟨w.heap.size,1,none⟩) (by show w.heap.size<_;omega)).trans L1.out
 have BW:=hDD b1
 clear b1 HIF
 go_wp2_with fail
 refine(l1In_any _ _ _ _).mono ?_
 rintro e w2 ⟨rfl,rfl⟩
 simp only[HIN2.out]
 go_wp2_with fail
 refine(l1In_any _ _ _ _).mono ?_
 rintro e w2 ⟨rfl,rfl⟩
 simp only[HIN4.out]
 have OI:=hDD (OwII_one w1 (Nat.le_refl _))
 have bz:Below w1.heap.size w1 ((w1.alloc (.cells #[] 3)).alloc (.cells #[.slice (some ⟨w1.heap.size,0,none⟩) 0 0] 27)):=(by repeat(first | exact Below.refl _ _ | (refine Below.setCell ?_ (by first | omega | (simp<;>omega)) _) | (refine bel_drewN ?_ _) | (refine Below.drew ?_) | (refine Below.alloc ?_ (by first | omega | (simp<;>omega)) _)))
 have q0':=(bz.cell (p:=⟨w.heap.size,0,none⟩) (by show w.heap.size<_;omega)).trans q0
 clear q1
 go_wp2_with fail
 obtain⟨W1,hW1⟩: ∃W,W=(w1.alloc (.cells #[] 3)).alloc (.cells #[.slice (some ⟨w1.heap.size,0,none⟩) 0 0] 27):=⟨_,rfl⟩
 rw[←hW1] at OI bz⊢
 have hsW1:W1.heap.size=w1.heap.size+2:=by rw[hW1];simp
 have BW1:=hDD (BW.out.trans (bz.mono hs1))
 have O3:Hid (Ow3 (w.heap.size+1) W1 (.slice (some ⟨w.heap.size+1,0,none⟩) 0 0) [] (.slice (some ⟨w1.heap.size+1,0,none⟩) 1 1) [[]] (.slice none 0 0) []):=hDD
  (Ow3.mk (mid:=w.heap.size+2) (hi:=w1.heap.size+2) (OwnL.keep HOU.out EI.stable fun b _ hb=>BW1.out.block b (by omega)) (OwnL.widen OI.out (by omega) (Nat.le_refl _)) (by omega) (by omega) (by omega))
 clear hW1 bz OI HOU q0 q0'
 refine(l5Letters_any rk W1 (by omega)).mono ?_
 rintro e w3 ⟨rl,rfl,ol,bl3⟩
 obtain⟨Al,cl_,rfl,hcl,hml,_,hfl⟩:=OwI.form ol
 obtain⟨gl,rfl,hgl1,hgl2⟩:=hfl (by omega)
 have hs3:=bl3.size
 have OL:=hDD ol
 have HO3:=hDD (O3.out.below bl3)
 have BW3:=hDD (BW1.out.trans (bl3.mono BW1.out.size))
 rw[hls] at hcl⊢
 unfold maxLen at hml
 have HA2:Hid (∀w',Below (w.heap.size+1) W w'→ArgG w' (.agg #[.int .i64 rk, .int .i64 N, .slice A es.length cap]) (rk,N,es)):=hDD fun w' hb=>HG.out.below (BX.out.trans (hb.mono (by omega)))
 have ol0:=OL.out.mono (Nat.zero_le _)
 rw[hls] at ol0
 have HI0:Hid (LwI (w.heap.size+1) gl rk cl_ (lettersL rk) W w3 (.slice (some ⟨w.heap.size+1,0,none⟩) 0 0) [] (.slice (some ⟨w1.heap.size+1,0,none⟩) 1 1) [[]] (.slice none 0 0) []):=hDD
  ⟨HO3.out,ol0,BW3.out.mono (by omega),hgl2,fun e=>by simp[Value.ownBlock] at e;omega,fun e=>by simp[Value.ownBlock] at e;omega,by omega⟩
 have HLS:=hDD hls
 have hlw:w.heap.size<w3.heap.size:=by omega
 have HLP:Hid (∀k,lpG es u (lettersL rk) (k+1)=lpG es u (lettersL rk) k++(layG es u (lettersL rk) k).filter (loopB es u)):=hDD fun k=>rfl
 have HLG:Hid (∀k,layG es u (lettersL rk) (k+1)=(layG es u (lettersL rk) k).flatMap (nxtG es u (lettersL rk))):=hDD fun k=>rfl
 have HI1:Hid (LwI (w.heap.size+1) gl rk cl_ (lettersL rk) W w3 (.slice (some ⟨w.heap.size+1,0,none⟩) 0 0) (lpG es u (lettersL rk) 0) (.slice (some ⟨w1.heap.size+1,0,none⟩) 1 1) (layG es u (lettersL rk) 0) (.slice none 0 0) []):=HI0
 clear ol bl3 O3 hfl ol0 hls HO3 OL HI0 hcl hml
 have hlm0: ∀x∈lettersL rk,(1≤x∧x≤(rk:Int))∨(1≤ -x∧ -x≤(rk:Int)):=fun x hx=>lettersL_mem hx
 have HLMM:=hDD hlm0
 obtain⟨ls,hls0⟩: ∃l,l=lettersL rk:=⟨_,rfl⟩
 rw[←hls0] at HLM HLC HPC HL64 HI1 HLS HLP HLG HLMM
 have HLSE:=hDD hls0
 clear hls0 hlm0
 go_wp2
 go_loopw [7,8,10] (fun out layer i wr=> ∃(k:Nat) (vx:Value) (Lx:List (List Int)),k≤m+1∧i= .int .i64 k∧LwI (w.heap.size+1) gl rk cl_ ls W wr out (lpG es u ls k) layer (layG es u ls k) vx Lx) (fun _ _ i _=>m+1-(intOf i).toNat)
 case atStart=>exact⟨0,_,_,Nat.zero_le _,rfl,HI1.out⟩
 case round=>
  obtain⟨k,vx,Lx,hk,rfl,hI⟩:=hrel
  have HI:=hDD hI
  obtain⟨wo,rfl⟩: ∃wo:World,wo=wr:=⟨_,rfl⟩
  clear hI HI1
  have hkc:=HLC.out k
  have hpc:=HPC.out k
  have h64:6^k≤6^5:=Nat.pow_le_pow_right (by omega) (by omega)
  have hpc2:=HPC.out (k+1)
  have hkc2:=HLC.out (k+1)
  have h642:6^(k+1)≤6^6:=Nat.pow_le_pow_right (by omega) (by omega)
  by_cases hlt:k<m+1
  ·obtain⟨Ay,cy,hly,hcy,hmy,_⟩:=OwnL.len HI.out.o.two
   subst hly
   have HR:=hDD HI.out.roll
   have HMB:=hDD (HLM.out k)
   have HP1:=hDD (HLP.out k)
   have HG1:=hDD (HLG.out k)
   have hL6:(layG es u ls k).length≤7776:=by omega
   have HPB:Hid ((lpG es u ls k).length+(layG es u ls k).length≤100000):=hDD (by omega)
   have HNB:Hid ((layG es u ls (k+1)).length≤100000):=hDD (by omega)
   clear hkc hpc h64 hpc2 hkc2 h642
   obtain⟨LN,hLN⟩: ∃X,X=layG es u ls (k+1):=⟨_,rfl⟩
   obtain⟨LP,hLP⟩: ∃X,X=lpG es u ls (k+1):=⟨_,rfl⟩
   rw[←hLN] at HNB HG1
   rw[←hLP] at HP1
   have HLNE:=hDD hLN
   have HLPE:=hDD hLP
   clear hLN hLP
   generalize layG es u ls k=LK at*
   generalize lpG es u ls k=P0 at*
   unfold maxLen at hmy
   have hkI:(k:Int)≤(m:Int):=by omega
   go_wp2
   obtain⟨wz,hwz⟩: ∃W,W=wo.alloc (.cells #[] 27):=⟨_,rfl⟩
   rw[←hwz] at HR⊢
   clear hwz
   go_loopw [7,11,12] (fun out next i wr=> ∃q:Nat,q≤LK.length∧i= .int .i64 q∧LwI (w.heap.size+1) gl rk cl_ ls W wr out (P0++(LK.take q).filter (loopB es u)) next ((LK.take q).flatMap (nxtG es u ls)) (.slice Ay LK.length cy) LK) (fun _ _ i _=>LK.length-(intOf i).toNat)
   case atStart=>exact⟨0,Nat.zero_le _,rfl,by simpa using HR.out⟩
   case round=>
    obtain⟨q,hq,rfl,hI2⟩:=hrel
    have HI2:=hDD hI2
    obtain⟨wi,rfl⟩: ∃wi:World,wi=wr:=⟨_,rfl⟩
    clear hI2
    by_cases hlt2:q<LK.length
    ·obtain⟨b,A1,c1,hA,hb,hcell,hc1,hm1,hrow,hrap⟩:=HI2.out.o.row3 hlt2
     subst hA
     have hrd:=hrow.rd
     have HRI:Hid (RowI wi (.slice A1 LK[q].length c1) LK[q] u11):=hDD ⟨hrow,fun b' hv=>⟨(hrap b' hv).2.1,(hrap b' hv).2.2⟩⟩
     have HRO:Hid (∀b',(Value.slice A1 LK[q].length c1).ownBlock=some b'→u7.ownBlock≠some b'):=hDD fun b' hv=>(hrap b' hv).1
     clear hrow hrap
     obtain⟨m1,m2,m3⟩:=HMB.out LK[q] (List.getElem_mem hlt2)
     have HM2:=hDD m2
     have HRD:=hDD hrd
     have hwk0:=HWR.out LK[q] u hu
     have HTF:=hDD (take_filter (loopB es u) LK q hlt2)
     have HTM:=hDD (take_flat (nxtG es u ls) LK q hlt2)
     have HLB:Hid (loopB es u LK[q]=decide (walkF es u LK[q]=u)):=hDD rfl
     have HOK:Hid (∀x,okG es u LK[q] x=(okW LK[q] x&&decide (0≤nextV es (walkF es u LK[q]) x))):=hDD fun _=>rfl
     have HNX:Hid (nxtG es u ls LK[q]=(ls.filter (okG es u LK[q])).map fun x=>LK[q]++ [x]):=hDD rfl
     have HWW:=hDD (fun W' (hh:Below (w.heap.size+1) W W') (hr:RdI W' (.slice A1 LK[q].length c1) LK[q])=>walkWord_any _ _ (rk,N,es) u LK[q] W' (HA2.out W' hh) hr HF.out hu)
     unfold maxLen at hm1
     have hwl:LK[q].length≤4:=by omega
     have HM1:=hDD m1
     clear hrd m2 m1
     generalize LK[q]=ws at*
     generalize hEN:walkF es u ws=EN at*
     have hEN2:EN<N:=by omega
     have q0:=(HI2.out.b.cell (p:=⟨w.heap.size,0,none⟩) (by show w.heap.size<w.heap.size+1;omega)).trans L0.out
     have q1:=(HI2.out.b.cell (p:=⟨w.heap.size,1,none⟩) (by show w.heap.size<w.heap.size+1;omega)).trans L1.out
     have q2:=(HI2.out.b.cell (p:=⟨w.heap.size,2,none⟩) (by show w.heap.size<w.heap.size+1;omega)).trans L2.out
     clear hEN hwk0
     go_wp2_with fail
     refine(HWW.out wi HI2.out.b HRD.out).mono ?_
     rintro e w5 ⟨rfl,b5⟩
     have HI5:=hDD (HI2.out.below b5)
     have HR5:=hDD (HRI.out.below b5)
     have hs5:=b5.size
     clear b5 q0 q1 q2 HWW
     rcases ee:(EN==u) with _ | _
     ·have hne: ¬EN=u:=by simpa using ee
      have e1:loopB es u ws=false:=by rw[HLB.out];simpa using hne
      have e2:(LK.take q).filter (loopB es u)=(LK.take (q+1)).filter (loopB es u):=by rw[HTF.out,e1,if_neg (by decide)]
      obtain⟨wc,hwc⟩: ∃W:World,W=w5:=⟨_,rfl⟩
      obtain⟨OUTV,hov⟩: ∃V,V=u7:=⟨_,rfl⟩
      have HIC:Hid (LwI (w.heap.size+1) gl rk cl_ ls W wc OUTV (P0++(LK.take (q+1)).filter (loopB es u)) u11 ((LK.take q).flatMap (nxtG es u ls)) (.slice (some ⟨b,0,none⟩) LK.length cy) LK):=hDD (by rw[←e2,hwc,hov];exact HI5.out)
      have HRC:Hid (RowI wc (.slice A1 ws.length c1) ws u11):=hDD (by rw[hwc];exact HR5.out)
      rw[←hwc,←hov]
      clear hwc hov e1 e2 hne HI5 HR5 HRD HRI HRO
      go_wp2
      go_loopw [11,16] (fun next i wr=> ∃q':Nat,q'≤2*rk∧i= .int .i64 q'∧LwI (w.heap.size+1) gl rk cl_ ls W wr OUTV (P0++(LK.take (q+1)).filter (loopB es u)) next ((LK.take q).flatMap (nxtG es u ls)++((ls.take q').filter (okG es u ws)).map fun x=>ws++ [x]) (.slice (some ⟨b,0,none⟩) LK.length cy) LK∧RowI wr (.slice A1 ws.length c1) ws next) (fun _ i _=>2*rk-(intOf i).toNat)
      case atStart=>exact⟨0,Nat.zero_le _,rfl,by simpa using HIC.out,HRC.out⟩
      case round=>
       obtain⟨q',hq',rfl,hI3,hb3⟩:=hrel
       have HI3:=hDD hI3
       have HR3:=hDD hb3
       obtain⟨wj,rfl⟩: ∃wj:World,wj=wr:=⟨_,rfl⟩
       clear hI3 hb3
       by_cases hlt3:q'<2*rk
       ·have hql:q'<ls.length:=by rw[HLS.out];exact hlt3
        have hcx:=HI3.out.l.cellAt q' hql
        have q0:=(HI3.out.b.cell (p:=⟨w.heap.size,0,none⟩) (by show w.heap.size<w.heap.size+1;omega)).trans L0.out
        have q1:=(HI3.out.b.cell (p:=⟨w.heap.size,1,none⟩) (by show w.heap.size<w.heap.size+1;omega)).trans L1.out
        have q2:=(HI3.out.b.cell (p:=⟨w.heap.size,2,none⟩) (by show w.heap.size<w.heap.size+1;omega)).trans L2.out
        have HTK:=hDD (take_filter (okG es u ws) ls q' hql)
        have HX64:=hDD (HL64.out _ (List.getElem_mem hql))
        have HOX:=hDD (HOK.out ls[q'])
        have HXE:=hDD (fun W' (h:OwI W' 0 (.slice (some ⟨gl,0,none⟩) (2*rk) cl_) ls)=>h.cellAt q' hql)
        have HNV:=hDD (fun W' (hh:Below (w.heap.size+1) W W')=>specNextVertex_any _ (rk,N,es) EN ls[q'] W' (HA2.out W' hh) (ONE.out EN ls[q']))
        have hOW:okW ws ls[q']=(decide (ws.length=0)||decide (ls[q']≠ -(ws.getD (ws.length-1) 0))):=rfl
        have hqI:(q':Int)<((2*rk:Nat):Int):=by omega
        have hg3:=HI3.out.g
        have hw3:w.heap.size<wj.heap.size:=by have:=HI3.out.lo_le;omega
        have hlo3:=HI3.out.lo_le
        generalize ls[q']=x at*
        generalize hNX2:nextV es EN x=nv at*
        clear hNX2
        have fC:=BelW.cell hcx hg3
        have fQ0:=BelW.cell q0 hw3
        have fQ1:=BelW.cell q1 hw3
        have fQ2:=BelW.cell q2 hw3
        rcases e0:((ws.length:Int)==0) with _ | _
        ·have hl0: ¬ws.length=0:=fun e=>by rw[e] at e0;simp at e0
         obtain⟨gw,hgw,hgw1,hgw2⟩: ∃gw,A1=some ⟨gw,0,none⟩∧wj.cell? ⟨gw,ws.length-1,none⟩=some (.int .i64 (ws.getD (ws.length-1) 0))∧gw<wj.heap.size:=by
          obtain⟨_,_,hv,_,_,_,hf⟩:=OwI.form HR3.out.1
          injection hv with hv1 hv2 hv3
          obtain⟨gw,hA,_,hlt⟩:=hf (by omega)
          subst hv1
          subst hA
          refine⟨gw,rfl,?_,hlt⟩
          have:=HR3.out.1.cellAt (ws.length-1) (by omega)
          rw[this]
          simp[List.getD,show ws.length-1<ws.length by omega]
         subst hgw
         have fW:=BelW.cell hgw1 hgw2
         have hwr1:IntKind.i64.wrap ((ws.length:Int)-1)=(ws.length:Int)-1:=by rw[IntKind.wrap_i64];omega
         have hb1:(0:Int)≤(ws.length:Int)-1:=by omega
         have hb2:(ws.length:Int)-1<(ws.length:Int):=by omega
         have htn:((ws.length:Int)-1).toNat=ws.length-1:=by omega
         have hOW2:okW ws x=decide (x≠ -(ws.getD (ws.length-1) 0)):=by rw[hOW,decide_eq_false hl0,Bool.false_or]
         have HY64:I64 (ws.getD (ws.length-1) 0):=by
          have hm:ws.getD (ws.length-1) 0∈ws:=by rw[List.getD_eq_getElem?_getD,List.getElem?_eq_getElem (by omega)];exact List.getElem_mem _
          exact HR3.out.1.2 _ hm
         have HYB:=hDD (HLMM.out _ (HM2.out _ (show ws.getD (ws.length-1) 0∈ws by rw[List.getD_eq_getElem?_getD,List.getElem?_eq_getElem (by omega)];exact List.getElem_mem _)))
         generalize ws.getD (ws.length-1) 0=y at*
         have hny:IntKind.i64.wrap (-y)= -y:=by rw[IntKind.wrap_i64];have:=HYB.out;omega
         rcases ex:(x != -y) with _ | _
         ·have hex:x= -y:=by simpa using ex
          have HOKX:Hid (okG es u ws x=false):=hDD (by rw[HOX.out,hOW2];simp[hex])
          clear hex hOW hOW2
          go_wp2_with fail
          (refine wp_region_quiet_bel (by kernel_rfl) (by kernel_rfl) ?_;(repeat(go_big_quiet_step (fail)));refine wpQuiet_nil ?_;intro wz hw';obtain⟨pq,hw''⟩:=hw';have bz:=pq.h;rw[←hw''] at bz;clear hw'' pq)
          have HE6:Hid ((ls.take (q'+1)).filter (okG es u ws)=(ls.take q').filter (okG es u ws)):=hDD (by rw[HTK.out,if_neg (by rw[HOKX.out];decide)])
          have HI4:=hDD (HI3.out.below bz)
          have HR4:=hDD (HR3.out.below bz)
          clear bz
          go_wp2
          go_roundw
          case rel=>exact⟨q'+1,by omega,by go_num,by rw[HE6.out];exact HI4.out,HR4.out⟩
          case measure=>simp[intOf];omega
         ·have hex:x≠ -y:=by simpa using ex
          have HOKX:Hid (okG es u ws x=decide (0≤nv)):=hDD (by rw[HOX.out,hOW2];simp[hex])
          clear hex hOW hOW2
          rcases e5:decide (0≤nv) with _ | _
          ·go_wp2_with fail
           (refine wp_region_quiet_bel (by kernel_rfl) (by kernel_rfl) ?_;(repeat(go_big_quiet_step (first | (go_at_call 83;exact Calls.bel_of (HNV.out _ (HI3.out.b.trans ((BelW.h _).mono hlo3)))))));refine wpQuiet_nil ?_;intro wz hw';obtain⟨pq,hw''⟩:=hw';have bz:=pq.h;rw[←hw''] at bz;clear hw'' pq)
           rw[e5] at HOKX
           have HE6:Hid ((ls.take (q'+1)).filter (okG es u ws)=(ls.take q').filter (okG es u ws)):=hDD (by rw[HTK.out,if_neg (by rw[HOKX.out];decide)])
           have HI4:=hDD (HI3.out.below bz)
           have HR4:=hDD (HR3.out.below bz)
           clear bz
           go_wp2
           go_roundw
           case rel=>exact⟨q'+1,by omega,by go_num,by rw[HE6.out];exact HI4.out,HR4.out⟩
           case measure=>simp[intOf];omega
          ·go_wp2_with fail
           (refine wp_region_quiet_bel (by kernel_rfl) (by kernel_rfl) ?_;(repeat(go_big_quiet_step (first | (go_at_call 83;exact Calls.bel_of (HNV.out _ (HI3.out.b.trans ((BelW.h _).mono hlo3)))))));refine wpQuiet_nil ?_;intro wz hw';obtain⟨pq,hw''⟩:=hw';have bz:=pq.h;rw[←hw''] at bz;clear hw'' pq)
           rw[e5] at HOKX
           have HE6:Hid ((ls.take (q'+1)).filter (okG es u ws)=(ls.take q').filter (okG es u ws)++ [x]):=hDD (by rw[HTK.out,if_pos HOKX.out])
           have HE7:Hid ((LK.take q).flatMap (nxtG es u ls)++((ls.take (q'+1)).filter (okG es u ws)).map (fun x=>ws++ [x])=((LK.take q).flatMap (nxtG es u ls)++((ls.take q').filter (okG es u ws)).map fun x=>ws++ [x])++ [ws++ [x]]):=hDD (by rw[HE6.out,List.map_append,←List.append_assoc];rfl)
           have HI4:=hDD (HI3.out.below bz)
           have HR4:=hDD (HR3.out.below bz)
           have HNL:=hDD (nxt_room (es:=es) (u:=u) (p:=okG es u ws) (f:=fun x=>ws++ [x]) (q:=q) (q':=q') (show ls.length≤6 by rw[HLS.out];omega) hL6)
           have hgz:=HI4.out.g
           have hloz:=HI4.out.lo_le
           have hcz2:wz.cell? ⟨gl,q',none⟩=some (.int .i64 x):=(bz.cell (p:=⟨gl,q',none⟩) hg3).trans hcx
           have HRR:=hDD ((HR4.out.1.drew.alloc (.cells #[] 3)).rd)
           have HRB:=hDD (((HR4.out.1.alloc (.cells #[] 3)).alloc (.cells #[.int .i64 x] 3)).drew.rd)
           have HRC:=hDD (((HR4.out.1.alloc (.cells #[.int .i64 x] 3)).alloc (.cells #[] 3)).drew.rd)
           have HOB:=hDD (((OwI_lit wz [] I64s_nil (by simp) (Nat.le_refl _)).alloc (.cells #[.int .i64 x] 3)).drew)
           have HOC:Hid (OwI ((wz.alloc (.cells #[.int .i64 x] 3)).alloc (.cells #[] 3)).drew wz.heap.size (.slice (some ⟨wz.heap.size+1,0,none⟩) 0 0) []):=hDD (OwI_litN (wz.alloc (.cells #[.int .i64 x] 3)) [] (wz.heap.size+1) (by simp) I64s_nil (by simp) (by omega))
           have HXB:Hid (RdI ((wz.alloc (.cells #[] 3)).alloc (.cells #[.int .i64 x] 3)).drew (.slice (some ⟨wz.heap.size+1,0,none⟩) 1 1) [x]):=hDD (by have:=RdI_new1 (wz.alloc (.cells #[] 3)) x HX64.out;simpa using this.drew)
           have HXC:Hid (RdI ((wz.alloc (.cells #[.int .i64 x] 3)).alloc (.cells #[] 3)).drew (.slice (some ⟨wz.heap.size,0,none⟩) 1 1) [x]):=hDD (((RdI_new1 wz x HX64.out).alloc (.cells #[] 3)).drew)
           have HBB:Hid (Below wz.heap.size wz ((wz.alloc (.cells #[] 3)).alloc (.cells #[.int .i64 x] 3)).drew):=hDD ((((Below.refl wz.heap.size wz).alloc (Nat.le_refl _) _).alloc (by simp) _).drew)
           have HBC:Hid (Below wz.heap.size wz ((wz.alloc (.cells #[.int .i64 x] 3)).alloc (.cells #[] 3)).drew):=hDD ((((Below.refl wz.heap.size wz).alloc (Nat.le_refl _) _).alloc (by simp) _).drew)
           clear bz fC fQ0 fQ1 fQ2 q0 q1 q2 e0
           go_wp2_with fail
           go_region_held3 (fun w'=>w'.cell? ⟨gl,q',none⟩=some (.int .i64 x))
            (first | go_keep | (exact HXE.out _ HI5.out.l) | (rw[hc1 _ _ (by omega)];simp[go_sem, *]) | (rw[hc0 _ _ (by omega)];simp[go_sem, *]))
            (first
             | (refine step_append_ints rfl (.tmp 106) (.tmp 107) rfl wz.heap.size _ [] (OwI_litN _ [] wz.heap.size (by simp[World.drew,World.drewN]) I64s_nil (by simp) (Nat.le_refl _)) (by rfl) _ ws ?_ (by rfl) (by simp;omega) (by simp) ?_;(exact HRR.out);intro v1 w1 o1 g1 p1;rw[List.nil_append] at o1;have hb0:=(((Below.refl wz.heap.size wz).drew).alloc (Nat.le_refl _) (.cells #[] 3));have hb1:=hb0.grown g1 hb0.size (fun k hk=>by simp[Value.ownBlock] at hk;omega);have O1:=hDD o1;have B1:=hDD hb1;obtain⟨hc0,_⟩:=bcellN hb1;have hz1:=hb1.size;clear o1 hb0 hb1 g1 p1 HRR HRB HRC HOB HOC HXB HXC HBB HBC)
             | (refine step_append_ints rfl (.tmp 106) (.tmp 107) rfl wz.heap.size _ [] HOB.out (by rfl) _ ws HRB.out (by rfl) (by simp;omega) HBB.out.size ?_;intro v1 w1 o1 g1 p1;rw[List.nil_append] at o1;have hb1:=HBB.out.grown g1 HBB.out.size (fun k hk=>by simp[Value.ownBlock] at hk;omega);have HX:=hDD (HXB.out.grown g1 (fun b e1 e2=>by simp[Value.ownBlock] at e1 e2;omega));have O1:=hDD o1;have B1:=hDD hb1;obtain⟨hc0,_⟩:=bcellN hb1;have hz1:=hb1.size;clear o1 hb1 g1 p1 HRR HRB HRC HOB HOC HXB HXC HBB HBC)
             | (refine step_append_ints rfl (.tmp 106) (.tmp 107) rfl wz.heap.size _ [] HOC.out (by rfl) _ ws HRC.out (by rfl) (by simp;omega) HBC.out.size ?_;intro v1 w1 o1 g1 p1;rw[List.nil_append] at o1;have hb1:=HBC.out.grown g1 HBC.out.size (fun k hk=>by simp[Value.ownBlock] at hk;omega);have HX:=hDD (HXC.out.grown g1 (fun b e1 e2=>by simp[Value.ownBlock] at e1 e2;omega));have O1:=hDD o1;have B1:=hDD hb1;obtain⟨hc0,_⟩:=bcellN hb1;have hz1:=hb1.size;clear o1 hb1 g1 p1 HRR HRB HRC HOB HOC HXB HXC HBB HBC)
             | (refine step_append_ints rfl (.tmp 108) (.tmp 113) rfl wz.heap.size _ ws (O1.out.alloc _) (by rfl) _ [x] (RdI_new1 _ x HX64.out) (by rfl) (by simp;omega) (by simp;omega) ?_;intro v2 w2 o2 g2 p2;have hb2:=((B1.out.alloc hz1 (.cells #[.int .i64 x] 3)).grown g2 (by simp;omega) (fun k hk=>(O1.out.1.lt k hk).1));have B2:=hDD hb2;obtain⟨hc1,_⟩:=bcellN hb2;have hz2:=hb2.size;obtain⟨A2,c2,hv2,_⟩:=OwI.form o2;rw[List.length_append,List.length_singleton] at hv2;subst hv2;have O2:=hDD o2;clear o2 hb2 g2 p2 hz1 B1)
             | (refine step_append_ints rfl (.tmp 108) (.tmp 113) rfl wz.heap.size _ ws O1.out (by rfl) _ [x] HX.out (by rfl) (by simp;omega) hz1 ?_;intro v2 w2 o2 g2 p2;have hb2:=(B1.out.grown g2 hz1 (fun k hk=>(O1.out.1.lt k hk).1));have B2:=hDD hb2;obtain⟨hc1,_⟩:=bcellN hb2;have hz2:=hb2.size;obtain⟨A2,c2,hv2,_⟩:=OwI.form o2;rw[List.length_append,List.length_singleton] at hv2;subst hv2;have O2:=hDD o2;clear o2 hb2 g2 p2 hz1 B1 HX)
             | (refine step_push3_2 rfl (.tmp 105) (.tmp 115) rfl HI4.out.o hloz (B2.out.alloc hz2 _) (by rfl) _ (.slice A2 (ws.length+1) c2) (ws++ [x]) (base:=wz.heap.size) (by rfl) (O2.out.alloc _) (Nat.le_refl _) (cell_new1 _ _ _) rfl HNL.out ?_;intro v3 w3 o3 b3 g3 p3;have HI5:=hDD (HI4.out.push2 (B2.out.alloc hz2 (.cells #[.slice A2 (ws.length+1) c2] 27)) o3 b3 g3 p3);have HR5:=hDD (HR4.out.push (B2.out.alloc hz2 (.cells #[.slice A2 (ws.length+1) c2] 27)) g3 p3);clear o3 b3 g3 p3))
           all_goals (
            go_wp2
            go_roundw
            (case rel=>exact⟨q'+1,by omega,by go_num,by rw[HE7.out];exact HI5.out,HR5.out⟩)
            (case measure=>simp[intOf];omega))
        ·have hl0:ws.length=0:=by simpa using e0
         have HOKX:Hid (okG es u ws x=decide (0≤nv)):=hDD (by rw[HOX.out,hOW];simp[hl0])
         clear hOW hl0
         rcases e5:decide (0≤nv) with _ | _
         ·go_wp2_with fail
          (refine wp_region_quiet_bel (by kernel_rfl) (by kernel_rfl) ?_;(repeat(go_big_quiet_step (first | (go_at_call 83;exact Calls.bel_of (HNV.out _ (HI3.out.b.trans ((BelW.h _).mono hlo3)))))));refine wpQuiet_nil ?_;intro wz hw';obtain⟨pq,hw''⟩:=hw';have bz:=pq.h;rw[←hw''] at bz;clear hw'' pq)
          rw[e5] at HOKX
          have HE6:Hid ((ls.take (q'+1)).filter (okG es u ws)=(ls.take q').filter (okG es u ws)):=hDD (by rw[HTK.out,if_neg (by rw[HOKX.out];decide)])
          have HI4:=hDD (HI3.out.below bz)
          have HR4:=hDD (HR3.out.below bz)
          clear bz
          go_wp2
          go_roundw
          case rel=>exact⟨q'+1,by omega,by go_num,by rw[HE6.out];exact HI4.out,HR4.out⟩
          case measure=>simp[intOf];omega
         ·go_wp2_with fail
          (refine wp_region_quiet_bel (by kernel_rfl) (by kernel_rfl) ?_;(repeat(go_big_quiet_step (first | (go_at_call 83;exact Calls.bel_of (HNV.out _ (HI3.out.b.trans ((BelW.h _).mono hlo3)))))));refine wpQuiet_nil ?_;intro wz hw';obtain⟨pq,hw''⟩:=hw';have bz:=pq.h;rw[←hw''] at bz;clear hw'' pq)
          rw[e5] at HOKX
          have HE6:Hid ((ls.take (q'+1)).filter (okG es u ws)=(ls.take q').filter (okG es u ws)++ [x]):=hDD (by rw[HTK.out,if_pos HOKX.out])
          have HE7:Hid ((LK.take q).flatMap (nxtG es u ls)++((ls.take (q'+1)).filter (okG es u ws)).map (fun x=>ws++ [x])=((LK.take q).flatMap (nxtG es u ls)++((ls.take q').filter (okG es u ws)).map fun x=>ws++ [x])++ [ws++ [x]]):=hDD (by rw[HE6.out,List.map_append,←List.append_assoc];rfl)
          have HI4:=hDD (HI3.out.below bz)
          have HR4:=hDD (HR3.out.below bz)
          have HNL:=hDD (nxt_room (es:=es) (u:=u) (p:=okG es u ws) (f:=fun x=>ws++ [x]) (q:=q) (q':=q') (show ls.length≤6 by rw[HLS.out];omega) hL6)
          have hgz:=HI4.out.g
          have hloz:=HI4.out.lo_le
          have hcz2:wz.cell? ⟨gl,q',none⟩=some (.int .i64 x):=(bz.cell (p:=⟨gl,q',none⟩) hg3).trans hcx
          have HRR:=hDD ((HR4.out.1.drew.alloc (.cells #[] 3)).rd)
          have HRB:=hDD (((HR4.out.1.alloc (.cells #[] 3)).alloc (.cells #[.int .i64 x] 3)).drew.rd)
          have HRC:=hDD (((HR4.out.1.alloc (.cells #[.int .i64 x] 3)).alloc (.cells #[] 3)).drew.rd)
          have HOB:=hDD (((OwI_lit wz [] I64s_nil (by simp) (Nat.le_refl _)).alloc (.cells #[.int .i64 x] 3)).drew)
          have HOC:Hid (OwI ((wz.alloc (.cells #[.int .i64 x] 3)).alloc (.cells #[] 3)).drew wz.heap.size (.slice (some ⟨wz.heap.size+1,0,none⟩) 0 0) []):=hDD (OwI_litN (wz.alloc (.cells #[.int .i64 x] 3)) [] (wz.heap.size+1) (by simp) I64s_nil (by simp) (by omega))
          have HXB:Hid (RdI ((wz.alloc (.cells #[] 3)).alloc (.cells #[.int .i64 x] 3)).drew (.slice (some ⟨wz.heap.size+1,0,none⟩) 1 1) [x]):=hDD (by have:=RdI_new1 (wz.alloc (.cells #[] 3)) x HX64.out;simpa using this.drew)
          have HXC:Hid (RdI ((wz.alloc (.cells #[.int .i64 x] 3)).alloc (.cells #[] 3)).drew (.slice (some ⟨wz.heap.size,0,none⟩) 1 1) [x]):=hDD (((RdI_new1 wz x HX64.out).alloc (.cells #[] 3)).drew)
          have HBB:Hid (Below wz.heap.size wz ((wz.alloc (.cells #[] 3)).alloc (.cells #[.int .i64 x] 3)).drew):=hDD ((((Below.refl wz.heap.size wz).alloc (Nat.le_refl _) _).alloc (by simp) _).drew)
          have HBC:Hid (Below wz.heap.size wz ((wz.alloc (.cells #[.int .i64 x] 3)).alloc (.cells #[] 3)).drew):=hDD ((((Below.refl wz.heap.size wz).alloc (Nat.le_refl _) _).alloc (by simp) _).drew)
          clear bz fC fQ0 fQ1 fQ2 q0 q1 q2 e0
          go_wp2_with fail
          go_region_held3 (fun w'=>w'.cell? ⟨gl,q',none⟩=some (.int .i64 x))
           (first | go_keep | (exact HXE.out _ HI5.out.l) | (rw[hc1 _ _ (by omega)];simp[go_sem, *]) | (rw[hc0 _ _ (by omega)];simp[go_sem, *]))
           (first
            | (refine step_append_ints rfl (.tmp 106) (.tmp 107) rfl wz.heap.size _ [] (OwI_litN _ [] wz.heap.size (by simp[World.drew,World.drewN]) I64s_nil (by simp) (Nat.le_refl _)) (by rfl) _ ws ?_ (by rfl) (by simp;omega) (by simp) ?_;(exact HRR.out);intro v1 w1 o1 g1 p1;rw[List.nil_append] at o1;have hb0:=(((Below.refl wz.heap.size wz).drew).alloc (Nat.le_refl _) (.cells #[] 3));have hb1:=hb0.grown g1 hb0.size (fun k hk=>by simp[Value.ownBlock] at hk;omega);have O1:=hDD o1;have B1:=hDD hb1;obtain⟨hc0,_⟩:=bcellN hb1;have hz1:=hb1.size;clear o1 hb0 hb1 g1 p1 HRR HRB HRC HOB HOC HXB HXC HBB HBC)
            | (refine step_append_ints rfl (.tmp 106) (.tmp 107) rfl wz.heap.size _ [] HOB.out (by rfl) _ ws HRB.out (by rfl) (by simp;omega) HBB.out.size ?_;intro v1 w1 o1 g1 p1;rw[List.nil_append] at o1;have hb1:=HBB.out.grown g1 HBB.out.size (fun k hk=>by simp[Value.ownBlock] at hk;omega);have HX:=hDD (HXB.out.grown g1 (fun b e1 e2=>by simp[Value.ownBlock] at e1 e2;omega));have O1:=hDD o1;have B1:=hDD hb1;obtain⟨hc0,_⟩:=bcellN hb1;have hz1:=hb1.size;clear o1 hb1 g1 p1 HRR HRB HRC HOB HOC HXB HXC HBB HBC)
            | (refine step_append_ints rfl (.tmp 106) (.tmp 107) rfl wz.heap.size _ [] HOC.out (by rfl) _ ws HRC.out (by rfl) (by simp;omega) HBC.out.size ?_;intro v1 w1 o1 g1 p1;rw[List.nil_append] at o1;have hb1:=HBC.out.grown g1 HBC.out.size (fun k hk=>by simp[Value.ownBlock] at hk;omega);have HX:=hDD (HXC.out.grown g1 (fun b e1 e2=>by simp[Value.ownBlock] at e1 e2;omega));have O1:=hDD o1;have B1:=hDD hb1;obtain⟨hc0,_⟩:=bcellN hb1;have hz1:=hb1.size;clear o1 hb1 g1 p1 HRR HRB HRC HOB HOC HXB HXC HBB HBC)
            | (refine step_append_ints rfl (.tmp 108) (.tmp 113) rfl wz.heap.size _ ws (O1.out.alloc _) (by rfl) _ [x] (RdI_new1 _ x HX64.out) (by rfl) (by simp;omega) (by simp;omega) ?_;intro v2 w2 o2 g2 p2;have hb2:=((B1.out.alloc hz1 (.cells #[.int .i64 x] 3)).grown g2 (by simp;omega) (fun k hk=>(O1.out.1.lt k hk).1));have B2:=hDD hb2;obtain⟨hc1,_⟩:=bcellN hb2;have hz2:=hb2.size;obtain⟨A2,c2,hv2,_⟩:=OwI.form o2;rw[List.length_append,List.length_singleton] at hv2;subst hv2;have O2:=hDD o2;clear o2 hb2 g2 p2 hz1 B1)
            | (refine step_append_ints rfl (.tmp 108) (.tmp 113) rfl wz.heap.size _ ws O1.out (by rfl) _ [x] HX.out (by rfl) (by simp;omega) hz1 ?_;intro v2 w2 o2 g2 p2;have hb2:=(B1.out.grown g2 hz1 (fun k hk=>(O1.out.1.lt k hk).1));have B2:=hDD hb2;obtain⟨hc1,_⟩:=bcellN hb2;have hz2:=hb2.size;obtain⟨A2,c2,hv2,_⟩:=OwI.form o2;rw[List.length_append,List.length_singleton] at hv2;subst hv2;have O2:=hDD o2;clear o2 hb2 g2 p2 hz1 B1 HX)
            | (refine step_push3_2 rfl (.tmp 105) (.tmp 115) rfl HI4.out.o hloz (B2.out.alloc hz2 _) (by rfl) _ (.slice A2 (ws.length+1) c2) (ws++ [x]) (base:=wz.heap.size) (by rfl) (O2.out.alloc _) (Nat.le_refl _) (cell_new1 _ _ _) rfl HNL.out ?_;intro v3 w3 o3 b3 g3 p3;have HI5:=hDD (HI4.out.push2 (B2.out.alloc hz2 (.cells #[.slice A2 (ws.length+1) c2] 27)) o3 b3 g3 p3);have HR5:=hDD (HR4.out.push (B2.out.alloc hz2 (.cells #[.slice A2 (ws.length+1) c2] 27)) g3 p3);clear o3 b3 g3 p3))
          all_goals (
           go_wp2
           go_roundw
           (case rel=>exact⟨q'+1,by omega,by go_num,by rw[HE7.out];exact HI5.out,HR5.out⟩)
           (case measure=>simp[intOf];omega))
       ·obtain rfl:q'=2*rk:=by omega
        have h1:=HI3.out
        rw[←HLS.out,List.take_length,←HNX.out,←HTM.out] at h1
        have HI4:=hDD h1
        clear h1
        go_wp2
        go_roundw
        case rel=>exact⟨q+1,by omega,by go_num,HI4.out⟩
        case measure=>simp[intOf];omega
     ·have hEu:EN=u:=by simpa using ee
      have e1:loopB es u ws=true:=by rw[HLB.out];simpa using hEu
      have HE2:Hid ((LK.take (q+1)).filter (loopB es u)=(LK.take q).filter (loopB es u)++ [ws]):=hDD (by rw[HTF.out,if_pos e1])
      have HPL:Hid ((P0++(LK.take q).filter (loopB es u)).length≤1073741824):=hDD (by
       have h1:=HPB.out
       have h2:=List.length_filter_le (loopB es u) (LK.take q)
       rw[List.length_take] at h2
       rw[List.length_append]
       omega)
      have hlo5:=HI5.out.lo_le
      clear e1 hEu
      go_wp2_with (first
       | (at_builtin;refine append_ints rfl (.tmp 67) (.tmp 68) rfl w5.heap.size _ [] (OwI_lit w5 [] I64s_nil (by simp) (Nat.le_refl _)) rfl _ ws (HR5.out.1.alloc _).rd rfl (by simp;omega) (by simp) ?_;intro v6 w6 o6 g6 p6;rw[List.nil_append] at o6;have hb6:=(((Below.refl w5.heap.size w5)).alloc (Nat.le_refl _) (.cells #[] 3)).grown g6 (by simp) (fun k hk=>by simp[Value.ownBlock] at hk;omega);have O6:=hDD o6;have B6:=hDD hb6;have hz6:=hb6.size;obtain⟨A6,c6,rfl,_⟩:=OwI.form o6;clear o6 hb6 g6 p6)
       | (at_builtin;refine push3x_1 rfl (.tmp 66) (.tmp 70) rfl HI5.out.o hlo5 (B6.out.alloc hz6 _) rfl _ (.slice A6 ws.length c6) ws (base:=w5.heap.size) rfl (O6.out.alloc _) (Nat.le_refl _) (cell_new1 _ _ _) rfl HPL.out ?_;intro v7 w7 o7 b7 g7 p7;have HI7:=hDD (HI5.out.push1 (B6.out.alloc hz6 (.cells #[.slice A6 ws.length c6] 27)) o7 b7 g7 p7);have HR7:=hDD (HR5.out.other (B6.out.alloc hz6 (.cells #[.slice A6 ws.length c6] 27)) g7 HRO.out);clear o7 b7 g7 p7))
      obtain⟨wc,hwc⟩: ∃W:World,W=w7:=⟨_,rfl⟩
      obtain⟨OUTV,hov⟩: ∃V,V=v7:=⟨_,rfl⟩
      have HIC:Hid (LwI (w.heap.size+1) gl rk cl_ ls W wc OUTV (P0++(LK.take (q+1)).filter (loopB es u)) u11 ((LK.take q).flatMap (nxtG es u ls)) (.slice (some ⟨b,0,none⟩) LK.length cy) LK):=hDD (by rw[HE2.out,←List.append_assoc,hwc,hov];exact HI7.out)
      have HRC:Hid (RowI wc (.slice A1 ws.length c1) ws u11):=hDD (by rw[hwc];exact HR7.out)
      rw[←hwc,←hov]
      clear hwc hov HI5 HR5 HI7 HR7 O6 B6 HRD HRI HRO
      go_wp2
      go_loopw [11,16] (fun next i wr=> ∃q':Nat,q'≤2*rk∧i= .int .i64 q'∧LwI (w.heap.size+1) gl rk cl_ ls W wr OUTV (P0++(LK.take (q+1)).filter (loopB es u)) next ((LK.take q).flatMap (nxtG es u ls)++((ls.take q').filter (okG es u ws)).map fun x=>ws++ [x]) (.slice (some ⟨b,0,none⟩) LK.length cy) LK∧RowI wr (.slice A1 ws.length c1) ws next) (fun _ i _=>2*rk-(intOf i).toNat)
      case atStart=>exact⟨0,Nat.zero_le _,rfl,by simpa using HIC.out,HRC.out⟩
      case round=>
       obtain⟨q',hq',rfl,hI3,hb3⟩:=hrel
       have HI3:=hDD hI3
       have HR3:=hDD hb3
       obtain⟨wj,rfl⟩: ∃wj:World,wj=wr:=⟨_,rfl⟩
       clear hI3 hb3
       by_cases hlt3:q'<2*rk
       ·have hql:q'<ls.length:=by rw[HLS.out];exact hlt3
        have hcx:=HI3.out.l.cellAt q' hql
        have q0:=(HI3.out.b.cell (p:=⟨w.heap.size,0,none⟩) (by show w.heap.size<w.heap.size+1;omega)).trans L0.out
        have q1:=(HI3.out.b.cell (p:=⟨w.heap.size,1,none⟩) (by show w.heap.size<w.heap.size+1;omega)).trans L1.out
        have q2:=(HI3.out.b.cell (p:=⟨w.heap.size,2,none⟩) (by show w.heap.size<w.heap.size+1;omega)).trans L2.out
        have HTK:=hDD (take_filter (okG es u ws) ls q' hql)
        have HX64:=hDD (HL64.out _ (List.getElem_mem hql))
        have HOX:=hDD (HOK.out ls[q'])
        have HXE:=hDD (fun W' (h:OwI W' 0 (.slice (some ⟨gl,0,none⟩) (2*rk) cl_) ls)=>h.cellAt q' hql)
        have HNV:=hDD (fun W' (hh:Below (w.heap.size+1) W W')=>specNextVertex_any _ (rk,N,es) EN ls[q'] W' (HA2.out W' hh) (ONE.out EN ls[q']))
        have hOW:okW ws ls[q']=(decide (ws.length=0)||decide (ls[q']≠ -(ws.getD (ws.length-1) 0))):=rfl
        have hqI:(q':Int)<((2*rk:Nat):Int):=by omega
        have hg3:=HI3.out.g
        have hw3:w.heap.size<wj.heap.size:=by have:=HI3.out.lo_le;omega
        have hlo3:=HI3.out.lo_le
        generalize ls[q']=x at*
        generalize hNX2:nextV es EN x=nv at*
        clear hNX2
        have fC:=BelW.cell hcx hg3
        have fQ0:=BelW.cell q0 hw3
        have fQ1:=BelW.cell q1 hw3
        have fQ2:=BelW.cell q2 hw3
        rcases e0:((ws.length:Int)==0) with _ | _
        ·have hl0: ¬ws.length=0:=fun e=>by rw[e] at e0;simp at e0
         obtain⟨gw,hgw,hgw1,hgw2⟩: ∃gw,A1=some ⟨gw,0,none⟩∧wj.cell? ⟨gw,ws.length-1,none⟩=some (.int .i64 (ws.getD (ws.length-1) 0))∧gw<wj.heap.size:=by
          obtain⟨_,_,hv,_,_,_,hf⟩:=OwI.form HR3.out.1
          injection hv with hv1 hv2 hv3
          obtain⟨gw,hA,_,hlt⟩:=hf (by omega)
          subst hv1
          subst hA
          refine⟨gw,rfl,?_,hlt⟩
          have:=HR3.out.1.cellAt (ws.length-1) (by omega)
          rw[this]
          simp[List.getD,show ws.length-1<ws.length by omega]
         subst hgw
         have fW:=BelW.cell hgw1 hgw2
         have hwr1:IntKind.i64.wrap ((ws.length:Int)-1)=(ws.length:Int)-1:=by rw[IntKind.wrap_i64];omega
         have hb1:(0:Int)≤(ws.length:Int)-1:=by omega
         have hb2:(ws.length:Int)-1<(ws.length:Int):=by omega
         have htn:((ws.length:Int)-1).toNat=ws.length-1:=by omega
         have hOW2:okW ws x=decide (x≠ -(ws.getD (ws.length-1) 0)):=by rw[hOW,decide_eq_false hl0,Bool.false_or]
         have HY64:I64 (ws.getD (ws.length-1) 0):=by
          have hm:ws.getD (ws.length-1) 0∈ws:=by rw[List.getD_eq_getElem?_getD,List.getElem?_eq_getElem (by omega)];exact List.getElem_mem _
          exact HR3.out.1.2 _ hm
         have HYB:=hDD (HLMM.out _ (HM2.out _ (show ws.getD (ws.length-1) 0∈ws by rw[List.getD_eq_getElem?_getD,List.getElem?_eq_getElem (by omega)];exact List.getElem_mem _)))
         generalize ws.getD (ws.length-1) 0=y at*
         have hny:IntKind.i64.wrap (-y)= -y:=by rw[IntKind.wrap_i64];have:=HYB.out;omega
         rcases ex:(x != -y) with _ | _
         ·have hex:x= -y:=by simpa using ex
          have HOKX:Hid (okG es u ws x=false):=hDD (by rw[HOX.out,hOW2];simp[hex])
          clear hex hOW hOW2
          go_wp2_with fail
          (refine wp_region_quiet_bel (by kernel_rfl) (by kernel_rfl) ?_;(repeat(go_big_quiet_step (fail)));refine wpQuiet_nil ?_;intro wz hw';obtain⟨pq,hw''⟩:=hw';have bz:=pq.h;rw[←hw''] at bz;clear hw'' pq)
          have HE6:Hid ((ls.take (q'+1)).filter (okG es u ws)=(ls.take q').filter (okG es u ws)):=hDD (by rw[HTK.out,if_neg (by rw[HOKX.out];decide)])
          have HI4:=hDD (HI3.out.below bz)
          have HR4:=hDD (HR3.out.below bz)
          clear bz
          go_wp2
          go_roundw
          case rel=>exact⟨q'+1,by omega,by go_num,by rw[HE6.out];exact HI4.out,HR4.out⟩
          case measure=>simp[intOf];omega
         ·have hex:x≠ -y:=by simpa using ex
          have HOKX:Hid (okG es u ws x=decide (0≤nv)):=hDD (by rw[HOX.out,hOW2];simp[hex])
          clear hex hOW hOW2
          rcases e5:decide (0≤nv) with _ | _
          ·go_wp2_with fail
           (refine wp_region_quiet_bel (by kernel_rfl) (by kernel_rfl) ?_;(repeat(go_big_quiet_step (first | (go_at_call 83;exact Calls.bel_of (HNV.out _ (HI3.out.b.trans ((BelW.h _).mono hlo3)))))));refine wpQuiet_nil ?_;intro wz hw';obtain⟨pq,hw''⟩:=hw';have bz:=pq.h;rw[←hw''] at bz;clear hw'' pq)
           rw[e5] at HOKX
           have HE6:Hid ((ls.take (q'+1)).filter (okG es u ws)=(ls.take q').filter (okG es u ws)):=hDD (by rw[HTK.out,if_neg (by rw[HOKX.out];decide)])
           have HI4:=hDD (HI3.out.below bz)
           have HR4:=hDD (HR3.out.below bz)
           clear bz
           go_wp2
           go_roundw
           case rel=>exact⟨q'+1,by omega,by go_num,by rw[HE6.out];exact HI4.out,HR4.out⟩
           case measure=>simp[intOf];omega
          ·go_wp2_with fail
           (refine wp_region_quiet_bel (by kernel_rfl) (by kernel_rfl) ?_;(repeat(go_big_quiet_step (first | (go_at_call 83;exact Calls.bel_of (HNV.out _ (HI3.out.b.trans ((BelW.h _).mono hlo3)))))));refine wpQuiet_nil ?_;intro wz hw';obtain⟨pq,hw''⟩:=hw';have bz:=pq.h;rw[←hw''] at bz;clear hw'' pq)
           rw[e5] at HOKX
           have HE6:Hid ((ls.take (q'+1)).filter (okG es u ws)=(ls.take q').filter (okG es u ws)++ [x]):=hDD (by rw[HTK.out,if_pos HOKX.out])
           have HE7:Hid ((LK.take q).flatMap (nxtG es u ls)++((ls.take (q'+1)).filter (okG es u ws)).map (fun x=>ws++ [x])=((LK.take q).flatMap (nxtG es u ls)++((ls.take q').filter (okG es u ws)).map fun x=>ws++ [x])++ [ws++ [x]]):=hDD (by rw[HE6.out,List.map_append,←List.append_assoc];rfl)
           have HI4:=hDD (HI3.out.below bz)
           have HR4:=hDD (HR3.out.below bz)
           have HNL:=hDD (nxt_room (es:=es) (u:=u) (p:=okG es u ws) (f:=fun x=>ws++ [x]) (q:=q) (q':=q') (show ls.length≤6 by rw[HLS.out];omega) hL6)
           have hgz:=HI4.out.g
           have hloz:=HI4.out.lo_le
           have hcz2:wz.cell? ⟨gl,q',none⟩=some (.int .i64 x):=(bz.cell (p:=⟨gl,q',none⟩) hg3).trans hcx
           have HRR:=hDD ((HR4.out.1.drew.alloc (.cells #[] 3)).rd)
           have HRB:=hDD (((HR4.out.1.alloc (.cells #[] 3)).alloc (.cells #[.int .i64 x] 3)).drew.rd)
           have HRC:=hDD (((HR4.out.1.alloc (.cells #[.int .i64 x] 3)).alloc (.cells #[] 3)).drew.rd)
           have HOB:=hDD (((OwI_lit wz [] I64s_nil (by simp) (Nat.le_refl _)).alloc (.cells #[.int .i64 x] 3)).drew)
           have HOC:Hid (OwI ((wz.alloc (.cells #[.int .i64 x] 3)).alloc (.cells #[] 3)).drew wz.heap.size (.slice (some ⟨wz.heap.size+1,0,none⟩) 0 0) []):=hDD (OwI_litN (wz.alloc (.cells #[.int .i64 x] 3)) [] (wz.heap.size+1) (by simp) I64s_nil (by simp) (by omega))
           have HXB:Hid (RdI ((wz.alloc (.cells #[] 3)).alloc (.cells #[.int .i64 x] 3)).drew (.slice (some ⟨wz.heap.size+1,0,none⟩) 1 1) [x]):=hDD (by have:=RdI_new1 (wz.alloc (.cells #[] 3)) x HX64.out;simpa using this.drew)
           have HXC:Hid (RdI ((wz.alloc (.cells #[.int .i64 x] 3)).alloc (.cells #[] 3)).drew (.slice (some ⟨wz.heap.size,0,none⟩) 1 1) [x]):=hDD (((RdI_new1 wz x HX64.out).alloc (.cells #[] 3)).drew)
           have HBB:Hid (Below wz.heap.size wz ((wz.alloc (.cells #[] 3)).alloc (.cells #[.int .i64 x] 3)).drew):=hDD ((((Below.refl wz.heap.size wz).alloc (Nat.le_refl _) _).alloc (by simp) _).drew)
           have HBC:Hid (Below wz.heap.size wz ((wz.alloc (.cells #[.int .i64 x] 3)).alloc (.cells #[] 3)).drew):=hDD ((((Below.refl wz.heap.size wz).alloc (Nat.le_refl _) _).alloc (by simp) _).drew)
           clear bz fC fQ0 fQ1 fQ2 q0 q1 q2 e0
           go_wp2_with fail
           go_region_held3 (fun w'=>w'.cell? ⟨gl,q',none⟩=some (.int .i64 x))
            (first | go_keep | (exact HXE.out _ HI5.out.l) | (rw[hc1 _ _ (by omega)];simp[go_sem, *]) | (rw[hc0 _ _ (by omega)];simp[go_sem, *]))
            (first
             | (refine step_append_ints rfl (.tmp 106) (.tmp 107) rfl wz.heap.size _ [] (OwI_litN _ [] wz.heap.size (by simp[World.drew,World.drewN]) I64s_nil (by simp) (Nat.le_refl _)) (by rfl) _ ws ?_ (by rfl) (by simp;omega) (by simp) ?_;(exact HRR.out);intro v1 w1 o1 g1 p1;rw[List.nil_append] at o1;have hb0:=(((Below.refl wz.heap.size wz).drew).alloc (Nat.le_refl _) (.cells #[] 3));have hb1:=hb0.grown g1 hb0.size (fun k hk=>by simp[Value.ownBlock] at hk;omega);have O1:=hDD o1;have B1:=hDD hb1;obtain⟨hc0,_⟩:=bcellN hb1;have hz1:=hb1.size;clear o1 hb0 hb1 g1 p1 HRR HRB HRC HOB HOC HXB HXC HBB HBC)
             | (refine step_append_ints rfl (.tmp 106) (.tmp 107) rfl wz.heap.size _ [] HOB.out (by rfl) _ ws HRB.out (by rfl) (by simp;omega) HBB.out.size ?_;intro v1 w1 o1 g1 p1;rw[List.nil_append] at o1;have hb1:=HBB.out.grown g1 HBB.out.size (fun k hk=>by simp[Value.ownBlock] at hk;omega);have HX:=hDD (HXB.out.grown g1 (fun b e1 e2=>by simp[Value.ownBlock] at e1 e2;omega));have O1:=hDD o1;have B1:=hDD hb1;obtain⟨hc0,_⟩:=bcellN hb1;have hz1:=hb1.size;clear o1 hb1 g1 p1 HRR HRB HRC HOB HOC HXB HXC HBB HBC)
             | (refine step_append_ints rfl (.tmp 106) (.tmp 107) rfl wz.heap.size _ [] HOC.out (by rfl) _ ws HRC.out (by rfl) (by simp;omega) HBC.out.size ?_;intro v1 w1 o1 g1 p1;rw[List.nil_append] at o1;have hb1:=HBC.out.grown g1 HBC.out.size (fun k hk=>by simp[Value.ownBlock] at hk;omega);have HX:=hDD (HXC.out.grown g1 (fun b e1 e2=>by simp[Value.ownBlock] at e1 e2;omega));have O1:=hDD o1;have B1:=hDD hb1;obtain⟨hc0,_⟩:=bcellN hb1;have hz1:=hb1.size;clear o1 hb1 g1 p1 HRR HRB HRC HOB HOC HXB HXC HBB HBC)
             | (refine step_append_ints rfl (.tmp 108) (.tmp 113) rfl wz.heap.size _ ws (O1.out.alloc _) (by rfl) _ [x] (RdI_new1 _ x HX64.out) (by rfl) (by simp;omega) (by simp;omega) ?_;intro v2 w2 o2 g2 p2;have hb2:=((B1.out.alloc hz1 (.cells #[.int .i64 x] 3)).grown g2 (by simp;omega) (fun k hk=>(O1.out.1.lt k hk).1));have B2:=hDD hb2;obtain⟨hc1,_⟩:=bcellN hb2;have hz2:=hb2.size;obtain⟨A2,c2,hv2,_⟩:=OwI.form o2;rw[List.length_append,List.length_singleton] at hv2;subst hv2;have O2:=hDD o2;clear o2 hb2 g2 p2 hz1 B1)
             | (refine step_append_ints rfl (.tmp 108) (.tmp 113) rfl wz.heap.size _ ws O1.out (by rfl) _ [x] HX.out (by rfl) (by simp;omega) hz1 ?_;intro v2 w2 o2 g2 p2;have hb2:=(B1.out.grown g2 hz1 (fun k hk=>(O1.out.1.lt k hk).1));have B2:=hDD hb2;obtain⟨hc1,_⟩:=bcellN hb2;have hz2:=hb2.size;obtain⟨A2,c2,hv2,_⟩:=OwI.form o2;rw[List.length_append,List.length_singleton] at hv2;subst hv2;have O2:=hDD o2;clear o2 hb2 g2 p2 hz1 B1 HX)
             | (refine step_push3_2 rfl (.tmp 105) (.tmp 115) rfl HI4.out.o hloz (B2.out.alloc hz2 _) (by rfl) _ (.slice A2 (ws.length+1) c2) (ws++ [x]) (base:=wz.heap.size) (by rfl) (O2.out.alloc _) (Nat.le_refl _) (cell_new1 _ _ _) rfl HNL.out ?_;intro v3 w3 o3 b3 g3 p3;have HI5:=hDD (HI4.out.push2 (B2.out.alloc hz2 (.cells #[.slice A2 (ws.length+1) c2] 27)) o3 b3 g3 p3);have HR5:=hDD (HR4.out.push (B2.out.alloc hz2 (.cells #[.slice A2 (ws.length+1) c2] 27)) g3 p3);clear o3 b3 g3 p3))
           all_goals (
            go_wp2
            go_roundw
            (case rel=>exact⟨q'+1,by omega,by go_num,by rw[HE7.out];exact HI5.out,HR5.out⟩)
            (case measure=>simp[intOf];omega))
        ·have hl0:ws.length=0:=by simpa using e0
         have HOKX:Hid (okG es u ws x=decide (0≤nv)):=hDD (by rw[HOX.out,hOW];simp[hl0])
         clear hOW hl0
         rcases e5:decide (0≤nv) with _ | _
         ·go_wp2_with fail
          (refine wp_region_quiet_bel (by kernel_rfl) (by kernel_rfl) ?_;(repeat(go_big_quiet_step (first | (go_at_call 83;exact Calls.bel_of (HNV.out _ (HI3.out.b.trans ((BelW.h _).mono hlo3)))))));refine wpQuiet_nil ?_;intro wz hw';obtain⟨pq,hw''⟩:=hw';have bz:=pq.h;rw[←hw''] at bz;clear hw'' pq)
          rw[e5] at HOKX
          have HE6:Hid ((ls.take (q'+1)).filter (okG es u ws)=(ls.take q').filter (okG es u ws)):=hDD (by rw[HTK.out,if_neg (by rw[HOKX.out];decide)])
          have HI4:=hDD (HI3.out.below bz)
          have HR4:=hDD (HR3.out.below bz)
          clear bz
          go_wp2
          go_roundw
          case rel=>exact⟨q'+1,by omega,by go_num,by rw[HE6.out];exact HI4.out,HR4.out⟩
          case measure=>simp[intOf];omega
         ·go_wp2_with fail
          (refine wp_region_quiet_bel (by kernel_rfl) (by kernel_rfl) ?_;(repeat(go_big_quiet_step (first | (go_at_call 83;exact Calls.bel_of (HNV.out _ (HI3.out.b.trans ((BelW.h _).mono hlo3)))))));refine wpQuiet_nil ?_;intro wz hw';obtain⟨pq,hw''⟩:=hw';have bz:=pq.h;rw[←hw''] at bz;clear hw'' pq)
          rw[e5] at HOKX
          have HE6:Hid ((ls.take (q'+1)).filter (okG es u ws)=(ls.take q').filter (okG es u ws)++ [x]):=hDD (by rw[HTK.out,if_pos HOKX.out])
          have HE7:Hid ((LK.take q).flatMap (nxtG es u ls)++((ls.take (q'+1)).filter (okG es u ws)).map (fun x=>ws++ [x])=((LK.take q).flatMap (nxtG es u ls)++((ls.take q').filter (okG es u ws)).map fun x=>ws++ [x])++ [ws++ [x]]):=hDD (by rw[HE6.out,List.map_append,←List.append_assoc];rfl)
          have HI4:=hDD (HI3.out.below bz)
          have HR4:=hDD (HR3.out.below bz)
          have HNL:=hDD (nxt_room (es:=es) (u:=u) (p:=okG es u ws) (f:=fun x=>ws++ [x]) (q:=q) (q':=q') (show ls.length≤6 by rw[HLS.out];omega) hL6)
          have hgz:=HI4.out.g
          have hloz:=HI4.out.lo_le
          have hcz2:wz.cell? ⟨gl,q',none⟩=some (.int .i64 x):=(bz.cell (p:=⟨gl,q',none⟩) hg3).trans hcx
          have HRR:=hDD ((HR4.out.1.drew.alloc (.cells #[] 3)).rd)
          have HRB:=hDD (((HR4.out.1.alloc (.cells #[] 3)).alloc (.cells #[.int .i64 x] 3)).drew.rd)
          have HRC:=hDD (((HR4.out.1.alloc (.cells #[.int .i64 x] 3)).alloc (.cells #[] 3)).drew.rd)
          have HOB:=hDD (((OwI_lit wz [] I64s_nil (by simp) (Nat.le_refl _)).alloc (.cells #[.int .i64 x] 3)).drew)
          have HOC:Hid (OwI ((wz.alloc (.cells #[.int .i64 x] 3)).alloc (.cells #[] 3)).drew wz.heap.size (.slice (some ⟨wz.heap.size+1,0,none⟩) 0 0) []):=hDD (OwI_litN (wz.alloc (.cells #[.int .i64 x] 3)) [] (wz.heap.size+1) (by simp) I64s_nil (by simp) (by omega))
          have HXB:Hid (RdI ((wz.alloc (.cells #[] 3)).alloc (.cells #[.int .i64 x] 3)).drew (.slice (some ⟨wz.heap.size+1,0,none⟩) 1 1) [x]):=hDD (by have:=RdI_new1 (wz.alloc (.cells #[] 3)) x HX64.out;simpa using this.drew)
          have HXC:Hid (RdI ((wz.alloc (.cells #[.int .i64 x] 3)).alloc (.cells #[] 3)).drew (.slice (some ⟨wz.heap.size,0,none⟩) 1 1) [x]):=hDD (((RdI_new1 wz x HX64.out).alloc (.cells #[] 3)).drew)
          have HBB:Hid (Below wz.heap.size wz ((wz.alloc (.cells #[] 3)).alloc (.cells #[.int .i64 x] 3)).drew):=hDD ((((Below.refl wz.heap.size wz).alloc (Nat.le_refl _) _).alloc (by simp) _).drew)
          have HBC:Hid (Below wz.heap.size wz ((wz.alloc (.cells #[.int .i64 x] 3)).alloc (.cells #[] 3)).drew):=hDD ((((Below.refl wz.heap.size wz).alloc (Nat.le_refl _) _).alloc (by simp) _).drew)
          clear bz fC fQ0 fQ1 fQ2 q0 q1 q2 e0
          go_wp2_with fail
          go_region_held3 (fun w'=>w'.cell? ⟨gl,q',none⟩=some (.int .i64 x))
           (first | go_keep | (exact HXE.out _ HI5.out.l) | (rw[hc1 _ _ (by omega)];simp[go_sem, *]) | (rw[hc0 _ _ (by omega)];simp[go_sem, *]))
           (first
            | (refine step_append_ints rfl (.tmp 106) (.tmp 107) rfl wz.heap.size _ [] (OwI_litN _ [] wz.heap.size (by simp[World.drew,World.drewN]) I64s_nil (by simp) (Nat.le_refl _)) (by rfl) _ ws ?_ (by rfl) (by simp;omega) (by simp) ?_;(exact HRR.out);intro v1 w1 o1 g1 p1;rw[List.nil_append] at o1;have hb0:=(((Below.refl wz.heap.size wz).drew).alloc (Nat.le_refl _) (.cells #[] 3));have hb1:=hb0.grown g1 hb0.size (fun k hk=>by simp[Value.ownBlock] at hk;omega);have O1:=hDD o1;have B1:=hDD hb1;obtain⟨hc0,_⟩:=bcellN hb1;have hz1:=hb1.size;clear o1 hb0 hb1 g1 p1 HRR HRB HRC HOB HOC HXB HXC HBB HBC)
            | (refine step_append_ints rfl (.tmp 106) (.tmp 107) rfl wz.heap.size _ [] HOB.out (by rfl) _ ws HRB.out (by rfl) (by simp;omega) HBB.out.size ?_;intro v1 w1 o1 g1 p1;rw[List.nil_append] at o1;have hb1:=HBB.out.grown g1 HBB.out.size (fun k hk=>by simp[Value.ownBlock] at hk;omega);have HX:=hDD (HXB.out.grown g1 (fun b e1 e2=>by simp[Value.ownBlock] at e1 e2;omega));have O1:=hDD o1;have B1:=hDD hb1;obtain⟨hc0,_⟩:=bcellN hb1;have hz1:=hb1.size;clear o1 hb1 g1 p1 HRR HRB HRC HOB HOC HXB HXC HBB HBC)
            | (refine step_append_ints rfl (.tmp 106) (.tmp 107) rfl wz.heap.size _ [] HOC.out (by rfl) _ ws HRC.out (by rfl) (by simp;omega) HBC.out.size ?_;intro v1 w1 o1 g1 p1;rw[List.nil_append] at o1;have hb1:=HBC.out.grown g1 HBC.out.size (fun k hk=>by simp[Value.ownBlock] at hk;omega);have HX:=hDD (HXC.out.grown g1 (fun b e1 e2=>by simp[Value.ownBlock] at e1 e2;omega));have O1:=hDD o1;have B1:=hDD hb1;obtain⟨hc0,_⟩:=bcellN hb1;have hz1:=hb1.size;clear o1 hb1 g1 p1 HRR HRB HRC HOB HOC HXB HXC HBB HBC)
            | (refine step_append_ints rfl (.tmp 108) (.tmp 113) rfl wz.heap.size _ ws (O1.out.alloc _) (by rfl) _ [x] (RdI_new1 _ x HX64.out) (by rfl) (by simp;omega) (by simp;omega) ?_;intro v2 w2 o2 g2 p2;have hb2:=((B1.out.alloc hz1 (.cells #[.int .i64 x] 3)).grown g2 (by simp;omega) (fun k hk=>(O1.out.1.lt k hk).1));have B2:=hDD hb2;obtain⟨hc1,_⟩:=bcellN hb2;have hz2:=hb2.size;obtain⟨A2,c2,hv2,_⟩:=OwI.form o2;rw[List.length_append,List.length_singleton] at hv2;subst hv2;have O2:=hDD o2;clear o2 hb2 g2 p2 hz1 B1)
            | (refine step_append_ints rfl (.tmp 108) (.tmp 113) rfl wz.heap.size _ ws O1.out (by rfl) _ [x] HX.out (by rfl) (by simp;omega) hz1 ?_;intro v2 w2 o2 g2 p2;have hb2:=(B1.out.grown g2 hz1 (fun k hk=>(O1.out.1.lt k hk).1));have B2:=hDD hb2;obtain⟨hc1,_⟩:=bcellN hb2;have hz2:=hb2.size;obtain⟨A2,c2,hv2,_⟩:=OwI.form o2;rw[List.length_append,List.length_singleton] at hv2;subst hv2;have O2:=hDD o2;clear o2 hb2 g2 p2 hz1 B1 HX)
            | (refine step_push3_2 rfl (.tmp 105) (.tmp 115) rfl HI4.out.o hloz (B2.out.alloc hz2 _) (by rfl) _ (.slice A2 (ws.length+1) c2) (ws++ [x]) (base:=wz.heap.size) (by rfl) (O2.out.alloc _) (Nat.le_refl _) (cell_new1 _ _ _) rfl HNL.out ?_;intro v3 w3 o3 b3 g3 p3;have HI5:=hDD (HI4.out.push2 (B2.out.alloc hz2 (.cells #[.slice A2 (ws.length+1) c2] 27)) o3 b3 g3 p3);have HR5:=hDD (HR4.out.push (B2.out.alloc hz2 (.cells #[.slice A2 (ws.length+1) c2] 27)) g3 p3);clear o3 b3 g3 p3))
          all_goals (
           go_wp2
           go_roundw
           (case rel=>exact⟨q'+1,by omega,by go_num,by rw[HE7.out];exact HI5.out,HR5.out⟩)
           (case measure=>simp[intOf];omega))
       ·obtain rfl:q'=2*rk:=by omega
        have h1:=HI3.out
        rw[←HLS.out,List.take_length,←HNX.out,←HTM.out] at h1
        have HI4:=hDD h1
        clear h1
        go_wp2
        go_roundw
        case rel=>exact⟨q+1,by omega,by go_num,HI4.out⟩
        case measure=>simp[intOf];omega
    ·obtain rfl:q=LK.length:=by omega
     have h1:=HI2.out
     rw[List.take_length,←HP1.out,←HG1.out] at h1
     have HI3:=hDD h1
     clear h1
     go_wp2
     go_roundw
     case rel=>exact⟨k+1,_,_,by omega,by go_num,by rw[←HLPE.out,←HLNE.out];exact HI3.out⟩
     case measure=>simp[intOf];omega
  ·obtain rfl:k=m+1:=by omega
   have hkI: ¬(((m+1:Nat):Int)≤(m:Int)):=by omega
   have FO:Hid (OwII w.heap.size wo.heap.size _ _ wo):=hDD (OwnL.widen HI.out.o.one (show w.heap.size≤w.heap.size+1 by omega) (Nat.le_refl _))
   have FB:Hid (Below w.heap.size w wo):=hDD (BX.out.trans (HI.out.b.mono (by omega)))
   clear hkc hpc h64 hpc2 hkc2 h642
   rw[HLSE.out] at FO
   obtain⟨Ao,co,hov,_⟩:=OwnL.len FO.out
   subst hov
   go_wp2
   go_ret
   exact⟨_,rfl,FO.out,FB.out⟩
end Go.Proofs.YteobmaambgmdbaaGreat
namespace Go.Proofs.YteobmaambgmdbaaGreat
set_option maxRecDepth 20000
set_option linter.unusedVariables false
set_option linter.unusedSimpArgs false
open Go.RowKit
set_option maxHeartbeats 400000 in
theorem copyInts_any (v:Value) (xs:List Int) (w:World) (h:RdI w v xs) (hl:xs.length≤1073741824):
  Calls Tryz.prog 112 #[v] w fun e w'=> ∃r,e= .returned r∧OwI w' w.heap.size r xs∧Below w.heap.size w w':=by
 have H:=hDD h
 obtain⟨A,cap,rfl,_⟩:=h.arg
 clear h
 go_enter Tryz.func112,Tryz.ntmps112
 go_wp2_with (at_builtin;refine append_ints rfl (.tmp 3) (.tmp 4) rfl w.heap.size _ [] (OwI_lit _ [] I64s_nil (by simp) (Nat.le_refl _)) rfl _ _ (H.out.alloc _) rfl (by simp;omega) (by simp) ?_;intro v1 w1 o1 g1 p1)
 go_ret
 exact⟨_,rfl,by simpa using o1,((Below.refl _ _).alloc (Nat.le_refl _) _).grown g1 (by simp) (fun k hk=>by simp[Value.ownBlock] at hk;omega)⟩
end Go.Proofs.YteobmaambgmdbaaGreat
namespace Go.Proofs.YteobmaambgmdbaaGreat
set_option maxRecDepth 20000
set_option linter.unusedVariables false
set_option linter.unusedSimpArgs false
open Go.RowKit
section
variable {α:Type} {E:El α} {t:TypeId} {width:Nat} {w w' w1 w2:World} {vs vo vo':Value} {ds:List α} {lo hi:Nat} {p:α→Bool} {k:Nat}
end
def SegI (N g off:Nat) (w:World) (hs:List Value) (L:List (List Int)):Prop:=
 hs.length=L.length∧ ∀i (h:i<hs.length) (h':i<L.length),w.cell? ⟨g,off+i,none⟩=some hs[i]∧RdI w hs[i] L[i]∧ ∀b,hs[i].ownBlock=some b→b<N∧b≠g
theorem SegI.below {N g off:Nat} {w w':World} {hs:List Value} {L:List (List Int)} (h:SegI N g off w hs L) (hb:Below w.heap.size w w'):SegI N g off w' hs L:=
 ⟨h.1,fun i h1 h2=>⟨(hb.cell (World.block_lt_of_cell? w _ (h.2 i h1 h2).1)).trans (h.2 i h1 h2).1,(h.2 i h1 h2).2.1.below hb,(h.2 i h1 h2).2.2⟩⟩
theorem SegI.push {N g off:Nat} {w w':World} {hs:List Value} {L:List (List Int)} {v:Value} {n:Nat} (h:SegI N g off w hs L) (hg:w.grownBy w' v.ownBlock) (hv:v.ownBlock=some g∨ ∃b,v.ownBlock=some b∧N≤b∧b≠g)
  (hn:off+hs.length≤n) (hk: ∀g j u,v.ownBlock=some g→j<n→w.cell? ⟨g,j,none⟩=some u→w'.cell? ⟨g,j,none⟩=some u):SegI N g off w' hs L:=by
 refine⟨h.1,fun i h1 h2=> ?_⟩
 obtain⟨c,r,hb⟩:=h.2 i h1 h2
 refine⟨?_,r.grown hg fun b hb1 hb2=> ?_,hb⟩
 ·rcases hv with hv | ⟨b,hv,_,hne⟩
  ·exact hk g _ _ hv (by omega) c
  ·rw[World.cell?_of_block (w:=w) (hg.block g (World.block_lt_of_cell? w _ c) fun e=>hne (by rw[hv] at e;injection e with e;exact e.symm))]
   exact c
 ·have:=hb b hb1
  rcases hv with hv | ⟨b',hv,hN,_⟩
  ·rw[hv] at hb2;injection hb2 with e;omega
  ·rw[hv] at hb2;injection hb2 with e;omega
structure Up2 (lo N g off:Nat) (W wr:World) (hs:List Value) (LK:List (List Int)) (v:Value) (L:List (List Int)):Prop where
 o:OwII lo wr.heap.size v L wr
 s:SegI N g off wr hs LK
 b:Below lo W wr
 v:v.ownBlock=some g∨ ∃b,v.ownBlock=some b∧N≤b∧b≠g
 n:off+hs.length≤L.length
 hN:N≤wr.heap.size
 hlo:lo≤N
 hg:g<N
section
variable {lo N g off:Nat} {W wr w0 w':World} {hs:List Value} {LK L:List (List Int)} {v v':Value} {d:List Int}
theorem Up2.below (h:Up2 lo N g off W wr hs LK v L) (hb:Below wr.heap.size wr w'):Up2 lo N g off W w' hs LK v L:=
 ⟨(OwnL.keep h.o EI.stable fun b _ hlt=>hb.block b hlt).widen (Nat.le_refl _) hb.size,h.s.below hb,h.b.trans (hb.mono (by have:=h.hN;have:=h.hlo;omega)),h.v,h.n,by have:=h.hN;have:=hb.size;omega,h.hlo,h.hg⟩
theorem Up2.push (h:Up2 lo N g off W wr hs LK v L) (hb:Below wr.heap.size wr w0) (ho:OwII lo w'.heap.size v' (L++ [d]) w') (hg:w0.grownBy w' v.ownBlock)
  (hk: ∀g j u,v.ownBlock=some g→j<L.length→w0.cell? ⟨g,j,none⟩=some u→w'.cell? ⟨g,j,none⟩=some u) (hat:v'.ownBlock=v.ownBlock∨v'.ownBlock=some w0.heap.size):Up2 lo N g off W w' hs LK v' (L++ [d]):=by
 have h1:=h.below hb
 refine⟨ho,h1.s.push hg h1.v h1.n hk,h1.b.grown hg (by have:=h1.hN;have:=h1.hlo;omega) fun k hk=>(h.o.lt hk).1,?_,?_,?_,h.hlo,h.hg⟩
 ·rcases hat with q | q
  ·rw[q];exact h.v
  ·have:=h1.hN;have:=h.hg
   exact .inr ⟨_,q,h1.hN,by omega⟩
 ·have:=h.n;rw[List.length_append];omega
 ·have:=h1.hN;have:=hg.size;omega
end
end Go.Proofs.YteobmaambgmdbaaGreat
namespace Go.Proofs.YteobmaambgmdbaaGreat
set_option maxRecDepth 20000
set_option linter.unusedVariables false
set_option linter.unusedSimpArgs false
open Go.RowKit
def negL (xs:List Int):List Int:=xs.map fun x=>wrap64 (-x)
def invL (xs:List Int):List Int:=(negL xs).reverse
theorem I64_wrap (x:Int):I64 (wrap64 x):=by
 unfold I64 wrap64;omega
theorem invL_step (xs:List Int) (k:Nat) (hk:k<xs.length):(invL xs).take (k+1)=(invL xs).take k++ [wrap64 (-xs[xs.length-1-k])]:=by
 have h:k<(invL xs).length:=by simpa[invL,negL] using hk
 rw[List.take_succ_eq_append_getElem h]
 congr 2
 simp[invL,negL]
set_option maxHeartbeats 400000 in
theorem specInvertWord_any (v:Value) (xs:List Int) (w:World) (h:RdI w v xs) (hl:xs.length≤1073741824):
  Calls Tryz.prog 70 #[v] w fun e w'=> ∃r,e= .returned r∧OwI w' w.heap.size r (invL xs)∧Below w.heap.size w w':=by
 have H:=hDD h
 obtain⟨A,cap,rfl,hcap,hm,hr,hb⟩:=h.arg
 clear h hb
 go_enter Tryz.func70,Tryz.ntmps70
 go_wp2
 go_loopw [3,4] (fun out i wr=> ∃k:Nat,k≤xs.length∧i= .int .i64 ((xs.length:Int)-1-(k:Int))∧OwI wr w.heap.size out ((invL xs).take k)∧Below w.heap.size w wr)
  (fun _ i _=>(intOf i+1).toNat)
 case atStart=>exact⟨0,Nat.zero_le _,by simp,OwI_lit _ [] I64s_nil (by simp) (Nat.le_refl _),(Below.refl _ _).alloc (Nat.le_refl _) _⟩
 case round=>
  obtain⟨k,hk,rfl,hown,hbel⟩:=hrel
  have hsz:=hbel.size
  have hkl:((invL xs).take k).length≤k:=List.length_take_le _ _
  by_cases hlt:k<xs.length
  ·obtain⟨b,off,rfl,hbl,hc⟩:=(H.out.below hbel).at (by omega)
   have hcell:=hc (xs.length-1-k) (by omega)
   have HS:=hDD (invL_step xs k hlt)
   have HO:=hDD hown
   clear hc hown
   go_wp2_with (at_builtin;refine push_int rfl (.tmp 13) (.tmp 19) rfl _ _ _ (OwI.alloc HO.out _) rfl _ _ rfl (cell_new1 _ _ _) (I64_wrap _) (by first | omega | (simp<;>omega)) (by first | omega | (simp<;>omega)) ?_;intro v1 wv1 o1 g1 p1)
   go_roundw
   case rel=>exact⟨k+1,by omega,by go_num,by rw[HS.out];exact o1,bel_push hbel hsz HO.out.1 (Nat.le_refl _) g1⟩
   case measure=>simp[intOf];omega
  ·obtain rfl:k=xs.length:=by omega
   go_wp2
   go_ret
   exact⟨_,rfl,by rw[List.take_of_length_le (by simp[invL,negL])] at hown;exact hown,hbel⟩
set_option maxHeartbeats 400000 in
theorem implInvertWord_any (v:Value) (xs:List Int) (w:World) (h:RdI w v xs) (hl:xs.length≤1073741824):
  Calls Tryz.prog 85 #[v] w fun e w'=> ∃r,e= .returned r∧OwI w' w.heap.size r (invL xs)∧Below w.heap.size w w':=by
 have H:=hDD h
 obtain⟨A,cap,rfl,hcap,hm,hr,hb⟩:=h.arg
 clear h hb
 go_enter Tryz.func85,Tryz.ntmps85
 obtain⟨i0,hi0,hz0,hz1,hz2⟩:=info_parts int_info
 go_wp2_with (at_make;refine wpList_make_own _ rfl _ _ 27 rfl w.heap.size 3 i0 (.int .i64 0) 1 Tryz.underlying27 hi0 hz0 hz1 _ _ _ xs.length rfl rfl rfl (by rw[hz2];omega) (by unfold maxLen;omega) (Nat.le_refl _) ?_)
 intro w0 hown0 hgrow0
 go_wp2
 go_loopw [3,4] (fun out i wr=> ∃k:Nat,k≤xs.length∧i= .int .i64 ((xs.length:Int)-1-(k:Int))∧OwI wr w.heap.size out ((invL xs).take k)∧Below w.heap.size w wr)
  (fun _ i _=>(intOf i+1).toNat)
 case atStart=>exact⟨0,Nat.zero_le _,by simp,⟨hown0,I64s_nil⟩,(Below.refl _ _).grown hgrow0 (Nat.le_refl _) (fun k h=>by cases h)⟩
 case round=>
  obtain⟨k,hk,rfl,hown,hbel⟩:=hrel
  have hsz:=hbel.size
  have hkl:((invL xs).take k).length≤k:=List.length_take_le _ _
  by_cases hlt:k<xs.length
  ·obtain⟨b,off,rfl,hbl,hc⟩:=(H.out.below hbel).at (by omega)
   have hcell:=hc (xs.length-1-k) (by omega)
   have HS:=hDD (invL_step xs k hlt)
   have HO:=hDD hown
   clear hc hown
   go_wp2_with (at_builtin;refine push_int rfl (.tmp 15) (.tmp 21) rfl _ _ _ (OwI.alloc HO.out _) rfl _ _ rfl (cell_new1 _ _ _) (I64_wrap _) (by first | omega | (simp<;>omega)) (by first | omega | (simp<;>omega)) ?_;intro v1 wv1 o1 g1 p1)
   go_roundw
   case rel=>exact⟨k+1,by omega,by go_num,by rw[HS.out];exact o1,bel_push hbel hsz HO.out.1 (Nat.le_refl _) g1⟩
   case measure=>simp[intOf];omega
  ·obtain rfl:k=xs.length:=by omega
   go_wp2
   go_ret
   exact⟨_,rfl,by rw[List.take_of_length_le (by simp[invL,negL])] at hown;exact hown,hbel⟩
def red1 (acc:List Int) (x:Int):List Int:=if 0<acc.length∧invB (acc.getLastD 0) x=true then acc.dropLast else acc++ [x]
def redL (acc xs:List Int):List Int:=xs.foldl red1 acc
theorem red1_len (acc:List Int) (x:Int):(red1 acc x).length≤acc.length+1:=by
 unfold red1;split<;>simp;omega
theorem redL_len (acc xs:List Int):(redL acc xs).length≤acc.length+xs.length:=by
 unfold redL
 induction xs generalizing acc with
 | nil=>simp
 | cons x xs ih=>have:=ih (red1 acc x);have:=red1_len acc x;simp only[List.foldl_cons,List.length_cons];omega
theorem redL_succ (acc xs:List Int) (k:Nat) (h:k<xs.length):redL acc (xs.take (k+1))=red1 (redL acc (xs.take k)) xs[k]:=by
 unfold redL
 rw[List.take_succ_eq_append_getElem h,List.foldl_append]
 rfl
theorem last_get {acc:List Int} (h:0<acc.length):acc.getLastD 0=acc[acc.length-1]:=by
 cases acc with
 | nil=>simp at h
 | cons a l=>simp[List.getLastD,List.getLast_eq_getElem]
theorem red1_cut {acc:List Int} {x:Int} (h:0<acc.length) (hi:invB acc[acc.length-1] x=true):red1 acc x=acc.take (acc.length-1):=by
 rw[←last_get h] at hi
 rw[red1,if_pos ⟨h,hi⟩,List.dropLast_eq_take]
theorem red1_push {acc:List Int} {x:Int} (h:0<acc.length) (hi:invB acc[acc.length-1] x=false):red1 acc x=acc++ [x]:=by
 rw[←last_get h] at hi
 rw[red1,if_neg]
 intro hh
 rw[hi] at hh
 exact absurd hh.2 (by simp)
theorem invB_spec {l x:Int} (hl:I64 l) (hx:I64 x):invB l x=(x != 0&&l==wrap64 (-x)&&l != x):=by
 have hl1:=hl.1
 have hl2:=hl.2
 unfold invB
 by_cases h:x= -9223372036854775808
 ·subst h
  have:wrap64 (- -9223372036854775808)= -9223372036854775808:=by decide+kernel
  rw[this,Bool.eq_iff_iff]
  simp
  omega
 ·rw[I64.neg hx h,Bool.eq_iff_iff]
  have hx1:=hx.1
  simp
  constructor
  ·rintro⟨⟨h1,h2⟩,h3⟩
   exact⟨⟨fun hh=>h1 (by omega),by rw[h3,Int.neg_neg]⟩,fun hh=>h1 (by omega)⟩
  ·rintro⟨⟨h1,h2⟩,h3⟩
   exact⟨⟨fun hh=>h1 (by omega),fun hh=>by have:=hx.2;omega⟩,by rw[h2,Int.neg_neg]⟩
set_option maxHeartbeats 1000000 in
theorem specReduceLetters_any (v:Value) (xs:List Int) (w:World) (h:RdI w v xs) (hl:xs.length≤1073741824):
  Calls Tryz.prog 35 #[v] w fun e w'=> ∃r,e= .returned r∧OwI w' w.heap.size r (redL [] xs)∧Below w.heap.size w w':=by
 have H:=hDD h
 obtain⟨A,cap,rfl,hcap,hm,hr,hb⟩:=h.arg
 have HR:=hDD hr
 clear h hb hr
 go_enter Tryz.func35,Tryz.ntmps35
 go_wp2
 go_loopw [3,4] (fun out i wr=> ∃k:Nat,k≤xs.length∧i= .int .i64 k∧OwI wr w.heap.size out (redL [] (xs.take k))∧Below w.heap.size w wr)
  (fun _ i _=>xs.length-(intOf i).toNat)
 case atStart=>exact⟨0,Nat.zero_le _,rfl,OwI_lit _ [] I64s_nil (by simp) (Nat.le_refl _),(Below.refl _ _).alloc (Nat.le_refl _) _⟩
 case round=>
  obtain⟨k,hk,rfl,hown,hbel⟩:=hrel
  have hsz:=hbel.size
  have hkl:(redL [] (xs.take k)).length≤k:=by have:=redL_len [] (xs.take k);have:=List.length_take_le k xs;simp at*;omega
  by_cases hlt:k<xs.length
  ·obtain⟨b,off,rfl,hbl,hc⟩:=(H.out.below hbel).at (by omega)
   have hcell:=hc k hlt
   have HS:=hDD (redL_succ [] xs k hlt)
   have HX:=hDD (HR.out xs[k] (by simp))
   generalize hg:redL [] (xs.take k)=acc at hown hkl HS
   clear hg hc
   generalize hxk:xs[k]=x at hcell HS HX
   clear hxk
   have HO:=hDD hown
   obtain⟨A1,cap1,rfl,hcap1,hm1,_,hform⟩:=hown.form
   by_cases h0:0<acc.length
   ·obtain⟨g,rfl,hg1,hg2⟩:=hform h0
    obtain⟨b1,off1,hA1,_,hc1⟩:=hown.rd.at h0
    obtain⟨rfl,rfl⟩:g=b1∧0=off1:=by simpa using hA1
    have hlast:=hc1 (acc.length-1) (by omega)
    rw[Nat.zero_add] at hlast
    have HLI:=hDD (hown.2 acc[acc.length-1] (by simp))
    have HC:=hDD (red1_cut (x:=x) h0)
    have HP:=hDD (red1_push (x:=x) h0)
    generalize acc[acc.length-1]=last at hlast HLI HC HP
    have HT:=hDD (invB_spec HLI.out HX.out)
    have hd0:decide ((0:Int)<(acc.length:Int))=true:=by simp;omega
    clear hc1 hform hown hA1
    have push: ∀(hf:invB last x=false),red1 acc x=acc++ [x]:=fun hf=>HP.out hf
    have PU:=hDD push
    clear push
    by_cases e1:x=0
    ·subst e1
     have PF:=hDD (PU.out (by rw[HT.out];simp))
     go_wp2
     go_quiet (fail)
     go_wp2_with (at_builtin;refine push_int rfl (.tmp 53) (.tmp 58) rfl _ _ _ (OwI.alloc (OwI.drewN HO.out _) _) rfl _ _ rfl (cell_new1 _ _ _) HX.out (by first | omega | (simp<;>omega)) (by first | omega | (simp<;>omega)) ?_;intro v1 wv1 o1 g1 p1)
     go_roundw
     case rel=>exact⟨k+1,by omega,by go_num,by rw[HS.out,PF.out];exact o1,bel_push (bel_drewN hbel _) hsz (OwI.drewN HO.out _).1 (Nat.le_refl _) g1⟩
     case measure=>simp[intOf];omega
    ·have e1':(x != 0)=true:=by simp[e1]
     by_cases e2:last=wrap64 (-x)
     ·have e2':(last==wrap64 (-x))=true:=by simp[e2]
      have E2:=hDD e2
      clear e2
      by_cases e3:last=x
      ·have e3':(last != x)=false:=by simp[e3]
       have PF:=hDD (PU.out (by rw[HT.out,e3'];simp))
       have E3:=hDD e3
       clear e3 e1
       go_wp2
       go_quiet (fail)
       go_wp2_with (at_builtin;refine push_int rfl (.tmp 53) (.tmp 58) rfl _ _ _ (OwI.alloc (OwI.drewN HO.out _) _) rfl _ _ rfl (cell_new1 _ _ _) HX.out (by first | omega | (simp<;>omega)) (by first | omega | (simp<;>omega)) ?_;intro v1 wv1 o1 g1 p1)
       go_roundw
       case rel=>exact⟨k+1,by omega,by go_num,by rw[HS.out,PF.out];exact o1,bel_push (bel_drewN hbel _) hsz (OwI.drewN HO.out _).1 (Nat.le_refl _) g1⟩
       case measure=>simp[intOf];omega
      ·have e3':(last != x)=true:=by simp[e3]
       have PF:=hDD (HC.out (by rw[HT.out,e1',e2',e3'];rfl))
       clear e3 e1
       go_wp2
       go_quiet (fail)
       go_wp2
       go_roundw
       case rel=>exact⟨k+1,by omega,by go_num,by rw[HS.out,PF.out];exact owI_cut (OwI.drewN HO.out _) (by omega),bel_drewN hbel _⟩
       case measure=>simp[intOf];omega
     ·have e2':(last==wrap64 (-x))=false:=by simp[e2]
      have PF:=hDD (PU.out (by rw[HT.out,e2'];simp))
      clear e2 e1
      go_wp2
      go_quiet (fail)
      go_wp2_with (at_builtin;refine push_int rfl (.tmp 53) (.tmp 58) rfl _ _ _ (OwI.alloc (OwI.drewN HO.out _) _) rfl _ _ rfl (cell_new1 _ _ _) HX.out (by first | omega | (simp<;>omega)) (by first | omega | (simp<;>omega)) ?_;intro v1 wv1 o1 g1 p1)
      go_roundw
      case rel=>exact⟨k+1,by omega,by go_num,by rw[HS.out,PF.out];exact o1,bel_push (bel_drewN hbel _) hsz (OwI.drewN HO.out _).1 (Nat.le_refl _) g1⟩
      case measure=>simp[intOf];omega
   ·obtain rfl:acc= []:=List.eq_nil_of_length_eq_zero (by omega)
    clear hform hown
    go_wp2
    go_quiet (fail)
    go_wp2_with (at_builtin;refine push_int rfl (.tmp 53) (.tmp 58) rfl _ _ _ (OwI.alloc (OwI.drewN HO.out _) _) rfl _ _ rfl (cell_new1 _ _ _) HX.out (by first | omega | (simp<;>omega)) (by first | omega | (simp<;>omega)) ?_;intro v1 wv1 o1 g1 p1)
    go_roundw
    case rel=>exact⟨k+1,by omega,by go_num,by rw[HS.out];exact o1,bel_push (bel_drewN hbel _) hsz (OwI.drewN HO.out _).1 (Nat.le_refl _) g1⟩
    case measure=>simp[intOf];omega
  ·obtain rfl:k=xs.length:=by omega
   rw[List.take_length] at hown hkl
   have HO:=hDD hown
   obtain⟨A1,cap1,rfl,hcap1,hm1,_,hform⟩:=hown.form
   clear hown hform
   go_wp2_with (at_builtin;refine append_ints rfl (.tmp 60) (.tmp 61) rfl w.heap.size _ [] (OwI_lit _ [] I64s_nil (by simp) hsz) rfl _ _ (HO.out.alloc _).rd rfl (by first | omega | (simp<;>omega)) (by first | omega | (simp<;>omega)) ?_;intro v1 w1 o1 g1 p1)
   go_ret
   exact⟨_,rfl,by simpa using o1,(hbel.alloc hsz _).grown g1 (by simp;omega) (fun k hk=>by simp[Value.ownBlock] at hk;omega)⟩
end Go.Proofs.YteobmaambgmdbaaGreat
namespace Go.Proofs.YteobmaambgmdbaaGreat
set_option maxRecDepth 20000
set_option linter.unusedVariables false
set_option linter.unusedSimpArgs false
open Go.RowKit
set_option maxHeartbeats 1000000 in
theorem specMultiplyWords_any (u v:Value) (xs ys:List Int) (w:World) (h:RdI w u xs) (h':RdI w v ys) (hl:xs.length≤536870912) (hl':ys.length≤536870912):
  Calls Tryz.prog 89 #[u,v] w fun e w'=> ∃r,e= .returned r∧OwI w' w.heap.size r (redL [] (xs++ys))∧Below w.heap.size w w':=by
 have H:=hDD h
 have H':=hDD h'
 clear h h'
 go_enter Tryz.func89,Tryz.ntmps89
 go_wp2_with (first
  | (at_builtin;refine append_ints rfl (.tmp 5) (.tmp 6) rfl w.heap.size _ [] (OwI_lit w [] I64s_nil (by simp) (Nat.le_refl _)) rfl _ _ (H.out.alloc _) rfl (by simp only[List.length_nil];omega) (by simp) ?_;intro v1 w1 o1 g1 p1;have O1:=hDD o1;have hb1:Hid (Below w.heap.size w w1):=hDD (((Below.refl _ _).alloc (Nat.le_refl _) _).grown g1 (by simp) (fun k hk=>by simp[Value.ownBlock] at hk;omega));clear o1 g1 p1)
  | (at_builtin;have hs1:=hb1.out.size;refine append_ints rfl (.tmp 7) (.tmp 8) rfl w.heap.size _ _ O1.out rfl _ _ (H'.out.below hb1.out) rfl (by simp only[List.length_append,List.length_nil];omega) hs1 ?_;intro v2 w2 o2 g2 p2;have O2:=hDD o2;have hb2:Hid (Below w.heap.size w w2):=hDD (hb1.out.grown g2 hs1 (fun k hk=>(O1.out.1.lt k hk).1));clear o2 g2 p2))
 have hs2:=hb2.out.size
 refine(specReduceLetters_any _ _ _ O2.out.rd (by simp only[List.length_append,List.length_nil];omega)).mono ?_
 rintro e w3 ⟨r3,rfl,o3,b3⟩
 have O3:=hDD o3
 have B3:=hDD b3
 clear o3 b3
 go_wp2
 go_ret
 exact⟨_,rfl,by have:=O3.out.mono hs2;simpa using this,hb2.out.trans (B3.out.mono hs2)⟩
def redLL (L:List (List Int)):List Int:=redL [] L.flatten
def lenLL (L:List (List Int)):Nat:=(L.map List.length).sum
theorem redLL_succ (L:List (List Int)) (k:Nat) (h:k<L.length):redLL (L.take (k+1))=redL (redLL (L.take k)) L[k]:=by
 unfold redLL redL
 rw[List.take_succ_eq_append_getElem h,List.flatten_append,List.foldl_append]
 simp
theorem lenLL_take (L:List (List Int)) (k:Nat) (h:k<L.length):lenLL (L.take k)+L[k].length≤lenLL L:=by
 unfold lenLL
 have:L=L.take k++L[k]::L.drop (k+1):=by rw[←List.drop_eq_getElem_cons h,List.take_append_drop]
 have e:=congrArg (fun l=>(l.map List.length).sum) this
 simp only[List.map_append,List.map_cons,List.sum_append,List.sum_cons] at e
 omega
theorem redLL_len (L:List (List Int)):(redLL L).length≤lenLL L:=by
 have:=redL_len [] L.flatten
 simp only[redLL,lenLL,List.length_flatten,List.length_nil] at*
 omega
set_option maxHeartbeats 1000000 in
theorem product_any (v:Value) (L:List (List Int)) (w:World) (h:RdII w v L) (hl:lenLL L≤1073741824) (hn:L.length≤1073741824):
  Calls Tryz.prog 84 #[v] w fun e w'=> ∃r,e= .returned r∧OwI w' w.heap.size r (redLL L)∧Below w.heap.size w w':=by
 have H:=hDD h
 obtain⟨A,cap,rfl,hcap,hm,hA⟩:=h.form
 have HA:=hDD hA
 clear h hA
 unfold maxLen at hm
 go_enter Tryz.func84,Tryz.ntmps84
 go_wp2
 go_loopw [3,11] (fun out i wr=> ∃k:Nat,k≤L.length∧i= .int .i64 k∧OwI wr w.heap.size out (redLL (L.take k))∧Below w.heap.size w wr)
  (fun _ i _=>L.length-(intOf i).toNat)
 case atStart=>exact⟨0,Nat.zero_le _,rfl,OwI_lit _ [] I64s_nil (by simp) (Nat.le_refl _),(Below.refl _ _).alloc (Nat.le_refl _) _⟩
 case round=>
  obtain⟨k,hk,rfl,hown,hbel⟩:=hrel
  have hsz:=hbel.size
  by_cases hlt:k<L.length
  ·have hll:=lenLL_take L k hlt
   have hkl:=redLL_len (L.take k)
   obtain⟨b,off,A1,cap1,rfl,hbl,hcell0,hc1,hm1,hrd⟩:=H.out.at hlt
   have hcell:=(hbel.cell hbl).trans hcell0
   clear hcell0
   have HS:=hDD (redLL_succ L k hlt)
   generalize redLL (L.take k)=acc0 at hown hkl HS
   have HR:=hDD hrd
   clear hrd
   generalize L[k]=ys at hcell hc1 HR hll HS
   have HO:=hDD hown
   have HB:=hDD hbel
   clear hown hbel
   unfold maxLen at hm1
   obtain⟨wo,rfl⟩: ∃wo:World,wo=wr:=⟨_,rfl⟩
   go_wp2
   go_loopw [3,17] (fun out j wi=> ∃m:Nat,m≤ys.length∧j= .int .i64 m∧OwI wi w.heap.size out (redL acc0 (ys.take m))∧Below w.heap.size w wi)
    (fun _ j _=>ys.length-(intOf j).toNat)
   case atStart=>exact⟨0,Nat.zero_le _,rfl,HO.out,HB.out⟩
   case round=>
    obtain⟨m,hm',rfl,hown,hbel⟩:=hrel
    have hsz':=hbel.size
    have hal:(redL acc0 (ys.take m)).length≤acc0.length+m:=by have:=redL_len acc0 (ys.take m);have:=List.length_take_le m ys;omega
    by_cases hlt':m<ys.length
    ·obtain⟨b',off',rfl,hbl',hc'⟩:=(HR.out.below hbel).at (by omega)
     have hcell':=hc' m hlt'
     have HS':=hDD (redL_succ acc0 ys m hlt')
     have HX:=hDD (HR.out.2 ys[m] (by simp))
     clear hc'
     generalize redL acc0 (ys.take m)=acc at hown hal HS'
     generalize ys[m]=x at hcell' HS' HX
     have HO':=hDD hown
     obtain⟨A1,cap1',rfl,hcap1,hm1',_,hform⟩:=hown.form
     unfold maxLen at hm1'
     by_cases h0:0<acc.length
     ·obtain⟨g,rfl,hg1,hg2⟩:=hform h0
      obtain⟨b1,off1,hA1,_,hc1⟩:=hown.rd.at h0
      obtain⟨rfl,rfl⟩:g=b1∧0=off1:=by simpa using hA1
      have hlast:=hc1 (acc.length-1) (by omega)
      rw[Nat.zero_add] at hlast
      have HLI:=hDD (hown.2 acc[acc.length-1] (by simp))
      have HC:=hDD (red1_cut (x:=x) h0)
      have HP:=hDD (red1_push (x:=x) h0)
      generalize acc[acc.length-1]=last at hlast HLI HC HP
      have hd0:decide ((0:Int)<(acc.length:Int))=true:=by simp;omega
      clear hc1 hform hown hA1
      rcases hi:invB last x with _ | _
      ·have PF:=hDD (HP.out hi)
       have hi':=areInverse_any last x
       rw[hi] at hi'
       have HI:=hDD hi'
       clear hi hi'
       go_wp2_with (first | (go_at_call 111;refine(HI.out _ HLI.out).mono ?_;rintro e w' ⟨rfl,rfl⟩) | (at_builtin;refine push_int rfl (.tmp 39) (.tmp 41) rfl _ _ _ (OwI.alloc HO'.out _) rfl _ _ rfl (cell_new1 _ _ _) HX.out (by first | omega | (simp<;>omega)) (by first | omega | (simp<;>omega)) ?_;intro v1 wv1 o1 g1 p1))
       go_roundw
       case rel=>exact⟨m+1,by omega,by go_num,by rw[HS'.out,PF.out];exact o1,bel_push hbel hsz' HO'.out.1 (Nat.le_refl _) g1⟩
       case measure=>simp[intOf];omega
      ·have PF:=hDD (HC.out hi)
       have hi':=areInverse_any last x
       rw[hi] at hi'
       have HI:=hDD hi'
       clear hi hi'
       go_wp2_with (go_at_call 111;refine(HI.out _ HLI.out).mono ?_;rintro e w' ⟨rfl,rfl⟩)
       go_roundw
       case rel=>exact⟨m+1,by omega,by go_num,by rw[HS'.out,PF.out];exact owI_cut HO'.out (by omega),hbel⟩
       case measure=>simp[intOf];omega
     ·obtain rfl:acc= []:=List.eq_nil_of_length_eq_zero (by omega)
      clear hform hown
      go_wp2_with (at_builtin;refine push_int rfl (.tmp 39) (.tmp 41) rfl _ _ _ (OwI.alloc HO'.out _) rfl _ _ rfl (cell_new1 _ _ _) HX.out (by first | omega | (simp<;>omega)) (by first | omega | (simp<;>omega)) ?_;intro v1 wv1 o1 g1 p1)
      go_roundw
      case rel=>exact⟨m+1,by omega,by go_num,by rw[HS'.out];exact o1,bel_push hbel hsz' HO'.out.1 (Nat.le_refl _) g1⟩
      case measure=>simp[intOf];omega
    ·obtain rfl:m=ys.length:=by omega
     rw[List.take_length] at hown
     have HO':=hDD hown
     have HB':=hDD hbel
     clear hown hbel
     go_wp2
     go_roundw
     case rel=>exact⟨k+1,by omega,by go_num,by rw[HS.out];exact HO'.out,HB'.out⟩
     case measure=>simp[intOf];omega
  ·obtain rfl:k=L.length:=by omega
   rw[List.take_length] at hown
   go_wp2
   go_ret
   exact⟨_,rfl,hown,hbel⟩
end Go.Proofs.YteobmaambgmdbaaGreat
namespace Go.Proofs.YteobmaambgmdbaaGreat
set_option maxRecDepth 20000
set_option linter.unusedVariables false
set_option linter.unusedSimpArgs false
open Go.RowKit
end Go.Proofs.YteobmaambgmdbaaGreat
namespace Go.Proofs.YteobmaambgmdbaaGreat
set_option maxRecDepth 20000
set_option linter.unusedVariables false
set_option linter.unusedSimpArgs false
open Go.RowKit
end Go.Proofs.YteobmaambgmdbaaGreat
namespace Go.Proofs.YteobmaambgmdbaaGreat
set_option maxRecDepth 20000
set_option linter.unusedVariables false
set_option linter.unusedSimpArgs false
open Go.RowKit
end Go.Proofs.YteobmaambgmdbaaGreat
namespace Go.Proofs.YteobmaambgmdbaaGreat
set_option maxRecDepth 20000
set_option linter.unusedVariables false
set_option linter.unusedSimpArgs false
open Go.RowKit
end Go.Proofs.YteobmaambgmdbaaGreat
namespace Go.Proofs.YteobmaambgmdbaaGreat
set_option maxRecDepth 20000
set_option linter.unusedVariables false
set_option linter.unusedSimpArgs false
section
variable {α:Type} (c:α→Nat) (m:Int→α→α)
variable {c m}
end
end Go.Proofs.YteobmaambgmdbaaGreat
namespace Go.Proofs.YteobmaambgmdbaaGreat
set_option maxRecDepth 20000
set_option linter.unusedVariables false
set_option linter.unusedSimpArgs false
open Go.RowKit
section
variable {α:Type} {E:El α} {t:TypeId} {width:Nat} {w w' w1 w2:World} {v v':Value} {ds:List α} {lo hi:Nat}
theorem flat_width (l:List (List Value×α×List Nat)) (hl: ∀e∈l,e.1.length=width):((l.map (·.1)).flatten).length=l.length*width:=by
 induction l with
 | nil=>simp
 | cons e l ih=>
   simp only[List.map_cons,List.flatten_cons,List.length_append,List.length_cons,ih fun e he=>hl e (by simp[he]),hl e (by simp),Nat.add_mul]
   omega
theorem OwnL.put {A:Option Addr} {m cap:Nat} (h:OwnL E t width lo hi w (.slice A m cap) ds) (hE:Stable E) {k:Nat} (hk:k<ds.length)
  (hbel:Below w.heap.size w w1) (hhi:hi≤w.heap.size):
  ∃g,A=some ⟨g,0,none⟩∧lo≤g∧g<hi∧(∀j,w1.frozen? ⟨g,j,none⟩=false)∧(∃cs:List Value,cs.length=width∧ ∀j (hj:j<cs.length),w1.cell? ⟨g,k*width+j,none⟩=some cs[j])∧
   ∀w2 cs' d' Fe',cs'.length=width→E w1 cs' d' Fe'→Fe'.Nodup→(∀b∈Fe',w.heap.size≤b∧b<w1.heap.size)→
    (∀pre cs post,pre.length=k*width→cs.length=width→w1.ownsRow 0 t width (.slice A m cap) ds.length (pre++cs++post)→w2.ownsRow 0 t width (.slice A m cap) ds.length (pre++cs'++post))→
    w1.grownBy w2 (some g)→OwnL E t width lo w2.heap.size w2 (.slice A m cap) (ds.set k d'):=by
 obtain⟨F,⟨es,h1,h2,h3,rfl⟩,hnF,hF⟩:=h
 have hl:es.length=ds.length:=by rw[←h1];simp
 rw[hl] at h3
 obtain⟨p,x,q,rfl,hp⟩: ∃p x q,es=p++x::q∧p.length=k:=⟨es.take k,es[k],es.drop (k+1),by rw[←List.drop_eq_getElem_cons (by omega),List.take_append_drop],by simp;omega⟩
 obtain⟨A',cap',hv,_,_,_,hg⟩:=owns_form h3
 obtain⟨g,hA,hge,_⟩:=hg (by omega)
 injection hv with e1 e2 e3
 subst e1 e2 e3 hA
 obtain⟨cs,d,Fe⟩:=x
 have hgF:=hF g (by simp[Value.ownBlock])
 have hx:=h2 (cs,d,Fe) (by simp)
 have hx1:cs.length=width:=hx.1
 have h4:=ownsRow_keep h3 (w':=w1) fun b hb=>hbel.block b (by simp[Value.ownBlock] at hb;omega)
 simp only[List.map_append,List.map_cons,List.flatten_append,List.flatten_cons,Value.ownBlock,Option.toList_some] at h4 hnF hF
 have hpl:((p.map (·.1)).flatten).length=k*width:=by
  rw[flat_width p fun e he=>(h2 e (by simp[he])).1,hp]
 have hng:=(List.nodup_append.1 hnF).2.2 g (by simp)
 have hn2:=(List.nodup_append.1 hnF).2.1
 obtain⟨np,nq,npq⟩:=List.nodup_append.1 hn2
 obtain⟨nF,nq2,nFq⟩:=List.nodup_append.1 nq
 have hlen:=h4.1
 simp only[List.length_append,hpl,hx1] at hlen
 refine⟨g,rfl,hgF.1,hgF.2,fun j=>h4.frozenAt j,⟨cs,hx1,fun j hj=> ?_⟩,?_⟩
 ·have hj':k*width+j<ds.length*width:=by omega
  rw[h4.cellAt _ hj',List.getElem?_append_right (by omega),hpl,Nat.add_sub_cancel_left,List.getElem?_append_left hj,List.getElem?_eq_getElem hj]
 ·intro w2 cs' d' Fe' hcs' hE' hnd' hFe' hrow hg2
  have hsz:=hbel.size
  have hsz2:=hg2.size
  have hold: ∀e,e∈p∨e∈q→ ∀b∈e.2.2,lo≤b∧b<hi∧b≠g:=by
   intro e he b hb
   have hbm:b∈(p.map (·.2.2)).flatten∨b∈(q.map (·.2.2)).flatten:=by
    rcases he with he | he
    ·exact .inl (List.mem_flatten.2 ⟨e.2.2,List.mem_map.2 ⟨e,he,rfl⟩,hb⟩)
    ·exact .inr (List.mem_flatten.2 ⟨e.2.2,List.mem_map.2 ⟨e,he,rfl⟩,hb⟩)
   have hm:b∈(p.map (·.2.2)).flatten++(Fe++(q.map (·.2.2)).flatten):=by
    rcases hbm with hbm | hbm
    ·exact List.mem_append.2 (.inl hbm)
    ·exact List.mem_append.2 (.inr (List.mem_append.2 (.inr hbm)))
   have:=hF b (List.mem_append.2 (.inr hm))
   exact⟨this.1,this.2,fun e'=>hng b hm e'.symm⟩
  have keep: ∀e,e∈p∨e∈q→E w2 e.1 e.2.1 e.2.2:=by
   intro e he
   have h0:E w e.1 e.2.1 e.2.2:=by
    rcases he with he | he
    ·exact(h2 e (by simp[he])).2
    ·exact(h2 e (by simp[he])).2
   refine hE _ _ _ _ _ h0 fun b hb=> ?_
   have:=hold e he b hb
   rw[hg2.block b (by omega) (fun e=>this.2.2 (by injection e)),hbel.block b (by omega)]
  refine⟨g::((p.map (·.2.2)).flatten++(Fe'++(q.map (·.2.2)).flatten)),⟨p++(cs',d',Fe')::q,?_,?_,?_,?_⟩,?_,?_⟩
  ·rw[←h1]
   simp only[List.map_append,List.map_cons]
   rw[List.set_append_right _ _ (by simp[hp]),List.length_map,hp,Nat.sub_self,List.set_cons_zero]
  ·intro e he
   simp only[List.mem_append,List.mem_cons] at he
   rcases he with he | rfl | he
   ·exact⟨(h2 e (by simp[he])).1,keep e (.inl he)⟩
   ·exact⟨hcs',hE _ _ _ _ _ hE' fun b hb=>hg2.block b (hFe' b hb).2 fun e=>by injection e with e;have:=hFe' b hb;omega⟩
   ·exact⟨(h2 e (by simp[he])).1,keep e (.inr he)⟩
  ·have:=hrow (p.map (·.1)).flatten cs (q.map (·.1)).flatten hpl hx1 (by simpa using h4)
   simp only[List.map_append,List.map_cons,List.flatten_append,List.flatten_cons,List.length_append,List.length_cons,List.append_assoc] at this hl⊢
   rw[hl]
   exact this
  ·simp[Value.ownBlock]
  ·have hpm: ∀b∈(p.map (·.2.2)).flatten,b<hi∧b≠g:=fun b hb=>by
    obtain⟨l,hl',hbl⟩:=List.mem_flatten.1 hb
    obtain⟨e,he,rfl⟩:=List.mem_map.1 hl'
    exact(hold e (.inl he) b hbl).2
   have hqm: ∀b∈(q.map (·.2.2)).flatten,b<hi∧b≠g:=fun b hb=>by
    obtain⟨l,hl',hbl⟩:=List.mem_flatten.1 hb
    obtain⟨e,he,rfl⟩:=List.mem_map.1 hl'
    exact(hold e (.inr he) b hbl).2
   rw[List.nodup_cons]
   refine⟨fun hm=> ?_,List.nodup_append.2 ⟨np,List.nodup_append.2 ⟨hnd',nq2,fun a ha b hb hab=> ?_⟩,fun a ha b hb hab=> ?_⟩⟩
   ·rcases List.mem_append.1 hm with hm | hm
    ·exact(hpm g hm).2 rfl
    ·rcases List.mem_append.1 hm with hm | hm
     ·have:=hFe' g hm;omega
     ·exact(hqm g hm).2 rfl
   ·have:=hFe' a ha;have:=hqm b hb;omega
   ·rcases List.mem_append.1 hb with hb | hb
    ·have:=hFe' b hb;have:=hpm a ha;omega
    ·exact npq a ha b (List.mem_append.2 (.inr hb)) hab
  ·intro b hb
   rcases List.mem_cons.1 hb with rfl | hb
   ·omega
   ·rcases List.mem_append.1 hb with hb | hb
    ·obtain⟨l,hl',hbl⟩:=List.mem_flatten.1 hb
     obtain⟨e,he,rfl⟩:=List.mem_map.1 hl'
     have:=hold e (.inl he) b hbl
     omega
    ·rcases List.mem_append.1 hb with hb | hb
     ·have:=hFe' b hb;omega
     ·obtain⟨l,hl',hbl⟩:=List.mem_flatten.1 hb
      obtain⟨e,he,rfl⟩:=List.mem_map.1 hl'
      have:=hold e (.inr he) b hbl
      omega
theorem OwnL.same {cs:List Value} {d:α} {n:Nat} (hcs:cs.length=width) (hel:E w cs d []) (hrow:w.ownsRow 0 t width v n (List.replicate n cs).flatten) (hb: ∀b,v.ownBlock=some b→lo≤b∧b<hi):
  OwnL E t width lo hi w v (List.replicate n d):=by
 refine⟨v.ownBlock.toList,⟨List.replicate n (cs,d,[]),by simp,fun e he=> ?_,by simpa using hrow,by simp⟩,?_,fun b hb'=>hb b (by simpa using hb')⟩
 ·obtain⟨_,rfl⟩:=List.mem_replicate.1 he
  exact⟨hcs,hel⟩
 ·cases v.ownBlock<;>simp
theorem set_grown (w:World) (g j:Nat) (u:Value):w.grownBy (w.setCell ⟨g,j,none⟩ u) (some g):=
 ⟨rfl,rfl,rfl,by simp,fun b _ hb=>Below.heap_setCell w _ u b (fun e=>hb (by rw[e]))⟩
end
end Go.Proofs.YteobmaambgmdbaaGreat
namespace Go.Proofs.YteobmaambgmdbaaGreat
set_option maxRecDepth 20000
set_option linter.unusedVariables false
set_option linter.unusedSimpArgs false
open Go.RowKit
abbrev OIIs (lo hi:Nat) (v:Value) (L:List (List Int)) (w:World):Prop:=OwII lo hi v L w
theorem OIIs.ob {lo:Nat} {v:Value} {L:List (List Int)} {w:World} (h:OIIs lo w.heap.size v L w):Ob (OIIs lo w.heap.size v L) lo w.heap.size w:=
 ⟨h,fun _ _ hu hb=>OwnL.keep hu EI.stable hb,Nat.le_refl _⟩
section
variable {w w':World} {v:Value} {ds:List (List Int)} {lo hi:Nat}
theorem ArgI.same {xs:List Int} (h:ArgI w v xs) (hs: ∀b,b<w.heap.size→w'.heap[b]? =w.heap[b]?):ArgI w' v xs:=by
 obtain⟨A,cap,hv,hc,hm,hr,hx⟩:=h
 refine⟨A,cap,hv,hc,hm,hr,fun h0=> ?_⟩
 obtain⟨b,off,hA,hx⟩:=hx h0
 refine⟨b,off,hA,fun i hi=> ?_⟩
 rw[World.cell?_of_block (w:=w) (hs b (World.block_lt_of_cell? w _ (hx i hi)))]
 exact hx i hi
end
end Go.Proofs.YteobmaambgmdbaaGreat
namespace Go.Proofs.YteobmaambgmdbaaGreat
set_option maxRecDepth 20000
set_option linter.unusedVariables false
set_option linter.unusedSimpArgs false
open Go.RowKit
end Go.Proofs.YteobmaambgmdbaaGreat
namespace Go.Proofs.YteobmaambgmdbaaGreat
set_option maxRecDepth 20000
set_option linter.unusedVariables false
set_option linter.unusedSimpArgs false
open Go.RowKit
def lt (x:Int):List UInt8:=
 if x=1 then [97] else if x=2 then [98] else if x=3 then [99] else if x= -1 then [65] else if x= -2 then [66] else if x= -3 then [67] else []
end Go.Proofs.YteobmaambgmdbaaGreat
namespace Go.Proofs.YteobmaambgmdbaaGreat
set_option maxRecDepth 20000
set_option linter.unusedVariables false
set_option linter.unusedSimpArgs false
open Go.RowKit
end Go.Proofs.YteobmaambgmdbaaGreat
namespace Go.Proofs.YteobmaambgmdbaaGreat
set_option maxRecDepth 20000
set_option linter.unusedVariables false
set_option linter.unusedSimpArgs false
open Go.RowKit
def PartsL (base:Nat) (w:World) (v:Value) (L:List (List Int)):Prop:=
 ∃vs:List Value,vs.length=L.length∧w.ownsRow base 27 1 v L.length vs∧ ∀i (h:i<L.length) (h':i<vs.length),RdI w vs[i] L[i]
theorem PartsL.rd {base:Nat} {w:World} {v:Value} {L:List (List Int)} (h:PartsL base w v L):RdII w v L:=by
 obtain⟨vs,h1,h2,h3⟩:=h
 exact⟨vs,h1,RdV.of_own h2,h3⟩
theorem PartsL.form {base:Nat} {w:World} {v:Value} {L:List (List Int)} (h:PartsL base w v L): ∃A cap,v= .slice A L.length cap∧L.length≤cap∧cap≤maxLen:=by
 obtain⟨vs,h1,h2,h3⟩:=h
 obtain⟨A,cap,hv,hc,hm,_⟩:=owns_form h2
 exact⟨A,cap,hv,hc,hm⟩
theorem PartsL.lt {base:Nat} {w:World} {v:Value} {L:List (List Int)} (h:PartsL base w v L) (b:Nat) (hb:v.ownBlock=some b):base≤b∧b<w.heap.size:=by
 obtain⟨vs,h1,h2,h3⟩:=h
 exact h2.lt b hb
theorem PartsL.below {base:Nat} {w w':World} {v:Value} {L:List (List Int)} (h:PartsL base w v L) (hb:Below w.heap.size w w'):PartsL base w' v L:=by
 obtain⟨vs,h1,h2,h3⟩:=h
 exact⟨vs,h1,ownsRow_below h2 hb,fun i hi hi'=>(h3 i hi hi').below hb⟩
theorem PartsL.alloc {base:Nat} {w:World} {v:Value} {L:List (List Int)} (h:PartsL base w v L) (o:Obj):PartsL base (w.alloc o) v L:=h.below ((Below.refl _ _).alloc (Nat.le_refl _) _)
theorem PartsL.drewN {base:Nat} {w:World} {v:Value} {L:List (List Int)} (h:PartsL base w v L) (k:Nat):PartsL base (w.drewN k) v L:=h
theorem PartsL.nil (w:World) {base:Nat} (hb:base≤w.heap.size):PartsL base (w.alloc (.cells #[] 27)) (.slice (some ⟨w.heap.size,0,none⟩) 0 0) []:=
 ⟨[],rfl,rows_lit w [] (by simp) hb,fun i h=>absurd h (by simp)⟩
theorem PartsL.lit (w:World) (vs:List Value) (L:List (List Int)) (hl:vs.length=L.length) (h: ∀i (h:i<L.length) (h':i<vs.length),RdI w vs[i] L[i]) (hm:L.length≤1099511627776) {base:Nat} (hb:base≤w.heap.size):
  PartsL base (w.alloc (.cells vs.toArray 27)) (.slice (some ⟨w.heap.size,0,none⟩) L.length L.length) L:=
 ⟨vs,hl,by have:=rows_lit w vs (by omega) hb;rw[hl] at this;exact this,fun i h1 h2=>(h i h1 h2).alloc _⟩
end Go.Proofs.YteobmaambgmdbaaGreat
namespace Go.Proofs.YteobmaambgmdbaaGreat
set_option maxRecDepth 20000
set_option linter.unusedVariables false
set_option linter.unusedSimpArgs false
open Go.RowKit
end Go.Proofs.YteobmaambgmdbaaGreat
namespace Go.Proofs.YteobmaambgmdbaaGreat
set_option maxRecDepth 20000
set_option linter.unusedVariables false
set_option linter.unusedSimpArgs false
open Go.RowKit
end Go.Proofs.YteobmaambgmdbaaGreat
namespace Go.Proofs.YteobmaambgmdbaaGreat
set_option maxRecDepth 20000
set_option linter.unusedVariables false
set_option linter.unusedSimpArgs false
open Go.RowKit
end Go.Proofs.YteobmaambgmdbaaGreat
namespace Go.Proofs.YteobmaambgmdbaaGreat
set_option maxRecDepth 20000
set_option linter.unusedVariables false
set_option linter.unusedSimpArgs false
open Go.RowKit
theorem getD_app_l (a b:List Int) (i:Nat) (h:i<a.length):(a++b).getD i 0=a.getD i 0:=by
 simp only[List.getD];rw[List.getElem?_append_left h]
theorem getD_app_r (a b:List Int) (i:Nat) (h:a.length≤i):(a++b).getD i 0=b.getD (i-a.length) 0:=by
 simp only[List.getD];rw[List.getElem?_append_right h]
def redP (xs:List Int):Prop:= ∀i,i+1<xs.length→invB (xs.getD i 0) (xs.getD (i+1) 0)=false
theorem redP_take {xs:List Int} (h:redP xs) (k:Nat):redP (xs.take k):=by
 intro i hi
 simp only[List.length_take] at hi
 have e1: ∀j,j<k→(xs.take k).getD j 0=xs.getD j 0:=fun j hj=>by simp only[List.getD,List.getElem?_take];rw[if_pos hj]
 rw[e1 i (by omega),e1 (i+1) (by omega)]
 exact h i (by omega)
theorem redP_snoc {xs:List Int} {x:Int} (h:redP xs) (hx:0<xs.length→invB (xs.getLastD 0) x=false):redP (xs++ [x]):=by
 intro i hi
 simp only[List.length_append,List.length_singleton] at hi
 rcases Nat.lt_or_eq_of_le (Nat.le_of_lt_succ (show i+1<xs.length+1 by omega)) with h1 | h1
 ·rw[getD_app_l _ _ _ (by omega),getD_app_l _ _ _ h1]
  exact h i h1
 ·rw[getD_app_l _ _ _ (by omega),getD_app_r _ _ _ (by omega),h1,Nat.sub_self]
  have:=hx (by omega)
  rw[last_get (by omega)] at this
  have e:i=xs.length-1:=by omega
  subst e
  simpa[List.getD,show xs.length-1<xs.length by omega] using this
theorem red1_red {acc:List Int} {x:Int} (h:redP acc):redP (red1 acc x):=by
 unfold red1
 split
 ·rw[List.dropLast_eq_take];exact redP_take h _
 ·rename_i hn
  refine redP_snoc h fun h0=> ?_
  cases hb:invB (acc.getLastD 0) x with
  | false=>rfl
  | true=>exact absurd ⟨h0,hb⟩ hn
theorem redL_red {acc xs:List Int} (h:redP acc):redP (redL acc xs):=by
 unfold redL
 induction xs generalizing acc with
 | nil=>exact h
 | cons x xs ih=>exact ih (red1_red h)
theorem redP_nil:redP []:=fun i hi=>by simp at hi
theorem redL_id {acc xs:List Int} (h:redP (acc++xs)):redL acc xs=acc++xs:=by
 unfold redL
 induction xs generalizing acc with
 | nil=>simp
 | cons x xs ih=>
   have e:red1 acc x=acc++ [x]:=by
    unfold red1
    rw[if_neg]
    rintro⟨h0,hb⟩
    have:=h (acc.length-1) (by simp;omega)
    rw[getD_app_l _ _ _ (by omega),getD_app_r _ _ _ (by omega),show acc.length-1+1-acc.length=0 by omega] at this
    rw[last_get h0] at hb
    have e2:acc.getD (acc.length-1) 0=acc[acc.length-1]:=by simp[List.getD,show acc.length-1<acc.length by omega]
    rw[e2] at this
    simp only[List.getD_cons_zero] at this
    rw[this] at hb
    cases hb
   rw[List.foldl_cons,e,ih (by simpa using h)]
   simp
theorem redL_mem {acc xs:List Int} {x:Int} (h:x∈redL acc xs):x∈acc∨x∈xs:=by
 unfold redL at h
 induction xs generalizing acc with
 | nil=>exact .inl h
 | cons y xs ih=>
   rcases ih h with h | h
   ·unfold red1 at h
    split at h
    ·exact .inl (List.dropLast_subset _ h)
    ·rcases List.mem_append.1 h with h | h
     ·exact .inl h
     ·right;simp at h;simp[h]
   ·right;simp[h]
theorem okAt_red {r:Int} {xs:List Int} (h:redP xs) (hx: ∀x∈xs,letB r x=true) (i:Nat) (hi:i<xs.length):okAt r xs i=true:=by
 unfold okAt
 have e:xs.getD i 0=xs[i]:=by simp[List.getD,hi]
 rw[e,hx _ (by simp),←e]
 by_cases h0:0<i
 ·have:=h (i-1) (by omega)
  rw[show i-1+1=i by omega] at this
  rw[this];simp
 ·simp[h0]
end Go.Proofs.YteobmaambgmdbaaGreat
namespace Go.Proofs.YteobmaambgmdbaaGreat
set_option maxRecDepth 20000
set_option linter.unusedVariables false
set_option linter.unusedSimpArgs false
open Go.RowKit
end Go.Proofs.YteobmaambgmdbaaGreat
namespace Go.Proofs.YteobmaambgmdbaaGreat
set_option maxRecDepth 20000
set_option linter.unusedVariables false
set_option linter.unusedSimpArgs false
open Go.RowKit
def letR (r:Int) (w:List Int):Prop:= ∀x∈w,x≠0∧ -r≤x∧x≤r
theorem letR_redL {r:Int} {w:List Int} (h:letR r w):letR r (redL [] w):=fun x hx=>by
 rcases redL_mem hx with h' | h'
 ·cases h'
 ·exact h x h'
set_option maxHeartbeats 1000000 in
theorem l2Of_any (p:Nat) (A:Option Addr) (cap:Nat) (cs:List Int) (r m:Int) (w:World) (h:Cur p A cap cs w) (hr1:1≤r) (hr3:r≤3) (hm0:0≤m) (hm:m≤100):
  Calls Tryz.prog 88 #[.pointer (some ⟨p,0,none⟩), .int .i64 r, .int .i64 m] w fun e w'=> ∃v xs,e= .returned v∧OwI w' w.heap.size v xs∧(xs.length≤m∧letR r xs∧redP xs)∧Cur p A cap cs w'∧Tr p (p+1) w w':=by
 have H:=hDD h
 have hp:=h.lt
 clear h
 have HA:Hid (Cur p A cap cs (w.alloc (.cells #[] 3))):=hDD (H.out.below ((Below.refl _ _).alloc (Nat.le_refl _) _))
 have HO:Hid (OwI (w.alloc (.cells #[] 3)) w.heap.size (.slice (some ⟨w.heap.size,0,none⟩) 0 0) []):=hDD (OwI_lit w [] I64s_nil (by simp) (Nat.le_refl _))
 have HT:Hid (Tr p (p+1) w (w.alloc (.cells #[] 3))):=hDD ⟨rfl,rfl,rfl,by simp,fun k hk _=>Below.heap_alloc w _ k hk⟩
 have hw1:IntKind.i64.wrap (m+1)=m+1:=by rw[IntKind.wrap_i64];omega
 go_enter Tryz.func88,Tryz.ntmps88
 go_wp2_with fail
 refine(l1Below_any p A cap cs (m+1) _ HA.out (by omega) (by omega)).mono ?_
 rintro e w1 ⟨n0,rfl,⟨n1,n2⟩,c1,t1⟩
 have C1:=hDD c1
 have O1:=hDD (HO.out.trP t1 hp)
 have T1:Hid (Tr p (p+1) w w1):=hDD (HT.out.trans t1)
 clear c1 t1 HA HO HT
 go_wp2
 go_loopw [7,8] (fun wv nv wr=> ∃(k:Int) (ws:List Int),nv= .int .i64 k∧0≤k∧k+ws.length≤m∧letR r ws∧OwI wr w.heap.size wv ws∧Cur p A cap cs wr∧Tr p (p+1) w wr)
  (fun _ nv _=>(intOf nv).toNat)
 case atStart=>exact⟨n0,[],rfl,n1,by simp;omega,fun x hx=>(by cases hx),O1.out,C1.out,T1.out⟩
 case round=>
  obtain⟨k,ws,rfl,hk0,hkm,hlet,hO,hC,hT⟩:=hrel
  have HO:=hDD hO
  have HC:=hDD hC
  have HT:=hDD hT
  have HLT:=hDD hlet
  have hsz:=hT.size
  obtain⟨Aw,cw,rfl,_⟩:=hO.form
  clear hO hC hT hlet
  by_cases hlt:0<k
  ·go_wp2_with (first
    | (go_at_call 73;(with_reducible refine(l1Below_any p A cap cs r _ HC.out (by omega) (by omega)).mono ?_);rintro e w2 ⟨x,rfl,⟨x0,x1⟩,c2,t2⟩;have C2:=hDD c2;have O2:=hDD (HO.out.trP t2 hp);have T2:=hDD (HT.out.trans t2);clear c2 t2)
    | (go_at_call 58;(with_reducible refine(l1Once_any p A cap cs 2 _ C2.out (by omega) (by omega)).mono ?_);rintro e w3 ⟨bb,rfl,c3,t3⟩;have C3:=hDD c3;have O3:=hDD (O2.out.trP t3 hp);have T3:=hDD (T2.out.trans t3);have hs3:=T3.out.size;clear c3 t3;have hwx:IntKind.i64.wrap (1+x)=1+x:=(by rw[IntKind.wrap_i64];omega);have hwn:IntKind.i64.wrap (-(1+x))= -(1+x):=(by rw[IntKind.wrap_i64];omega);have HX1:Hid (I64 (1+x)):=hDD ⟨by omega,by omega⟩;have HX2:Hid (I64 (-(1+x))):=hDD ⟨by omega,by omega⟩)
    | ((at_builtin;refine push_int rfl (.tmp 27) (.tmp 29) rfl _ _ _ (OwI.alloc O3.out _) rfl _ _ rfl (cell_new1 _ _ _) HX1.out (by first | omega | (simp<;>omega)) (by first | omega | (simp<;>omega)) ?_;intro v4 wv4 o4 g4 p4);have G4:=hDD g4;have O4:=hDD o4;obtain⟨A4,m4,c4,rfl⟩:=o4.any2;clear o4 g4 p4)
    | ((at_builtin;refine push_int rfl (.tmp 27) (.tmp 29) rfl _ _ _ (OwI.alloc O3.out _) rfl _ _ rfl (cell_new1 _ _ _) HX2.out (by first | omega | (simp<;>omega)) (by first | omega | (simp<;>omega)) ?_;intro v4 wv4 o4 g4 p4);have G4:=hDD g4;have O4:=hDD o4;obtain⟨A4,m4,c4,rfl⟩:=o4.any2;clear o4 g4 p4))
   all_goals (
    have C4:=hDD ((C3.out.below ((Below.refl _ _).alloc (Nat.le_refl _) _)).new H.out G4.out (fun b hb=>(O3.out.1.lt b hb).1))
    have T4:=hDD ((T3.out.bel2 ((Below.refl _ _).alloc (Nat.le_refl _) _)).grow2 G4.out (fun b hb=>(O3.out.1.lt b hb).1))
    have hwk:IntKind.i64.wrap (k-1)=k-1:=by rw[IntKind.wrap_i64];omega
    go_roundw
    case rel=>
     refine⟨k-1,_,by go_num,by omega,by simp;omega,fun y hy=> ?_,O4.out,C4.out,T4.out⟩
     rcases List.mem_append.1 hy with hy | hy
     ·exact HLT.out y hy
     ·rw[List.mem_singleton] at hy;subst hy;omega
    case measure=>(simp[intOf];omega))
  ·have HGL:Hid (redP (redL [] ws)):=hDD (redL_red redP_nil)
   have hlr:(redL [] ws).length≤m:=by have:=redL_len [] ws;simp at this;omega
   have hlw:ws.length≤1073741824:=by omega
   go_wp2_with (go_at_call 35;(with_reducible refine(specReduceLetters_any _ ws _ HO.out.rd hlw).mono ?_);rintro e w5 ⟨r5,rfl,o5,b5⟩;have O5:=hDD o5;have B5:=hDD b5;obtain⟨A5,m5,c5,rfl⟩:=o5.any2;clear o5 b5)
   exact bodyPost_ret (v:= .slice A5 m5 c5) (by simp[results,Tryz.results88,go_sem]) rfl ⟨_,_,rfl,O5.out.mono hsz,⟨hlr,letR_redL HLT.out,HGL.out⟩,HC.out.below B5.out,HT.out.bel2 B5.out⟩
end Go.Proofs.YteobmaambgmdbaaGreat
namespace Go.Proofs.YteobmaambgmdbaaGreat
set_option maxRecDepth 20000
set_option linter.unusedVariables false
set_option linter.unusedSimpArgs false
open Go.RowKit
inductive Sp where
 | val (c:Value)
 | own (p:World→Value→Prop) (h: ∀W W' v,p W v→Below W.heap.size W W'→p W' v)
 | new (p:World→Value→Prop) (h: ∀W W' v,p W v→Below W.heap.size W W'→p W' v)
 | cp (j:Nat)
def Sp.R (vs:Nat→Value):Sp→World→Value→Prop
 | .val c,_,v=>v=c
 | .own p _,W,v=>p W v
 | .new p _,W,v=>p W v∧ ∀b,v.ownBlock=some b→b<W.heap.size
 | .cp j,_,v=>v=vs j
def Sp.S (vs:Nat→Value):Sp→World→World→Value→Prop
 | .val c,_,_,v=>v=c
 | .own p _,_,W',v=>p W' v
 | .new p _,W,W',v=>p W' v∧ ∀b,v.ownBlock=some b→W.heap.size≤b∧b<W'.heap.size
 | .cp j,_,_,v=>v=vs j
def Sp.fr:Sp→Bool
 | .new _ _=>true
 | _=>false
theorem Sp.stable (vs:Nat→Value): ∀(s:Sp) {W W':World} {v:Value},s.R vs W v→Below W.heap.size W W'→s.R vs W' v
 | .val _,_,_,_,h,_=>h
 | .own _ h,W,W',v,hv,hb=>h W W' v hv hb
 | .new _ h,W,W',v,hv,hb=>⟨h W W' v hv.1 hb,fun b e=>Nat.lt_of_lt_of_le (hv.2 b e) hb.size⟩
 | .cp _,_,_,_,h,_=>h
theorem Sp.made (vs:Nat→Value): ∀(s:Sp) {W W':World} {v:Value},s.S vs W W' v→s.R vs W' v
 | .val _,_,_,_,h=>h
 | .own _ _,_,_,_,h=>h
 | .new _ _,_,_,_,h=>⟨h.1,fun b e=>(h.2 b e).2⟩
 | .cp _,_,_,_,h=>h
def Sp.pick:Sp→Value→Value
 | .val c,_=>c
 | _,v=>v
theorem Sp.pick_of (vs:Nat→Value): ∀(s:Sp) {W:World} {v:Value},s.R vs W v→s.pick v=v
 | .val _,_,_,h=>h.symm
 | .own _ _,_,_,_=>rfl
 | .new _ _,_,_,_=>rfl
 | .cp _,_,_,_=>rfl
def reachB (l:List Oper):Nat→Nat→Nat→Bool
 | 0,_,_=>false
 | f+1,i,j=>match l[i]? with
   | none=>false
   | some o=>o.after.toList.any fun e=>Region.binds .any e&&(e.on==j||reachB l f e.on j)
def freB (l:List Oper):Bool:=
 Region.noSelect l.toArray&&(List.range l.length).all fun i=>match l[i]? with
  | none=>true
  | some o=>o.guard.isNone&&(o.after.all fun e=> !Region.binds .any e||decide (e.on<i))&&
    ((List.range l.length).all fun k=>match l[k]? with
      | none=>true
      | some o'=>(decide (i=k)|| !(o.dst==o'.dst)||o.dst.isNone)&&
        (match o'.dst with
         | none=>true
         | some t=> !(o.looksAt l.toArray).contains t||reachB l l.length i k||reachB l l.length k i))
def actV (S:Nat→Bool) (vs:Nat→Value):List Oper→Nat→Act→Act
 | [],_,b=>b
 | o::r,k,b=>actV S vs r (k+1) (if S k then b.put o.dst (vs k) else b)
section
variable {l:List Oper}
theorem fre_parts (h:freB l=true):Region.noSelect l.toArray=true∧ ∀i o,l[i]? =some o→o.guard=none∧(∀e∈o.after,Region.binds .any e=true→e.on<i)∧(∀k o',l[k]? =some o'→i≠k→ ∀d,o.dst=some d→o'.dst≠some d)∧
  ∀k o' t,l[k]? =some o'→o'.dst=some t→t∈o.looksAt l.toArray→reachB l l.length i k=true∨reachB l l.length k i=true:=by
 unfold freB at h
 rw[Bool.and_eq_true,List.all_eq_true] at h
 refine⟨h.1,fun i o ho=> ?_⟩
 have hi:i<l.length:=(List.getElem?_eq_some_iff.1 ho).1
 have h1:=h.2 i (List.mem_range.2 hi)
 rw[ho] at h1
 simp only[Bool.and_eq_true,Option.isNone_iff_eq_none,List.all_eq_true,List.mem_range] at h1
 obtain⟨⟨h2,h3⟩,h4⟩:=h1
 refine⟨h2,fun e he hb=> ?_,fun k o' hk hik d hd hd'=> ?_,fun k o' t hk ht hl=> ?_⟩
 ·have:=Array.all_eq_true_iff_forall_mem.1 h3 e he
  rw[hb] at this
  simpa using this
 ·have h5:=h4 k ((List.getElem?_eq_some_iff.1 hk).1)
  rw[hk] at h5
  simp only[Bool.and_eq_true,Bool.or_eq_true,decide_eq_true_eq] at h5
  rcases h5.1 with (h6 | h6) | h6
  ·exact hik h6
  ·rw[hd,hd'] at h6;simp at h6
  ·rw[hd] at h6;simp at h6
 ·have h5:=h4 k ((List.getElem?_eq_some_iff.1 hk).1)
  rw[hk] at h5
  simp only[Bool.and_eq_true] at h5
  have h6:=h5.2
  rw[ht] at h6
  simp only[Bool.or_eq_true,Bool.not_eq_true'] at h6
  rcases h6 with (h6 | h6) | h6
  ·rw[List.contains_iff_mem.2 hl] at h6;cases h6
  ·exact .inl h6
  ·exact .inr h6
theorem reach_listed {listed:Array Bool} (hc:Cl l.toArray listed): ∀(f i j:Nat),(∀o,l[i]? =some o→ ∀e∈o.after,Region.binds .any e=true→listed.getD e.on false=true)→reachB l f i j=true→listed.getD j false=true
 | 0,_,_,_,h=>by cases h
 | f+1,i,j,hi,h=>by
   unfold reachB at h
   cases ho:l[i]? with
   | none=>rw[ho] at h;cases h
   | some o=>
     rw[ho] at h
     simp only[List.any_eq_true,Array.mem_toList_iff,Bool.and_eq_true,Bool.or_eq_true,beq_iff_eq] at h
     obtain⟨e,he,hb,h⟩:=h
     have h1:=hi o ho e he hb
     rcases h with h | h
     ·rwa [←h]
     ·exact reach_listed hc f e.on j (fun o' ho' e' he' hb'=>hc.2 e.on o' (by simpa using ho') h1 e' he' hb') h
theorem reach_lt (hB:freB l=true): ∀(f i j:Nat),reachB l f i j=true→j<i
 | 0,_,_,h=>by cases h
 | f+1,i,j,h=>by
   unfold reachB at h
   cases ho:l[i]? with
   | none=>rw[ho] at h;cases h
   | some o=>
     rw[ho] at h
     simp only[List.any_eq_true,Array.mem_toList_iff,Bool.and_eq_true,Bool.or_eq_true,beq_iff_eq] at h
     obtain⟨e,he,hb,h⟩:=h
     have h1:=((fre_parts hB).2 i o ho).2.1 e he hb
     rcases h with h | h
     ·omega
     ·have:=reach_lt hB f e.on j h;omega
theorem put_size (a:Act) (d:Option Tmp) (v:Value):(a.put d v).tmps.size=a.tmps.size:=by
 cases d<;>simp[Act.put]
theorem actV_eval {vs:Nat→Value} {S S':Nat→Bool} {t:Tmp}: ∀(r:List Oper) (k:Nat) (b b':Act),b.tmps.size=b'.tmps.size→b.eval (.tmp t)=b'.eval (.tmp t)→
  (∀j o,r[j]? =some o→o.dst=some t→S (k+j)=S' (k+j))→(actV S vs r k b).eval (.tmp t)=(actV S' vs r k b').eval (.tmp t)
 | [],_,_,_,_,he,_=>he
 | o::r,k,b,b',hs,he,h=>by
   unfold actV
   have hz:(if S k then b.put o.dst (vs k) else b).tmps.size=(if S' k then b'.put o.dst (vs k) else b').tmps.size:=by
    split<;>split<;>simp only[put_size,hs]
   refine actV_eval r (k+1) _ _ hz ?_ fun j o' ho' hd'=>by have:=h (j+1) o' (by simpa using ho') hd';rwa [show k+(j+1)=k+1+j by omega] at this
   by_cases hd:o.dst=some t
   ·have h0:=h 0 o rfl hd
    rw[Nat.add_zero] at h0
    rw[←h0]
    split
    ·rw[hd]
     simp only[Act.put,Act.eval,Array.getD_eq_getD_getElem?]
     by_cases ht:t<b.tmps.size
     ·rw[Array.getElem?_setIfInBounds_self_of_lt ht,Array.getElem?_setIfInBounds_self_of_lt (hs▸ht)]
     ·rw[Array.getElem?_eq_none (by rw[Array.size_setIfInBounds];exact Nat.le_of_not_lt ht),Array.getElem?_eq_none (by rw[Array.size_setIfInBounds,←hs];exact Nat.le_of_not_lt ht)]
    ·exact he
   ·have e1: ∀(c:Act) (S:Nat→Bool),(if S k then c.put o.dst (vs k) else c).eval (.tmp t)=c.eval (.tmp t):=fun c S=>by
     split
     ·exact Act.eval_put fun d hd2 e=>hd (by rw[hd2];injection e with e;rw[e])
     ·rfl
    rw[e1,e1,he]
theorem actV_put {S:Nat→Bool} {vs:Nat→Value} {x:Option Tmp} {v:Value}: ∀(r:List Oper) (k:Nat) (b:Act),(∀o∈r,∀d,o.dst=some d→x≠some d)→(actV S vs r k b).put x v=actV S vs r k (b.put x v)
 | [],_,_,_=>rfl
 | o::r,k,b,h=>by
   unfold actV
   rw[actV_put r (k+1) _ fun o' ho'=>h o' (by simp[ho'])]
   congr 1
   split
   ·exact Act.put_comm _ _ _ fun d hd=>h o (by simp) d hd
   ·rfl
theorem actV_congr {S S':Nat→Bool} {vs vs':Nat→Value}: ∀(r:List Oper) (k:Nat) (b:Act),(∀j,j<r.length→S (k+j)=S' (k+j)∧(S (k+j)=true→vs (k+j)=vs' (k+j)))→actV S vs r k b=actV S' vs' r k b
 | [],_,_,_=>rfl
 | o::r,k,b,h=>by
   unfold actV
   have h0:=h 0 (by simp)
   rw[Nat.add_zero] at h0
   rw[actV_congr r (k+1) _ fun j hj=>by have:=h (j+1) (by simp;omega);rwa [show k+(j+1)=k+1+j by omega] at this]
   congr 1
   rw[←h0.1]
   split
   ·rename_i q;rw[h0.2 q]
   ·rfl
theorem actV_set {S:Nat→Bool} {vs:Nat→Value} {v:Value}: ∀(r:List Oper) (k:Nat) (b:Act) (i:Nat) (o:Oper),r[i]? =some o→S (k+i)=false→
  (∀j o',r[j]? =some o'→i≠j→ ∀d,o.dst=some d→o'.dst≠some d)→
  (actV S vs r k b).put o.dst v=actV (fun j=>S j||decide (j=k+i)) (fun j=>if j=k+i then v else vs j) r k b
 | [],_,_,_,_,h,_,_=>by simp at h
 | o'::r,k,b,0,o,h,hS,hd=>by
   obtain rfl:o'=o:=by simpa using h
   rw[Nat.add_zero] at hS
   unfold actV
   rw[hS,actV_put r (k+1) _ fun o2 ho2 d hd2 e=> ?_]
   ·simp only[Nat.add_zero,decide_true,Bool.or_true,if_true,Bool.false_eq_true,if_false]
    refine actV_congr r (k+1) _ fun j hj=>⟨by rw[decide_eq_false (by omega),Bool.or_false],fun _=>by rw[if_neg (by omega)]⟩
   ·obtain⟨j,hj⟩:=List.mem_iff_getElem?.1 ho2
    exact hd (j+1) o2 (by simpa using hj) (by omega) d e hd2
 | o'::r,k,b,i+1,o,h,hS,hd=>by
   unfold actV
   have e:k+(i+1)=k+1+i:=by omega
   rw[actV_set r (k+1) _ i o (by simpa using h) (by rw[←e];exact hS) fun j o2 hj hij=>hd (j+1) o2 (by simpa using hj) (by omega),e]
   congr 1
   have hk:decide (k=k+1+i)=false:=decide_eq_false (by omega)
   simp only[hk,Bool.or_false]
   rw[if_neg (show ¬k=k+1+i by omega)]
end
theorem wp_swap {P:Program} {o:Oper} {b b':Act} {W:World} {next:Act→World→Prop} {Q:Exit→Act→World→Prop} {G:Value→World→Prop} (he:execOp b'.eval o=execOp b.eval o)
  (h:o.wp P b W (fun c W'=> ∃v,c=b.put o.dst v∧G v W') (fun e _ _=>e= .outgrown∧False))
  (hz: ∀t,o.dst=some t→t<b.tmps.size) (hn: ∀v W',G v W'→next (b'.put o.dst v) W'):o.wp P b' W next Q:=by
 have key: ∀v W',(∃u,b.put o.dst v=b.put o.dst u∧G u W')→next (b'.put o.dst v) W':=fun v W' ⟨u,hu,hg⟩=>by
  have:=hn u W' hg
  cases hd:o.dst with
  | none=>rw[hd] at this;exact this
  | some t=>
    rw[hd] at this hu
    have e:v=u:=by
     have h1:=congrArg (fun c:Act=>c.tmps[t]?) hu
     simp only[Act.put] at h1
     rw[Array.getElem?_setIfInBounds_self_of_lt (hz t hd),Array.getElem?_setIfInBounds_self_of_lt (hz t hd)] at h1
     injection h1
    rw[e];exact this
 unfold Oper.wp at*
 rw[he]
 generalize (execOp b.eval o).run P W=r at*
 cases r with
 | ok n w'=>
   cases n<;>simp only[Oper.upon] at h⊢
   case value v=>exact key v w' h
   case skip=>exact key undef w' h
   case defer d=> 
    obtain⟨v,hv,_⟩:=h
    exfalso
    have h1:=congrArg (fun c:Act=>c.defers.length) hv
    have e1: ∀(c:Act) (v:Value),(c.put o.dst v).defers=c.defers:=fun c v=>by cases o.dst<;>rfl
    simp[e1] at h1
   case enter f args=>
    refine Calls.mono h fun e w'' he=> ?_
    cases e with
    | returned v=>exact key v w'' he
    | panicked c=>exact he.2.elim
    | outgrown=>obtain⟨_,_,h1⟩:=he;exact h1.2.elim
   case row row args=>exact Rows.mono h fun v w'' he=>key v w'' he
 | halt x w'=>cases x<;>simp only[Oper.upon] at h⊢ <;>exact h.2.elim
section
variable {P:Program} {l:List Oper} {L:List Sp} {w:World} {a:Act} {Q:Exit→Act→World→Prop}
theorem nlisted_set {listed:Array Bool} {i:Nat} (hi:i<listed.size) (h:listed.getD i false=false) (n:Nat) (hn:i<n):
  ((List.range n).filter fun j=> !(listed.setIfInBounds i true).getD j false).length+1=((List.range n).filter fun j=> !listed.getD j false).length:=by
 induction n with
 | zero=>omega
 | succ n ih=>
   rw[List.range_succ,List.filter_append,List.filter_append,List.length_append,List.length_append]
   by_cases e:i=n
   ·subst e
    have e1:(List.range i).filter (fun j=> !(listed.setIfInBounds i true).getD j false)=(List.range i).filter fun j=> !listed.getD j false:=by
     refine List.filter_congr fun j hj=> ?_
     rw[getD_set_ne false (by have:=List.mem_range.1 hj;omega)]
    have e2:(listed.setIfInBounds i true).getD i false=true:=by simp[hi]
    rw[e1]
    simp only[List.filter_cons,List.filter_nil,e2,h,Bool.not_true,Bool.not_false,Bool.false_eq_true,if_false,if_true,List.length_nil,List.length_singleton]
   ·have:=ih (by omega)
    simp only[List.filter_cons,List.filter_nil,getD_set_ne false e]
    omega
end
end Go.Proofs.YteobmaambgmdbaaGreat
namespace Go.Proofs.YteobmaambgmdbaaGreat
set_option maxRecDepth 20000
set_option linter.unusedVariables false
set_option linter.unusedSimpArgs false
open Go.RowKit
inductive Sg where
 | val (c:Value)
 | pur (q:(Nat→Value)→Value→Prop)
 | mem (p:(Nat→Value)→World→Value→Prop)
def Sg.R (vs:Nat→Value):Sg→World→Value→Prop
 | .val c,_,v=>v=c
 | .pur q,_,v=>q vs v
 | .mem p,W,v=>p vs W v
def Sg.isMem:Sg→Bool
 | .mem _=>true
 | _=>false
def Sg.pick:Sg→Value→Value
 | .val c,_=>c
 | _,v=>v
theorem Sg.pick_of (vs:Nat→Value): ∀(s:Sg) {W:World} {v:Value},s.R vs W v→s.pick v=v
 | .val _,_,_,h=>h.symm
 | .pur _,_,_,_=>rfl
 | .mem _,_,_,_=>rfl
def maskV (l:List Oper) (k:Nat) (vs:Nat→Value):Nat→Value:=fun j=>if reachB l l.length k j=true then vs j else undef
theorem mask_at {l:List Oper} {k j:Nat} {vs:Nat→Value} (h:reachB l l.length k j=true):maskV l k vs j=vs j:=if_pos h
def sgA (L:List Sg) (k:Nat):Sg:=L.getD k (.val undef)
def tnA (T:List (Option (World→World→Prop))) (k:Nat):World→World→Prop:=match T.getD k none with
 | none=>fun W W'=>W'=W
 | some t=>t
def clG (l:List Oper) (L:List Sg) (T:List (Option (World→World→Prop))):List (Nat×Nat):=
 (List.range l.length).flatMap fun i=>(List.range l.length).filterMap fun k=>if(sgA L i).isMem&&(T.getD k none).isSome&& !(i==k)&& !reachB l l.length i k then some (i,k) else none
def Stb (I:World→Prop) (L:List Sg) (T:List (Option (World→World→Prop))):List (Nat×Nat)→Prop
 | []=>True
 | q::r=>(∀vs W W' v,I W→I W'→tnA T q.2 W W'→(sgA L q.1).R vs W v→(sgA L q.1).R vs W' v)∧Stb I L T r
def Its (I:World→Prop):List (Option (World→World→Prop))→Prop
 | []=>True
 | none::r=>Its I r
 | some t::r=>(∀W W',I W→t W W'→I W')∧Its I r
theorem Its.at {I:World→Prop}: ∀ {T:List (Option (World→World→Prop))},Its I T→ ∀t,some t∈T→ ∀W W',I W→t W W'→I W'
 | none::r,h,t,ht=>by
   rcases List.mem_cons.1 ht with e | ht
   ·cases e
   ·exact Its.at (T:=r) h t ht
 | some u::r,h,t,ht=>by
   rcases List.mem_cons.1 ht with e | ht
   ·injection e with e;subst e;exact h.1
   ·exact Its.at (T:=r) h.2 t ht
theorem Stb.at {I:World→Prop} {L:List Sg} {T:List (Option (World→World→Prop))}: ∀ {X:List (Nat×Nat)},Stb I L T X→ ∀q∈X,∀vs W W' v,I W→I W'→tnA T q.2 W W'→(sgA L q.1).R vs W v→(sgA L q.1).R vs W' v
 | _::_,h,q,hq=>by
   rcases List.mem_cons.1 hq with rfl | hq
   ·exact h.1
   ·exact h.2.at q hq
def Obw (P:Program) (J:Nat→World→Prop) (l:List Oper) (L:List Sg) (T:List (Option (World→World→Prop))) (vs:Nat→Value) (Q:Exit→Act→World→Prop):List Oper→List Sg→Nat→Act→Prop
 | [],_,_,b=> ∀W',Hid (J l.length W')→Hid (∀j,j<l.length→(sgA L j).R (maskV l j vs) W' (vs j))→Q .normal b W'
 | _::_,[],_,_=>False
 | o::r,s::ss,k,b=>(∀W K Q0,Hid (J k W)→Hid (∀j,reachB l l.length k j=true→(sgA L j).R (maskV l j vs) W (vs j))→Hid (∀v W',tnA T k W W'→s.R (maskV l k vs) W' v→K (b.put o.dst v) W')→o.wp P b W K Q0)∧Obw P J l L T vs Q r ss (k+1) (b.put o.dst (s.pick (vs k)))
section
variable {P:Program} {I Hs:World→Prop} {D:List Nat} {J:Nat→World→Prop} {l:List Oper} {L:List Sg} {T:List (Option (World→World→Prop))} {w:World} {a:Act} {Q:Exit→Act→World→Prop}
def okD (l:List Oper) (D:List Nat) (i:Nat):Bool:=D.all fun d=>d==i||reachB l l.length d i
def JH (I Hs:World→Prop) (l:List Oper) (D:List Nat) (i:Nat) (W:World):Prop:=I W∧(okD l D i=true→Hs W)
def ItD (I Hs:World→Prop) (D:List Nat) (T:List (Option (World→World→Prop))):Nat→List (Option (World→World→Prop))→Prop
 | _,[]=>True
 | k,none::r=>ItD I Hs D T (k+1) r
 | k,some t::r=>(k∈D∨ ∀W W',I W→Hs W→t W W'→Hs W')∧ItD I Hs D T (k+1) r
theorem ItD.at {I Hs:World→Prop} {D:List Nat} {T:List (Option (World→World→Prop))}: ∀ {r:List (Option (World→World→Prop))} {k:Nat},ItD I Hs D T k r→ ∀i t,r[i]? =some (some t)→k+i∈D∨ ∀W W',I W→Hs W→t W W'→Hs W'
 | none::r,k,h,i,t,ht=>by
   cases i with
   | zero=>simp at ht
   | succ i=>have:=ItD.at (r:=r) (k:=k+1) h i t (by simpa using ht);rwa [show k+1+i=k+(i+1) by omega] at this
 | some u::r,k,h,i,t,ht=>by
   cases i with
   | zero=>simp at ht;subst ht;exact h.1
   | succ i=>have:=ItD.at (r:=r) (k:=k+1) h.2 i t (by simpa using ht);rwa [show k+1+i=k+(i+1) by omega] at this
theorem obw_at {vs:Nat→Value} (hvs: ∀j,j<l.length→(sgA L j).pick (vs j)=vs j): ∀(r:List Oper) (ss:List Sg) (k:Nat) (b:Act),(∀j,r[j]? =l[k+j]?)→(∀j,ss.getD j (.val undef)=sgA L (k+j))→Obw P J l L T vs Q r ss k b→
  (∀i o,r[i]? =some o→ ∀W K Q0,Hid (J (k+i) W)→Hid (∀j,reachB l l.length (k+i) j=true→(sgA L j).R (maskV l j vs) W (vs j))→Hid (∀v W',tnA T (k+i) W W'→(sgA L (k+i)).R (maskV l (k+i) vs) W' v→K ((actV (fun j=>decide (j<k+i)) vs r k b).put o.dst v) W')→o.wp P (actV (fun j=>decide (j<k+i)) vs r k b) W K Q0)∧
  (∀W',Hid (J l.length W')→Hid (∀j,j<l.length→(sgA L j).R (maskV l j vs) W' (vs j))→Q .normal (actV (fun _=>true) vs r k b) W')
 | [],_,_,_,_,_,h=>⟨fun i o ho=>by simp at ho,h⟩
 | _::_,[],_,_,_,_,h=>h.elim
 | o::r,s::ss,k,b,hr,hs,h=>by
   obtain⟨h1,h2⟩:=h
   have hs0:s=sgA L k:=by simpa using hs 0
   have hk:k<l.length:=by
    have:=hr 0
    rw[Nat.add_zero] at this
    exact(List.getElem?_eq_some_iff.1 this.symm).1
   rw[hs0,hvs k hk] at h2
   have hn:=obw_at hvs r ss (k+1) _ (fun j=>by have:=hr (j+1);rw[show k+(j+1)=k+1+j by omega] at this;simpa using this) (fun j=>by have:=hs (j+1);rw[show k+(j+1)=k+1+j by omega] at this;simpa using this) h2
   refine⟨fun i o' ho'=> ?_,?_⟩
   ·cases i with
    | zero=>
      obtain rfl:o=o':=by simpa using ho'
      have e:actV (fun j=>decide (j<k+0)) vs (o::r) k b=b:=by
       unfold actV
       rw[decide_eq_false (by omega)]
       have: ∀(r:List Oper) (k2:Nat) (b:Act),k≤k2→actV (fun j=>decide (j<k+0)) vs r k2 b=b:=by
        intro r
        induction r with
        | nil=>intros;rfl
        | cons o r ih=>
          intro k2 b hk2
          unfold actV
          rw[decide_eq_false (by omega)]
          exact ih (k2+1) b (by omega)
       exact this r (k+1) b (by omega)
      rw[e,Nat.add_zero,←hs0]
      exact h1
    | succ i=>
      have e:k+(i+1)=k+1+i:=by omega
      have:=hn.1 i o' (by simpa using ho')
      rw[e]
      unfold actV
      rw[decide_eq_true (by omega)]
      exact this
   ·exact hn.2
theorem gen_any (hB:freB l=true) (hsz: ∀(i:Nat) (o:Oper),l[i]? =some o→ ∀t,o.dst=some t→t<a.tmps.size)
  (hIT: ∀t,some t∈T→ ∀W W',I W→t W W'→I W') (hHT:ItD I Hs D T 0 T) (hst:Stb I L T (clG l L T)) (h: ∀vs,Obw P (JH I Hs l D) l L T vs Q l L 0 a): ∀(fuel:Nat) (listed:Array Bool) (vs:Nat→Value) (W:World),
  ((List.range l.length).filter fun j=> !listed.getD j false).length=fuel→Cl l.toArray listed→I W→((∀d∈D,listed.getD d false=false)→Hs W)→(∀j,j<l.length→(sgA L j).pick (vs j)=vs j)→(∀j,listed.getD j false=true→(sgA L j).R (maskV l j vs) W (vs j))→
  wpAny P .any l.toArray Q fuel listed (actV (fun j=>listed.getD j false) vs l 0 a) W:=by
 have hI: ∀k W W',I W→tnA T k W W'→I W':=fun k W W' hi ht=>by
  unfold tnA at ht
  cases e:T.getD k none with
  | none=>rw[e] at ht;rw[show W'=W from ht];exact hi
  | some t=>
    rw[e] at ht
    refine hIT t ?_ W W' hi ht
    rw[List.getD_eq_getElem?_getD] at e
    cases e2:T[k]? with
    | none=>rw[e2] at e;cases e
    | some q=>rw[e2] at e;simp only[Option.getD_some] at e;subst e;exact List.mem_of_getElem? e2
 have hH: ∀k W W',I W→k∉D→Hs W→tnA T k W W'→Hs W':=fun k W W' hi hk hs ht=>by
  unfold tnA at ht
  cases e:T.getD k none with
  | none=>rw[e] at ht;rw[show W'=W from ht];exact hs
  | some t=>
    rw[e] at ht
    rw[List.getD_eq_getElem?_getD] at e
    cases e2:T[k]? with
    | none=>rw[e2] at e;cases e
    | some q=>
      rw[e2] at e;simp only[Option.getD_some] at e;subst e
      rcases hHT.at k t e2 with h | h
      ·rw[Nat.zero_add] at h;exact absurd h hk
      ·exact h W W' hi hs ht
 have all: ∀(listed:Array Bool) (vs:Nat→Value) (W:World),Cl l.toArray listed→I W→((∀d∈D,listed.getD d false=false)→Hs W)→(∀j,j<l.length→(sgA L j).pick (vs j)=vs j)→(∀j,listed.getD j false=true→(sgA L j).R (maskV l j vs) W (vs j))→(∀j,j<l.length→listed.getD j false=true)→Q .normal (actV (fun j=>listed.getD j false) vs l 0 a) W:=fun listed vs W hc hb hd hp hr hl=>by
  have:=(obw_at hp l L 0 a (fun j=>by rw[Nat.zero_add]) (fun j=>by rw[Nat.zero_add];rfl) (h vs)).2 W (hDD ⟨hb,fun ok=>hd fun d hd'=>by
   have h1:=List.all_eq_true.1 ok d hd'
   simp only[Bool.or_eq_true,beq_iff_eq] at h1
   rcases h1 with h1 | h1
   ·rw[Array.getD_eq_getD_getElem?,Array.getElem?_eq_none (by rw[hc.1,h1];simp)];rfl
   ·have h2:=reach_lt hB _ _ _ h1
    rw[Array.getD_eq_getD_getElem?,Array.getElem?_eq_none (by rw[hc.1];simp;omega)];rfl⟩) (hDD fun j hj=>hr j (hl j hj))
  rwa [actV_congr (S':=fun _=>true) (vs':=vs) l 0 a fun j hj=>by rw[Nat.zero_add];exact⟨hl j hj,fun _=>rfl⟩]
 have none_ready: ∀(listed:Array Bool),Cl l.toArray listed→Region.ready .any l.toArray listed= []→ ∀j,j<l.length→listed.getD j false=true:=fun listed hc hr j=>by
  induction j using Nat.strongRecOn with
  | _ j ih=>
    intro hj
    by_cases q:listed.getD j false=true
    ·exact q
    ·exfalso
     have:j∈Region.ready .any l.toArray listed:=by
      rw[mem_ready]
      refine⟨by rw[getD_tf (by rw[hc.1];simpa using hj)];simpa using q,l[j],by simp[hj],fun e he hb=> ?_⟩
      have:=((fre_parts hB).2 j l[j] (List.getElem?_eq_getElem hj)).2.1 e he hb
      exact ih e.on this (by omega)
     rw[hr] at this
     cases this
 intro fuel
 induction fuel with
 | zero=>
   intro listed vs W hf hc hb hd hp hr
   have hl: ∀j,j<l.length→listed.getD j false=true:=fun j hj=>by
    have:=List.filter_eq_nil_iff.1 (List.eq_nil_of_length_eq_zero hf) j (List.mem_range.2 hj)
    simpa using this
   refine⟨?_,all listed vs W hc hb hd hp hr hl⟩
   cases hq:Region.ready .any l.toArray listed with
   | nil=>rfl
   | cons i r=>
     obtain⟨h1,o,ho,_⟩:=mem_ready.1 (show i∈Region.ready .any l.toArray listed by rw[hq];simp)
     have hi:i<l.length:=by simpa using (Array.getElem?_eq_some_iff.1 ho).1
     rw[getD_tf (by rw[hc.1];simpa using hi),hl i hi] at h1
     cases h1
 | succ fuel ih=>
   intro listed vs W hf hc hb hd hp hr
   refine⟨fun h0=>all listed vs W hc hb hd hp hr (none_ready listed hc h0),fun i hi=> ?_⟩
   obtain⟨h1,o,ho,hdeps⟩:=mem_ready.1 hi
   have ho':l[i]? =some o:=by simpa using ho
   have hil:i<l.length:=(List.getElem?_eq_some_iff.1 ho').1
   have his:i<listed.size:=by rw[hc.1];simpa using hil
   have hif:listed.getD i false=false:=by rw[←getD_tf his];exact h1
   obtain⟨hgd,_,hdst,hlook⟩:=(fre_parts hB).2 i o ho'
   have hsel:=fun (cs:Array SelectCase) (b:Bool)=>Region.noSelect_spec (fre_parts hB).1 i o cs b ho
   have hob:=(obw_at hp l L 0 a (fun j=>by rw[Nat.zero_add]) (fun j=>by rw[Nat.zero_add];rfl) (h vs)).1 i o ho'
   rw[Nat.zero_add] at hob
   have hlst: ∀j,reachB l l.length i j=true→listed.getD j false=true:=fun j hj=>reach_listed hc l.length i j (fun o2 ho2 e he hb=>by rw[ho'] at ho2;injection ho2 with ho2;subst ho2;exact hdeps e he hb) hj
   have hno: ∀j,listed.getD j false=true→reachB l l.length j i=false:=fun j hj=>by
    cases q:reachB l l.length j i with
    | false=>rfl
    | true=>
      have:=reach_listed hc l.length j i (fun o2 ho2 e he hb=>hc.2 j o2 (by simpa using ho2) hj e he hb) q
      rw[hif] at this
      cases this
   have hwp:=hob W (fun c W'=> ∃v,c=(actV (fun j=>decide (j<i)) vs l 0 a).put o.dst v∧(tnA T i W W'∧(sgA L i).R (maskV l i vs) W' v)) (fun e _ _=>e= .outgrown∧False) (hDD ⟨hb,fun ok=>hd fun d hd'=>by
    have h1:=List.all_eq_true.1 ok d hd'
    simp only[Bool.or_eq_true,beq_iff_eq] at h1
    rcases h1 with h1 | h1
    ·rw[h1];exact hif
    ·cases q:listed.getD d false with
     | false=>rfl
     | true=>have:=hno d q;rw[h1] at this;cases this⟩) (hDD fun j hj=>hr j (hlst j hj)) (hDD fun v W' hbv hv=>⟨v,rfl,hbv,hv⟩)
   unfold wpOp
   simp only[ho]
   rw[if_pos (wanted_none hgd _)]
   refine .inl (wp_swap ?_ hwp (fun t ht=> ?_) fun v W' ⟨hbv,hv⟩=> ?_)
   ·refine execOp_congr o (fun cs b e=>hsel cs b e) fun x hx=> ?_
    cases x with
    | tmp t=>
      refine actV_eval l 0 a a rfl rfl fun k o' hk hd=> ?_
      rw[Nat.zero_add]
      have ht:t∈o.looksAt l.toArray:=List.mem_append_left _ (List.mem_filterMap.2 ⟨.tmp t,by simpa using hx,rfl⟩)
      rcases hlook k o' t hk hd ht with q | q
      ·rw[hlst k q,decide_eq_true (reach_lt hB _ _ _ q)]
      ·have hki:=reach_lt hB _ _ _ q
       rw[decide_eq_false (by omega)]
       cases hkl:listed.getD k false with
       | false=>rfl
       | true=>
         exfalso
         have:=hno k hkl
         rw[q] at this
         cases this
    | const v=>rfl
    | global g=>rfl
    | func f=>rfl
   ·have: ∀(S:Nat→Bool) (r:List Oper) (k:Nat) (b:Act),(actV S vs r k b).tmps.size=b.tmps.size:=by
     intro S r
     induction r with
     | nil=>intros;rfl
     | cons o r ih=>intro k b;unfold actV;rw[ih];split;exact put_size _ _ _;rfl
    rw[this]
    exact hsz i o ho' t ht
   ·have e:=actV_set (S:=fun j=>listed.getD j false) (vs:=vs) (v:=v) l 0 a i o ho' (by rw[Nat.zero_add];exact hif) fun j o2 hj hij d hd=>hdst j o2 hj hij d hd
    rw[Nat.zero_add] at e
    rw[e]
    rw[actV_congr (S':=fun j=>(listed.setIfInBounds i true).getD j false) (vs':=fun j=>if j=i then v else vs j) l 0 a fun j hj=>⟨by
     rw[Nat.zero_add]
     by_cases q:j=i
     ·subst q;simp[his]
     ·rw[decide_eq_false q,Bool.or_false,getD_set_ne false (fun e=>q e.symm)],fun _=>rfl⟩]
    have hset: ∀j,(listed.setIfInBounds i true).getD j false=true→j≠i→listed.getD j false=true:=fun j hj q=>by
     rwa [getD_set_ne false (fun e=>q e.symm)] at hj
    have hmask: ∀j,reachB l l.length j i=false→maskV l j (fun m=>if m=i then v else vs m)=maskV l j vs:=fun j hj=>by
     funext m
     unfold maskV
     by_cases q:m=i
     ·subst q;rw[if_neg (by simp[hj]),if_neg (by simp[hj])]
     ·simp only[if_neg q]
    have hii:reachB l l.length i i=false:=by
     cases q:reachB l l.length i i with
     | false=>rfl
     | true=>have:=reach_lt hB _ _ _ q;omega
    have hI':I W':=hI i W W' hb hbv
    refine ih (listed.setIfInBounds i true) _ W' ?_ (hc.set hi) hI' (fun hd'=> ?_) (fun j hj=> ?_) (fun j hj=> ?_)
    ·have:=nlisted_set his hif l.length hil
     omega
    ·have hni:i∉D:=fun hm=>by have:=hd' i hm;simp[his] at this
     exact hH i W W' hb hni (hd fun d hdm=>by
      have hne:i≠d:=fun e=>hni (e▸hdm)
      have:=hd' d hdm
      rwa [getD_set_ne false hne] at this) hbv
    ·by_cases q:j=i
     ·subst q;simp only[if_true];exact Sg.pick_of _ _ hv
     ·simp only[if_neg q];exact hp j hj
    ·by_cases q:j=i
     ·subst q;simp only[if_true];rw[hmask _ hii];exact hv
     ·simp only[if_neg q]
      have hjl:=hset j hj q
      rw[hmask j (hno j hjl)]
      have hjn:j<l.length:=by
       by_cases q:j<l.length
       ·exact q
       ·rw[Array.getD_eq_getD_getElem?,Array.getElem?_eq_none (by rw[hc.1];simpa using q)] at hjl
        cases hjl
      have hold:=hr j hjl
      cases hs:sgA L j with
      | val c=>rw[hs] at hold;exact hold
      | pur p=>rw[hs] at hold;exact hold
      | mem p=>
        cases ht:T.getD i none with
        | none=>
          have:W'=W:=by unfold tnA at hbv;rw[ht] at hbv;exact hbv
          rw[this,←hs];exact hold
        | some t=>
          rw[←hs]
          refine hst.at (j,i) ?_ _ W W' _ hb hI' hbv hold
          unfold clG
          refine List.mem_flatMap.2 ⟨j,List.mem_range.2 hjn,List.mem_filterMap.2 ⟨i,List.mem_range.2 hil,?_⟩⟩
          rw[if_pos]
          simp only[hs,ht,Sg.isMem,Option.isSome_some,hno j hjl,Bool.not_false,Bool.and_true,Bool.true_and]
          simpa using q
theorem wp_region_genH {id:Nat} (L:List Sg) (T:List (Option (World→World→Prop))) (I Hs:World→Prop) (D:List Nat) (X:List (Nat×Nat)) (hm:P.follows .mixedOrders=true) (hB:freB l=true) (hX:clG l L T=X) (hsz:(l.all fun o=>match o.dst with | some t=>decide (t<a.tmps.size) | none=>true)=true)
  (hI0:I w.drew) (hH0:Hs w.drew) (hIT:Its I T) (hHT:ItD I Hs D T 0 T) (hst:Stb I L T X)
  (h: ∀vs,Obw P (JH I Hs l D) l L T vs Q l L 0 a):(Code.region id l.toArray true).wp P Q a w:=by
 refine wp_region_any hm ?_
 subst hX
 have hv: ∀j,j<l.length→(sgA L j).pick ((sgA L j).pick undef)=(sgA L j).pick undef:=fun j _=>by cases sgA L j<;>rfl
 have h0: ∀j,(Array.replicate l.toArray.size false).getD j false=false:=fun j=>by
  simp only[Array.getD_eq_getD_getElem?,Array.getElem?_replicate]
  split<;>rfl
 have:=gen_any (P:=P) (Q:=Q) hB (fun i o ho t ht=>by
  have:=List.all_eq_true.1 hsz o (List.mem_of_getElem? ho)
  rw[ht] at this
  simpa using this) hIT.at hHT hst h l.toArray.size (Array.replicate l.toArray.size false) (fun j=>(sgA L j).pick undef) w.drew (by
   have:(List.range l.length).filter (fun j=> !(Array.replicate l.toArray.size false).getD j false)=List.range l.length:=List.filter_eq_self.2 fun j _=>by rw[h0];rfl
   rw[this];simp) ⟨by simp,fun j o _ hj=>by rw[h0] at hj;cases hj⟩ hI0 (fun _=>hH0) hv (fun j hj=>by rw[h0] at hj;cases hj)
 have e:actV (fun j=>(Array.replicate l.toArray.size false).getD j false) (fun j=>(sgA L j).pick undef) l 0 a=a:=by
  have: ∀(r:List Oper) (k:Nat) (b:Act),actV (fun j=>(Array.replicate l.toArray.size false).getD j false) (fun j=>(sgA L j).pick undef) r k b=b:=by
   intro r
   induction r with
   | nil=>intros;rfl
   | cons o r ih=>intro k b;unfold actV;rw[h0];exact ih _ _
  exact this l 0 a
 rw[e] at this
 exact this
theorem Obw.mono {J J':Nat→World→Prop} (hJ: ∀k W,J' k W→J k W) {vs:Nat→Value}: ∀ {r:List Oper} {ss:List Sg} {k:Nat} {b:Act},Obw P J l L T vs Q r ss k b→Obw P J' l L T vs Q r ss k b
 | [],_,_,_,h=>fun W' hj hr=>h W' (hDD (hJ _ _ hj.out)) hr
 | _::_,[],_,_,h=>h
 | _::_,_::_,_,_,h=>⟨fun W K Q0 hj hr hk=>h.1 W K Q0 (hDD (hJ _ _ hj.out)) hr hk,h.2.mono hJ⟩
theorem itD_nil {I:World→Prop} {T:List (Option (World→World→Prop))}: ∀(r:List (Option (World→World→Prop))) (k:Nat),ItD I (fun _=>True) [] T k r
 | [],_=>trivial
 | none::r,k=>itD_nil r (k+1)
 | some _::r,k=>⟨.inr fun _ _ _ _ _=>trivial,itD_nil r (k+1)⟩
theorem wp_region_gen {id:Nat} (L:List Sg) (T:List (Option (World→World→Prop))) (I:World→Prop) (X:List (Nat×Nat)) (hm:P.follows .mixedOrders=true) (hB:freB l=true) (hX:clG l L T=X) (hsz:(l.all fun o=>match o.dst with | some t=>decide (t<a.tmps.size) | none=>true)=true)
  (hI0:I w.drew) (hIT:Its I T) (hst:Stb I L T X)
  (h: ∀vs,Obw P (fun _=>I) l L T vs Q l L 0 a):(Code.region id l.toArray true).wp P Q a w:=
 wp_region_genH L T I (fun _=>True) [] X hm hB hX hsz hI0 trivial hIT (itD_nil T 0) hst fun vs=>(h vs).mono fun _ _ hj=>hj.1
end
end Go.Proofs.YteobmaambgmdbaaGreat
namespace Go.Proofs.YteobmaambgmdbaaGreat
set_option maxRecDepth 20000
set_option linter.unusedVariables false
set_option linter.unusedSimpArgs false
open Go.RowKit
def leafB (es:List EdD) (v:Nat):Bool:=decide (degL es v<2)|| !hasB (reachL es 0) v
def leafFrom (es:List EdD) (n:Nat):Nat→Nat→Int
 | 0,_=> -1
 | f+1,v=>if v<n then(if leafB es v then(v:Int) else leafFrom es n f (v+1)) else-1
def leafV (es:List EdD) (n:Nat):Int:=leafFrom es n (n-1) 1
theorem leafFrom_end (es:List EdD) (n f:Nat):leafFrom es n f n= -1:=by
 cases f with
 | zero=>rfl
 | succ f=>unfold leafFrom;rw[if_neg (Nat.lt_irrefl n)]
theorem leafFrom_hit {es:List EdD} {n v:Nat} (hv:v<n) (h:leafB es v=true):leafFrom es n (n-v) v=v:=by
 obtain⟨f,hf⟩: ∃f,n-v=f+1:=⟨n-v-1,by omega⟩
 rw[hf]
 unfold leafFrom
 rw[if_pos hv,if_pos h]
theorem leafFrom_miss {es:List EdD} {n v:Nat} (hv:v<n) (h:leafB es v=false):leafFrom es n (n-v) v=leafFrom es n (n-(v+1)) (v+1):=by
 obtain⟨f,hf⟩: ∃f,n-v=f+1:=⟨n-v-1,by omega⟩
 rw[hf]
 rw[leafFrom,if_pos hv,if_neg (by simp[h]),show n-(v+1)=f by omega]
set_option maxHeartbeats 2000000 in
theorem l8Leaf_any (v:Value) (g:GrD) (w:World) (h:ArgG w v g) (hg:grB g=true):
  Calls Tryz.prog 113 #[v] w fun e w'=>e= .returned (.int .i64 (leafV g.2.2 g.2.1.toNat))∧Below w.heap.size w w':=by
 have HG:=hDD h
 have HGR:=hDD hg
 obtain⟨_,hsz40,hl120,_⟩:=grB_parts hg
 have hu:inB 0 0 (wrap64 (g.2.1-1))=true:=by
  rw[IntWalk.wrap64_in _ ⟨by omega,by omega⟩]
  exact inB_iff.2 ⟨Int.le_refl _,by omega⟩
 have HU:=hDD hu
 obtain⟨N,hN⟩: ∃N:Nat,g.2.1=(N:Int):=⟨g.2.1.toNat,by omega⟩
 clear hu hg
 obtain⟨s,rfl,_,_,ha⟩:=h
 obtain⟨A,cap,rfl⟩:=ha.form
 obtain⟨r,n,es⟩:=g
 simp only at hN hsz40 hl120
 subst hN
 simp only[Int.toNat_natCast]
 have hN1:1≤N:=by omega
 have hN2:N≤40:=by omega
 obtain⟨R,hR⟩: ∃R,R=leafV es N:=⟨_,rfl⟩
 rw[←hR]
 have HR:=hDD hR
 clear hR ha hsz40
 have bx:Below w.heap.size w (w.alloc (Obj.cells #[Value.int IntKind.i64 r,Value.int IntKind.i64 N, .slice A es.length cap] 26)):=(by repeat(first | exact Below.refl _ _ | (refine Below.setCell ?_ (by first | omega | (simp<;>omega)) _) | (refine bel_drewN ?_ _) | (refine Below.drew ?_) | (refine Below.alloc ?_ (by first | omega | (simp<;>omega)) _)))
 have k0:(w.alloc (Obj.cells #[Value.int IntKind.i64 r,Value.int IntKind.i64 N, .slice A es.length cap] 26)).cell? ⟨w.heap.size,0,none⟩=some (.int .i64 r):=by simp[go_sem]
 have k1:(w.alloc (Obj.cells #[Value.int IntKind.i64 r,Value.int IntKind.i64 N, .slice A es.length cap] 26)).cell? ⟨w.heap.size,1,none⟩=some (.int .i64 N):=by simp[go_sem]
 have k2:(w.alloc (Obj.cells #[Value.int IntKind.i64 r,Value.int IntKind.i64 N, .slice A es.length cap] 26)).cell? ⟨w.heap.size,2,none⟩=some (.slice A es.length cap):=by simp[go_sem]
 have sx:w.heap.size<(w.alloc (Obj.cells #[Value.int IntKind.i64 r,Value.int IntKind.i64 N, .slice A es.length cap] 26)).heap.size:=by simp
 have BX:=hDD bx
 have K0:=hDD k0
 have K1:=hDD k1
 have K2:=hDD k2
 clear k0 k1 k2 bx
 go_enter Tryz.func113,Tryz.ntmps113
 go_wp2_with fail
 refine(reachedFrom_any _ (r,(N:Int),es) 0 _ (HG.out.below BX.out) HGR.out HU.out ⟨by decide,by decide⟩).mono ?_
 rintro e w1 ⟨rs,rfl,o1,b1⟩
 have HB:=hDD (BX.out.trans (b1.mono BX.out.size))
 have s1:=b1.size
 have hs0:w.heap.size<w1.heap.size:=by omega
 have q0:=(b1.cell (p:=⟨w.heap.size,0,none⟩) sx).trans K0.out
 have q1:=(b1.cell (p:=⟨w.heap.size,1,none⟩) sx).trans K1.out
 have q2:=(b1.cell (p:=⟨w.heap.size,2,none⟩) sx).trans K2.out
 have Q0:=hDD q0
 have Q1:=hDD q1
 have Q2:=hDD q2
 have O1:=hDD o1
 obtain⟨A1,cap1,rfl,_⟩:=o1.form
 have hrl:(reachL es 0).length≤100000:=by
  have:=iterR_len es 0 (es.length+1) hl120
  unfold reachL
  omega
 have HLB:Hid (∀v:Nat,leafB es v=(decide (degL es v<2)|| !hasB (reachL es 0) v)):=hDD fun v=>rfl
 clear q0 q1 q2 b1 o1 K0 K1 K2 s1 sx
 simp only at O1 hrl
 generalize reachL es 0=L at*
 go_wp2
 go_loopw [4] (fun i wr=> ∃k:Nat,1≤k∧k≤N∧i= .int .i64 k∧R=leafFrom es N (N-k) k∧Below w1.heap.size w1 wr) (fun i _=>N-(intOf i).toNat)
 case atStart=>exact⟨1,Nat.le_refl _,hN1,rfl,HR.out,Below.refl _ _⟩
 case round=>
  obtain⟨k,hk1,hk,rfl,hrem,hbel⟩:=hrel
  have HREM:=hDD hrem
  have HB2:=hDD hbel
  have HB3:=hDD (HB.out.trans (hbel.mono HB.out.size))
  have hsz:=hbel.size
  have p0:=(hbel.cell (p:=⟨w.heap.size,0,none⟩) hs0).trans Q0.out
  have p1:=(hbel.cell (p:=⟨w.heap.size,1,none⟩) hs0).trans Q1.out
  have p2:=(hbel.cell (p:=⟨w.heap.size,2,none⟩) hs0).trans Q2.out
  have OL:=hDD (O1.out.below hbel)
  clear hrem hbel
  by_cases hlt:k<N
  ·have hlti:(k:Int)<(N:Int):=by omega
   have hdle:degL es k≤240:=by have:=degL_le es k es.length;rw[List.take_length] at this;omega
   have LB:=hDD (HLB.out k)
   go_wp2_with fail
   refine(specDegreeOf_any _ (r,(N:Int),es) k _ (HG.out.below HB3.out) (by simp only;omega)).mono ?_
   rintro e w2 ⟨rfl,b2⟩
   have B2:=hDD b2
   have s2:=b2.size
   have OL2:=hDD (OL.out.below b2)
   clear b2
   simp only
   generalize degL es k=d at*
   by_cases hd:d<2
   ·have hdi:(d:Int)<2:=by omega
    have F:=hDD (leafFrom_hit hlt (by rw[LB.out];simp[hd]))
    go_wp2
    go_ret
    exact⟨ret_int (by rw[HREM.out,F.out]),HB3.out.trans (B2.out.mono (by omega))⟩
   ·have hdi: ¬(d:Int)<2:=by omega
    go_wp2_with fail
    refine(l4Has_any _ L k _ OL2.out.rd.arg (by omega)).mono ?_
    rintro e' w' ⟨rfl,rfl⟩
    rcases h1:hasB L k with _ | _
    ·have F:=hDD (leafFrom_hit hlt (by rw[LB.out,h1];simp))
     go_wp2
     go_ret
     exact⟨ret_int (by rw[HREM.out,F.out]),HB3.out.trans (B2.out.mono (by omega))⟩
    ·have F:=hDD (leafFrom_miss hlt (by rw[LB.out,h1];simp[hd]))
     go_wp2
     go_roundw
     case rel=>exact⟨k+1,by omega,by omega,by go_num,by rw[HREM.out,F.out],HB2.out.trans (B2.out.mono (by omega))⟩
     case measure=>simp[intOf];omega
  ·obtain rfl:k=N:=by omega
   have F:Hid (R= -1):=hDD (by rw[HREM.out,leafFrom_end])
   go_wp2
   go_ret
   exact⟨ret_int F.out.symm,HB3.out⟩
theorem cfold_take_ok {g:GrD} (hg:grB g=true) {u:Int} (ls:List Int) (k:Nat) {o:List Int} (h:OrdOk g.2.1 o):OrdOk g.2.1 ((ls.take k).foldl (cstep g.2.2 u) o):=cfold_ok hg _ h
theorem cstep_no {es:List EdD} {u x:Int} {o:List Int} (h: ¬0≤nextV es u x):cstep es u o x=o:=by unfold cstep;rw[if_neg h]
theorem cstep_in {es:List EdD} {u x:Int} {o:List Int} (h:0≤nextV es u x) (h1:hasB o (nextV es u x)=true):cstep es u o x=o:=by unfold cstep;rw[if_pos h,if_pos h1]
theorem cstep_new {es:List EdD} {u x:Int} {o:List Int} (h:0≤nextV es u x) (h1:hasB o (nextV es u x)=false):cstep es u o x=o++ [nextV es u x]:=by unfold cstep;rw[if_pos h,if_neg (by simp[h1])]
set_option maxHeartbeats 1000000 in
theorem specCanonicalOrder_any (v:Value) (g:GrD) (w:World) (h:ArgG w v g) (hf:foldB g=true):
  Calls Tryz.prog 144 #[v] w fun e w'=> ∃r,e= .returned r∧OwI w' w.heap.size r (canO g)∧Below w.heap.size w w':=by
 have HG:=hDD h
 obtain⟨hg,hfol⟩:=foldB_parts hf
 have HGR:=hDD hg
 have HF:=hDD hf
 have ONE:=hDD (steps_one hfol)
 obtain⟨hr13,hsz40,hl120,_⟩:=grB_parts hg
 obtain⟨A,cap,hv⟩: ∃A cap,v= .agg #[.int .i64 g.1, .int .i64 g.2.1, .slice A g.2.2.length cap]:=by
  obtain⟨s,hv,_,_,ha⟩:=h
  obtain⟨A,cap,rfl⟩:=ha.form
  exact⟨A,cap,hv⟩
 subst hv
 obtain⟨rn,hrn⟩: ∃rn:Nat,g.1=(rn:Int):=⟨g.1.toNat,by omega⟩
 have hrn1:1≤rn:=by omega
 have hrn3:rn≤3:=by omega
 have HCO:Hid (canO g=canF g.2.2 (lettersL rn) 41 0 [0]):=hDD (by unfold canO;rw[hrn];rfl)
 have OK0:=hDD (OrdOk.one (n:=g.2.1) (by omega))
 have OKS:Hid (∀(u:Int) (o:List Int) (k:Nat),OrdOk g.2.1 o→OrdOk g.2.1 (((lettersL rn).take k).foldl (cstep g.2.2 u) o)):=hDD fun u o k h=>cfold_take_ok hg _ k h
 have OKL:Hid (∀o:List Int,OrdOk g.2.1 o→o.length≤40):=hDD fun o h=>h.len (by omega) (by omega)
 have NV:Hid (∀u x,nextV g.2.2 u x= -1∨(0≤nextV g.2.2 u x∧nextV g.2.2 u x<41)):=hDD fun u x=>by
  rcases nextV_range hg u x with e | e
  ·exact .inl e
  ·exact .inr ⟨e.1,by omega⟩
 have HRN:=hDD hrn
 clear hg hf hfol h hrn
 have hr1:1≤g.1∧g.1≤3:=hr13
 clear hsz40 hl120 hr13
 have bx:Below w.heap.size w (w.alloc (Obj.cells #[Value.int IntKind.i64 g.1,Value.int IntKind.i64 g.2.1, .slice A g.2.2.length cap] 26)):=(by repeat(first | exact Below.refl _ _ | (refine Below.setCell ?_ (by first | omega | (simp<;>omega)) _) | (refine bel_drewN ?_ _) | (refine Below.drew ?_) | (refine Below.alloc ?_ (by first | omega | (simp<;>omega)) _)))
 have k0:(w.alloc (Obj.cells #[Value.int IntKind.i64 g.1,Value.int IntKind.i64 g.2.1, .slice A g.2.2.length cap] 26)).cell? ⟨w.heap.size,0,none⟩=some (.int .i64 g.1):=by simp[go_sem]
 have k1:(w.alloc (Obj.cells #[Value.int IntKind.i64 g.1,Value.int IntKind.i64 g.2.1, .slice A g.2.2.length cap] 26)).cell? ⟨w.heap.size,1,none⟩=some (.int .i64 g.2.1):=by simp[go_sem]
 have k2:(w.alloc (Obj.cells #[Value.int IntKind.i64 g.1,Value.int IntKind.i64 g.2.1, .slice A g.2.2.length cap] 26)).cell? ⟨w.heap.size,2,none⟩=some (.slice A g.2.2.length cap):=by simp[go_sem]
 have sx:w.heap.size<(w.alloc (Obj.cells #[Value.int IntKind.i64 g.1,Value.int IntKind.i64 g.2.1, .slice A g.2.2.length cap] 26)).heap.size:=by simp
 have BX:=hDD bx
 have K0:=hDD k0
 have K1:=hDD k1
 have K2:=hDD k2
 clear k0 k1 k2 bx
 go_enter Tryz.func144,Tryz.ntmps144
 go_wp2_with fail
 have hfo:=specIsFolded_any _ g _ (HG.out.below BX.out)
 rw[HF.out] at hfo
 have HFO:=hDD hfo
 clear hfo
 refine HFO.out.mono ?_
 rintro e w1 ⟨rfl,b1⟩
 clear HFO
 have HB:=hDD (BX.out.trans (b1.mono BX.out.size))
 have s1:=b1.size
 have hs0:w.heap.size<w1.heap.size:=by omega
 have q0:=(b1.cell (p:=⟨w.heap.size,0,none⟩) sx).trans K0.out
 have q1:=(b1.cell (p:=⟨w.heap.size,1,none⟩) sx).trans K1.out
 have q2:=(b1.cell (p:=⟨w.heap.size,2,none⟩) sx).trans K2.out
 clear b1 K0 K1 K2 s1 sx
 go_wp2_with fail
 have hb2:Below w1.heap.size w1 (w1.alloc (Obj.cells #[Value.int IntKind.i64 0] 3)):=(Below.refl _ _).alloc (Nat.le_refl _) _
 have o2:OwI (w1.alloc (Obj.cells #[Value.int IntKind.i64 0] 3)) w1.heap.size (.slice (some ⟨w1.heap.size,0,none⟩) 1 1) [0]:=OwI_lit w1 [0] (fun x hx=>by simp at hx;subst hx;exact⟨by decide,by decide⟩) (by simp) (Nat.le_refl _)
 have s2:w1.heap.size<(w1.alloc (Obj.cells #[Value.int IntKind.i64 0] 3)).heap.size:=by simp
 generalize w1.alloc (Obj.cells #[Value.int IntKind.i64 0] 3)=w2 at hb2 o2 s2⊢
 have hle:=l5Letters_any rn w2 (by omega)
 rw[←HRN.out] at hle
 have HLE:=hDD hle
 clear hle
 refine HLE.out.mono ?_
 rintro e w3 ⟨rl,rfl,ol,b3⟩
 have s3:=b3.size
 have hb13:=hb2.trans (b3.mono hb2.size)
 have HB3:=hDD (HB.out.trans (hb13.mono HB.out.size))
 have Q0:=hDD ((hb13.cell (p:=⟨w.heap.size,0,none⟩) hs0).trans q0)
 have Q1:=hDD ((hb13.cell (p:=⟨w.heap.size,1,none⟩) hs0).trans q1)
 have Q2:=hDD ((hb13.cell (p:=⟨w.heap.size,2,none⟩) hs0).trans q2)
 have O2:=hDD ((o2.below b3).mono (base':=w.heap.size+1) (by omega))
 have hll:=lettersL_len rn
 generalize lettersL rn=ls at*
 obtain⟨Al,capl,rfl,hcl,hml,_,hfl⟩:=ol.form
 obtain⟨bl,rfl,hbl1,hbl2⟩:=hfl (by omega)
 unfold maxLen at hml
 have OL:=hDD ol.rd
 have hblw:bl≠w1.heap.size:=by omega
 clear ol b3 hb2 o2 hb13 q0 q1 q2 hfl HLE
 go_wp2
 go_loopw [3,5] (fun out i wo=> ∃(k:Nat) (o:List Int),k≤o.length∧i= .int .i64 k∧OrdOk g.2.1 o∧canO g=canF g.2.2 ls (41-k) k o∧OwI wo (w.heap.size+1) out o∧RdI wo (.slice (some ⟨bl,0,none⟩) ls.length capl) ls∧out.ownBlock≠some bl∧bl<wo.heap.size∧Below (w.heap.size+1) w3 wo) (fun _ i _=>41-(intOf i).toNat)
 case atStart=>exact⟨0,[0],by simp,rfl,OK0.out,HCO.out,O2.out,OL.out,by simp[Value.ownBlock];omega,hbl2,Below.refl _ _⟩
 case round=>
  obtain⟨k,o,hk,rfl,hok,hco,hown,hrd,hne,hblt,hbel⟩:=hrel
  obtain⟨wo,rfl⟩: ∃wo:World,wo=wr:=⟨_,rfl⟩
  have hol:=OKL.out o hok
  have HOK:=hDD hok
  have HC:=hDD hco
  have HO:=hDD hown
  have HRD:=hDD hrd
  have HNE:=hDD hne
  have HB2:=hDD hbel
  have hsz:=hbel.size
  obtain⟨A1,cap1,rfl,_⟩:=hown.form
  clear hok hco hown hrd hne hbel
  by_cases hlt:k<o.length
  ·obtain⟨u,hu⟩: ∃u,o[k]? =some u:=⟨o[k],by simp⟩
   have hku:o[k]=u:=by rw[List.getElem?_eq_getElem hlt] at hu;injection hu
   have HCF:Hid (canO g=canF g.2.2 ls (41-(k+1)) (k+1) (ls.foldl (cstep g.2.2 u) o)):=hDD (by
    rw[HC.out,show 41-k=(41-(k+1))+1 by omega,canF_step _ _ _ _ _ hlt,hku])
   have HPU:Hid (∀m:Nat,(((ls.take m).foldl (cstep g.2.2 u) o))[k]? =some u):=hDD fun m=>cfold_prefix _ _ _ _ _ _ hu
   have HSU:Hid (∀(m:Nat) (hm:m<ls.length),(ls.take (m+1)).foldl (cstep g.2.2 u) o=cstep g.2.2 u ((ls.take m).foldl (cstep g.2.2 u) o) ls[m]):=hDD fun m hm=>cfold_succ _ _ _ _ _ hm
   have HOKm:Hid (∀m:Nat,OrdOk g.2.1 ((ls.take m).foldl (cstep g.2.2 u) o)):=hDD fun m=>OKS.out u o m HOK.out
   clear hu hku
   go_wp2
   go_loopw [3,6] (fun out j wr=> ∃m:Nat,m≤ls.length∧j= .int .i64 m∧OwI wr (w.heap.size+1) out ((ls.take m).foldl (cstep g.2.2 u) o)∧RdI wr (.slice (some ⟨bl,0,none⟩) ls.length capl) ls∧out.ownBlock≠some bl∧bl<wr.heap.size∧Below (w.heap.size+1) wo wr) (fun _ j _=>ls.length-(intOf j).toNat)
   case atStart=>exact⟨0,Nat.zero_le _,rfl,HO.out,HRD.out,HNE.out,hblt,Below.refl _ _⟩
   case round=>
    obtain⟨m,hm1,rfl,hown,hrd,hne,hblr,hbi⟩:=hrel
    have hsi:=hbi.size
    have HBI:=hDD hbi
    have HB4:=hDD (HB3.out.trans ((HB2.out.trans hbi).mono (by omega)))
    have hws:w.heap.size<wr.heap.size:=by omega
    have hbb:=HB2.out.trans hbi
    have p0:=(hbb.cell (p:=⟨w.heap.size,0,none⟩) (show w.heap.size<w.heap.size+1 by omega)).trans Q0.out
    have p1:=(hbb.cell (p:=⟨w.heap.size,1,none⟩) (show w.heap.size<w.heap.size+1 by omega)).trans Q1.out
    have p2:=(hbb.cell (p:=⟨w.heap.size,2,none⟩) (show w.heap.size<w.heap.size+1 by omega)).trans Q2.out
    have HRR:=hDD hrd
    have HNR:=hDD hne
    clear hbi hbb
    by_cases hlt2:m<ls.length
    ·have hokm:=HOKm.out m
     have hlm:=OKL.out _ hokm
     have hpu:=HPU.out m
     have HS:=hDD (HSU.out m hlt2)
     obtain⟨_,_,hAl,_,hcl⟩:=hrd.at (by omega)
     obtain⟨rfl,rfl⟩:bl=_∧0=_:=by simpa using hAl
     have c0:=hcl m hlt2
     rw[Nat.zero_add] at c0
     generalize ls[m]=x at c0 HS
     generalize (ls.take m).foldl (cstep g.2.2 u) o=om at*
     have hkm:k<om.length:=(List.getElem?_eq_some_iff.1 hpu).1
     have hkg:om[k]=u:=by rw[List.getElem?_eq_getElem hkm] at hpu;injection hpu
     have HOM:=hDD hown
     obtain⟨A2,cap2,rfl,_,_,_,hf2⟩:=hown.form
     obtain⟨b2,rfl,hb21,hb22⟩:=hf2 (by omega)
     have d0:=hown.cellAt k hkm
     rw[hkg] at d0
     have NX:=hDD (NV.out u x)
     have N0:=hDD (cstep_no (es:=g.2.2) (u:=u) (x:=x) (o:=om))
     have N1:=hDD (cstep_in (es:=g.2.2) (u:=u) (x:=x) (o:=om))
     have N2:=hDD (cstep_new (es:=g.2.2) (u:=u) (x:=x) (o:=om))
     have HNX:=hDD (fun W (h:ArgG W (.agg #[.int .i64 g.1, .int .i64 g.2.1, .slice A g.2.2.length cap]) g)=>specNextVertex_any _ g u x W h (ONE.out u x))
     clear hcl hAl hown hrd hf2 hpu hkg hokm
     go_wp2_with fail
     have f0:=BelW.cell p0 hws
     have f1:=BelW.cell p1 hws
     have f2:=BelW.cell p2 hws
     have f3:=BelW.cell c0 hblr
     have f4:=BelW.cell d0 hb22
     (refine wp_region_quiet_bel (by kernel_rfl) (by kernel_rfl) ?_;(repeat(go_big_quiet_step (first | (go_at_call 83;exact Calls.bel_of (HNX.out _ (HG.out.below (HB4.out.trans ((BelW.h _).mono (by omega)))))))));refine wpQuiet_nil ?_;intro wq hw';obtain⟨pq,hw''⟩:=hw';have bq:=pq.h;rw[←hw''] at bq;clear hw'' pq)
     clear f0 f1 f2 f3 f4 p0 p1 p2 c0 d0
     have sq:=bq.size
     have HQ:=hDD (HBI.out.trans (bq.mono (by omega)))
     have HOQ:=hDD (HOM.out.below bq)
     have HRQ:=hDD (HRR.out.below bq)
     clear bq
     generalize nextV g.2.2 u x=y at*
     rcases NX.out with hy | hy
     ·subst hy
      have F:=hDD (N0.out (by omega))
      go_wp2
      go_roundw
      case rel=>exact⟨m+1,by omega,by go_num,by rw[HS.out,F.out];exact HOQ.out,HRQ.out,HNR.out,by omega,HQ.out⟩
      case measure=>simp[intOf];omega
     ·have hy0:(0:Int)≤y:=hy.1
      have hy41:y<41:=hy.2
      go_wp2_with fail
      refine(l4Has_any _ om y _ HOQ.out.rd.arg (by omega)).mono ?_
      rintro e' w' ⟨rfl,rfl⟩
      rcases h1:hasB om y with _ | _
      ·have F:=hDD (N2.out hy0 h1)
       have HY:Hid (I64 y):=hDD ⟨by omega,by omega⟩
       go_wp2_with (at_builtin;refine push_int rfl (.tmp 46) (.tmp 48) rfl _ _ _ (OwI.alloc HOQ.out _) rfl _ _ rfl (cell_new1 _ _ _) HY.out (by first | omega | (simp<;>omega)) (by first | omega | (simp<;>omega)) ?_;intro v9 wv9 o9 g9 p9)
       have hz9:=g9.size
       simp at hz9
       go_roundw
       case rel=>
        refine⟨m+1,by omega,by go_num,by rw[HS.out,F.out];exact o9,(HRQ.out.alloc _).grown g9 (fun b hb hb'=> ?_),fun e=> ?_,by omega,bel_push HQ.out (by omega) HOQ.out.1 (Nat.le_refl _) g9⟩
        ·simp[Value.ownBlock] at hb hb'
         have:=HNR.out
         simp[Value.ownBlock] at this
         omega
        ·rcases p9 with p9 | p9
         ·rw[p9] at e;exact HNR.out e
         ·rw[p9] at e;simp at e;omega
       case measure=>simp[intOf];omega
      ·have F:=hDD (N1.out hy0 h1)
       go_wp2
       go_roundw
       case rel=>exact⟨m+1,by omega,by go_num,by rw[HS.out,F.out];exact HOQ.out,HRQ.out,HNR.out,by omega,HQ.out⟩
       case measure=>simp[intOf];omega
    ·obtain rfl:m=ls.length:=by omega
     rw[List.take_length] at hown
     have hokm:=HOKm.out ls.length
     rw[List.take_length] at hokm
     have HOKF:=hDD hokm
     have HOM:=hDD hown
     have hlen:k+1≤(ls.foldl (cstep g.2.2 u) o).length:=by
      have:=HPU.out ls.length
      rw[List.take_length] at this
      have:=(List.getElem?_eq_some_iff.1 this).1
      omega
     obtain⟨A2,cap2,rfl,_⟩:=hown.form
     clear hown hrd hne hokm p0 p1 p2
     go_wp2
     go_roundw
     case rel=>exact⟨k+1,_,hlen,by go_num,HOKF.out,HCF.out,HOM.out,HRR.out,HNR.out,hblr,HB2.out.trans HBI.out⟩
     case measure=>simp[intOf];omega
  ·obtain rfl:k=o.length:=by omega
   have F:Hid (canO g=o):=hDD (by rw[HC.out,canF_end])
   go_wp2
   go_ret
   exact⟨_,rfl,by rw[F.out];exact HO.out.mono (by omega),HB3.out.trans (HB2.out.mono (by omega))⟩
end Go.Proofs.YteobmaambgmdbaaGreat
