/- Parts of the proof: Cyc, Short, ShortL, Red, Exp, Der, EqnN, WhtP, MorF, AddP, FoldP, FoldU, CoreGS, FoldI, MerI. -/
import Derived.Test.YtlgcflpaekbopaaGreatW03
import Derived.Test.YtlgcflpaekbopaaGreatW02
import Derived.Deep.RegionHeld3
import Derived.Outline
import Derived.Test.YtlgcflpaekbopaaGreatW01
import Derived.Test.YtlgcflpaekbopaaGreatW04
namespace Go.Proofs.YtlgcflpaekbopaaGreat
set_option maxRecDepth 20000
set_option linter.unusedVariables false
set_option linter.unusedSimpArgs false
open Go.RowKit
theorem coreF_len2 {xs:List Int} {M:Nat} (h:xs.length≤M):(coreF xs).length≤M:=Nat.le_trans (coreF_len xs) h
set_option maxHeartbeats 400000 in
theorem specCyclicForm_any (v:Value) (xs:List Int) (w:World) (h:RdI w v xs) (hl:xs.length≤536870912):
  Calls Tryz.prog 26 #[v] w fun e w'=> ∃r,e= .returned r∧OwI w' w.heap.size r (cycF xs)∧Below w.heap.size w w':=by
 have H:=hDD h
 have hcl:=coreF_len2 hl
 obtain⟨A,cap,rfl,_⟩:=h.arg
 clear h
 go_enter Tryz.func26,Tryz.ntmps26
 go_wp2_with fail
 refine(specCyclicCore_any _ xs _ H.out hl).mono ?_
 rintro e w1 ⟨r1,s1,rfl,o1,p1,b1⟩
 have O1:=hDD o1
 have B1:=hDD b1
 have hs1:=b1.size
 clear o1 b1 p1
 go_wp2_with fail
 refine(specLeastRotation_any _ _ _ O1.out.rd hcl).mono ?_
 rintro e w2 ⟨r2,rfl,o2,b2⟩
 have O2:=hDD o2
 have B2:=hDD b2
 clear o2 b2
 go_wp2
 go_ret
 exact⟨_,rfl,O2.out.mono hs1,B1.out.trans (B2.out.mono hs1)⟩
set_option maxHeartbeats 400000 in
theorem implCyclicForm_any (v:Value) (xs:List Int) (w:World) (h:RdI w v xs) (hl:xs.length≤536870912):
  Calls Tryz.prog 73 #[v] w fun e w'=> ∃r,e= .returned r∧OwI w' w.heap.size r (cycF xs)∧Below w.heap.size w w':=by
 have H:=hDD h
 have hcl:=coreF_len2 hl
 obtain⟨A,cap,rfl,_⟩:=h.arg
 clear h
 go_enter Tryz.func73,Tryz.ntmps73
 go_wp2_with fail
 refine(implCyclicCore_any _ xs _ H.out hl).mono ?_
 rintro e w1 ⟨r1,s1,rfl,o1,p1,b1⟩
 have O1:=hDD o1
 have B1:=hDD b1
 have hs1:=b1.size
 clear o1 b1 p1
 go_wp2_with fail
 refine(implLeastRotation_any _ _ _ O1.out.rd hcl).mono ?_
 rintro e w2 ⟨r2,rfl,o2,b2⟩
 have O2:=hDD o2
 have B2:=hDD b2
 clear o2 b2
 go_wp2
 go_ret
 exact⟨_,rfl,O2.out.mono hs1,B1.out.trans (B2.out.mono hs1)⟩
set_option maxHeartbeats 400000 in
theorem implCyclicLength_any (v:Value) (xs:List Int) (w:World) (h:RdI w v xs) (hl:xs.length≤536870912):
  Calls Tryz.prog 114 #[v] w fun e w'=>e= .returned (.int .i64 (coreF xs).length)∧Below w.heap.size w w':=by
 have H:=hDD h
 obtain⟨A,cap,rfl,_⟩:=h.arg
 clear h
 go_enter Tryz.func114,Tryz.ntmps114
 go_wp2_with fail
 refine(implCyclicCore_any _ xs _ H.out hl).mono ?_
 rintro e w1 ⟨r1,s1,rfl,o1,p1,b1⟩
 have B1:=hDD b1
 obtain⟨A1,cap1,rfl,_⟩:=OwI.form o1
 clear o1 b1 p1
 go_wp2
 go_ret
 exact⟨rfl,B1.out⟩
end Go.Proofs.YtlgcflpaekbopaaGreat
namespace Go.Proofs.YtlgcflpaekbopaaGreat
set_option maxRecDepth 20000
set_option linter.unusedVariables false
set_option linter.unusedSimpArgs false
open Go.RowKit
theorem whM_imgs (r:Int) (d:WhD):(whM r d).2.length≤3∧ ∀b∈(whM r d).2,b.length≤3:=by
 unfold whM
 split
 ·rename_i h
  have:=inB_iff.1 (whB_rank h).1
  exact⟨by rw[whImgs_len];omega,whImgs_each d _⟩
 ·exact⟨by simp,fun b hb=>by cases hb⟩
theorem whX_len (r:Int) (d:WhD) (c:List Int):(whX r d c).length≤600:=by
 unfold whX
 have h:=expL_len (whM_imgs r d).2 c
 have:(c.take 200).length≤200:=by rw[List.length_take];omega
 omega
set_option maxHeartbeats 1000000 in
theorem l21Apply_any (r:Int) (v u:Value) (d:WhD) (c:List Int) (w:World) (hr:I64 r) (h:ArgWh w v d) (h':RdI w u c) (hl:d.2.length≤1073741824) (hc:c.length≤200):
  Calls Tryz.prog 75 #[.int .i64 r,v,u] w fun e w'=> ∃s,e= .returned s∧OwI w' w.heap.size s (cycF (whX r d c))∧Below w.heap.size w w':=by
 have H:=hDD h
 have H':=hDD h'
 obtain⟨s,rfl,hd,ha⟩:=h
 obtain⟨L,xs⟩:=d
 obtain⟨A,cap,rfl,hcap,hm,_⟩:=ha
 obtain⟨A',cap',rfl,hcap',hm',_⟩:=h'.arg
 have HR:=hDD hr
 clear hd h' hr
 have hx6:=whX_len r (L,xs) c
 have him:=whM_imgs r (L,xs)
 have HIM:=hDD him
 clear him
 go_enter Tryz.func75,Tryz.ntmps75
 go_wp2_with fail
 have hb0:Below w.heap.size w (w.alloc (Obj.cells #[Value.int IntKind.i64 L,Value.slice A xs.length cap] 26)):=(by repeat(first | exact Below.refl _ _ | (refine Below.setCell ?_ (by first | omega | (simp<;>omega)) _) | (refine bel_drewN ?_ _) | (refine Below.drew ?_) | (refine Below.alloc ?_ (by first | omega | (simp<;>omega)) _)))
 have HB0:=hDD hb0
 have H0:=hDD (H.out.below hb0)
 clear hb0
 generalize w.alloc (Obj.cells #[Value.int IntKind.i64 L,Value.slice A xs.length cap] 26)=w0 at HB0 H0⊢
 have hs0:=HB0.out.size
 refine(specWhiteheadMorphism_any r _ (L,xs) _ HR.out H0.out hl).mono ?_
 rintro e w1 ⟨s1,rfl,o1,b1⟩
 have O1:=hDD o1
 have B1:=hDD (HB0.out.trans (b1.mono hs0))
 obtain⟨A1,c1,rfl,_⟩:=o1.len
 clear o1 b1
 have hs1:=B1.out.size
 go_wp2_with fail
 have hb2:Below w1.heap.size w1 (w1.alloc (Obj.cells #[Value.int IntKind.i64 (whM r (L,xs)).1,Value.slice A1 (whM r (L,xs)).2.length c1] 31)):=(by repeat(first | exact Below.refl _ _ | (refine Below.setCell ?_ (by first | omega | (simp<;>omega)) _) | (refine bel_drewN ?_ _) | (refine Below.drew ?_) | (refine Below.alloc ?_ (by first | omega | (simp<;>omega)) _)))
 have R1:=hDD (O1.out.rd.below hb2)
 have R2:=hDD ((H'.out.below B1.out).below hb2)
 have B2:=hDD (B1.out.trans (hb2.mono hs1))
 clear hb2
 generalize w1.alloc (Obj.cells #[Value.int IntKind.i64 (whM r (L,xs)).1,Value.slice A1 (whM r (L,xs)).2.length c1] 31)=w2 at R1 R2 B2⊢
 have hs2:=B2.out.size
 refine(specExpandBy_any _ _ _ c _ R1.out R2.out (by have:=HIM.out.1;omega) (fun b hb=>by have:=HIM.out.2 b hb;omega) hc).mono ?_
 rintro e w3 ⟨s3,rfl,o3,b3⟩
 have O3:Hid (OwI w3 w2.heap.size s3 (whX r (L,xs) c)):=hDD o3
 have B3:=hDD (B2.out.trans (b3.mono hs2))
 obtain⟨A3,c3,rfl,_⟩:=o3.form
 clear o3 b3
 have hs3:=B3.out.size
 go_wp2_with fail
 refine(specCyclicForm_any _ (whX r (L,xs) c) _ O3.out.rd (by omega)).mono ?_
 rintro e w4 ⟨s4,rfl,o4,b4⟩
 have O4:=hDD o4
 have B4:=hDD (B3.out.trans (b4.mono hs3))
 clear o4 b4
 go_wp2
 go_ret
 exact⟨_,rfl,O4.out.mono hs3,B4.out⟩
theorem allWh_nums (r:Int):(allWh r).length≤1073741824∧ ∀d∈allWh r,d.2.length≤1073741824:=by
 have h:=allWh_cnt r
 have: ∀ds:List WhD,ds.length≤cntL cW ds∧ ∀d∈ds,d.2.length≤cntL cW ds:=by
  intro ds
  induction ds with
  | nil=>exact⟨by simp,fun d hd=>by cases hd⟩
  | cons d ds ih=>
    rw[cntL_cons]
    have:cW d=d.2.length+1:=rfl
    refine⟨by simp;omega,fun e he=> ?_⟩
    rcases List.mem_cons.1 he with rfl | he
    ·omega
    ·have:=ih.2 e he;omega
 exact⟨by have:=(this (allWh r)).1;omega,fun d hd=>by have:=(this (allWh r)).2 d hd;omega⟩
def ShRes (r:Int) (c:List Int) (lo:Nat) (w':World) (e:Ending):Prop:=
 match shortF r c with
 | some d=> ∃S F m,e= .returned (.tuple #[.agg #[.int .i64 d.1,S],F, .bool true])∧I64 d.1∧OwI w' lo S d.2∧(∀b,S.ownBlock=some b→b<m)∧OwI w' m F (cycF (whX r d c))∧lo≤m
 | none=> ∃F,e= .returned (.tuple #[.agg #[.int .i64 0, .slice none 0 0],F, .bool false])
set_option maxHeartbeats 2000000 in
theorem shorten_any (r:Int) (u:Value) (c:List Int) (w:World) (hr:I64 r) (h:RdI w u c) (hc:c.length≤200):
  Calls Tryz.prog 74 #[.int .i64 r,u] w fun e w'=>ShRes r c w.heap.size w' e∧Below w.heap.size w w':=by
 have H:=hDD h
 obtain⟨A,cap,rfl,hcap,hm,_⟩:=h.arg
 have HR:=hDD hr
 clear h hr
 have HN:=hDD (allWh_nums r)
 go_enter Tryz.func74,Tryz.ntmps74
 go_wp2_with fail
 have hb0:Below w.heap.size w (w.alloc (Obj.cells #[Value.int IntKind.i64 0,Value.slice none 0 0] 26)):=(by repeat(first | exact Below.refl _ _ | (refine Below.setCell ?_ (by first | omega | (simp<;>omega)) _) | (refine bel_drewN ?_ _) | (refine Below.drew ?_) | (refine Below.alloc ?_ (by first | omega | (simp<;>omega)) _)))
 have HB0:=hDD hb0
 have H0:=hDD (H.out.below hb0)
 have hq: ∀o,(w.alloc (Obj.cells #[Value.int IntKind.i64 0,Value.slice none 0 0] 26)).frozen? ⟨w.heap.size,o,none⟩=false:=fun o=>by simp[go_sem]
 have hq0:(w.alloc (Obj.cells #[Value.int IntKind.i64 0,Value.slice none 0 0] 26)).cell? ⟨w.heap.size,0,none⟩=some (.int .i64 0):=by simp[go_sem]
 have hq1:(w.alloc (Obj.cells #[Value.int IntKind.i64 0,Value.slice none 0 0] 26)).cell? ⟨w.heap.size,1,none⟩=some (.slice none 0 0):=by simp[go_sem]
 have hz0:w.heap.size<(w.alloc (Obj.cells #[Value.int IntKind.i64 0,Value.slice none 0 0] 26)).heap.size:=by simp
 clear hb0
 generalize w.alloc (Obj.cells #[Value.int IntKind.i64 0,Value.slice none 0 0] 26)=w0 at HB0 H0 hq hq0 hq1 hz0⊢
 refine(implAllWhitehead_any r _).mono ?_
 rintro e w1 ⟨lv,rfl,ol,bl⟩
 have OL:=hDD ol
 have HB1:=hDD (HB0.out.trans (bl.mono (Nat.le_of_lt hz0)))
 have H1:=hDD (H0.out.below bl)
 have hf1: ∀o,w1.frozen? ⟨w.heap.size,o,none⟩=false:=fun o=>(bl.frozen (p:=⟨w.heap.size,o,none⟩) hz0).trans (hq o)
 have hc0:w1.cell? ⟨w.heap.size,0,none⟩=some (.int .i64 0):=(bl.cell (p:=⟨w.heap.size,0,none⟩) hz0).trans hq0
 have hc1:w1.cell? ⟨w.heap.size,1,none⟩=some (.slice none 0 0):=(bl.cell (p:=⟨w.heap.size,1,none⟩) hz0).trans hq1
 have hz1:w.heap.size<w1.heap.size:=Nat.lt_of_lt_of_le hz0 bl.size
 obtain⟨Al,cl,rfl,hcl,hml,_⟩:=ol.len
 have HZ0:=hDD hz0
 clear ol bl hq hq0 hq1 hz0 H0 HB0
 unfold maxLen at hml
 have hnum:=HN.out.1
 go_wp2_with fail
 go_loopw [15] (fun i wr=> ∃k:Nat,k≤(allWh r).length∧i= .int .i64 k∧((allWh r).drop k).find? (fun d=>decide ((coreF (whX r d c)).length<c.length))=shortF r c∧Below w1.heap.size w1 wr)
  (fun i _=>(allWh r).length-(intOf i).toNat)
 case atStart=>exact⟨0,Nat.zero_le _,rfl,rfl,Below.refl _ _⟩
 case round=>
  obtain⟨k,hk,rfl,hfind,hbel⟩:=hrel
  have HF:=hDD hfind
  have hsz:=hbel.size
  have HB:=hDD hbel
  clear hfind
  by_cases hlt:k<(allWh r).length
  ·obtain⟨g,cs,Fe,rfl,hg0,hg1,hE,hcw,hFe,_,hcc,_⟩:=(OL.out.keep EWh.stable (w':=wr) fun b _ hb=>hbel.block b hb).focus EWh.stable hlt
   obtain⟨s0,rfl,hi0,ho0,rfl⟩:=hE
   have e0:=hcc 0 (by simp)
   have e1:=hcc 1 (by simp)
   simp only[List.getElem_cons_zero,List.getElem_cons_succ,Nat.add_zero] at e0 e1
   have HS:=hDD (find_succ r c k hlt)
   have hdl:=HN.out.2 (allWh r)[k] (by simp)
   have HO0:=hDD ho0
   have HFE:=hDD hFe
   have HI0:=hDD hi0
   have hgw:g<wr.heap.size:=by omega
   clear hcc hFe hi0 hbel ho0
   generalize (allWh r)[k]=d at e0 HS hdl HO0 HI0
   obtain⟨L,xs⟩:=d
   obtain⟨A2,c2,rfl,_⟩:=OwI.form HO0.out
   go_wp2_with fail
   have hb2:Below wr.heap.size wr (wr.alloc (Obj.cells #[Value.int IntKind.i64 L,Value.slice A2 xs.length c2] 26)):=(by repeat(first | exact Below.refl _ _ | (refine Below.setCell ?_ (by first | omega | (simp<;>omega)) _) | (refine bel_drewN ?_ _) | (refine Below.drew ?_) | (refine Below.alloc ?_ (by first | omega | (simp<;>omega)) _)))
   have HB2:=hDD (HB.out.trans (hb2.mono hsz))
   have AW:Hid (ArgWh (wr.alloc (Obj.cells #[Value.int IntKind.i64 L,Value.slice A2 xs.length c2] 26)) (.agg #[.int .i64 L, .slice A2 xs.length c2]) (L,xs)):=hDD ⟨_,rfl,HI0.out,HO0.out.arg.below hb2⟩
   have hx0:(wr.alloc (Obj.cells #[Value.int IntKind.i64 L,Value.slice A2 xs.length c2] 26)).cell? ⟨wr.heap.size,0,none⟩=some (.int .i64 L):=by simp[go_sem]
   have hx1:(wr.alloc (Obj.cells #[Value.int IntKind.i64 L,Value.slice A2 xs.length c2] 26)).cell? ⟨wr.heap.size,1,none⟩=some (.slice A2 xs.length c2):=by simp[go_sem]
   have hxz:wr.heap.size<(wr.alloc (Obj.cells #[Value.int IntKind.i64 L,Value.slice A2 xs.length c2] 26)).heap.size:=by simp
   clear hb2
   generalize wr.alloc (Obj.cells #[Value.int IntKind.i64 L,Value.slice A2 xs.length c2] 26)=w2 at HB2 AW hx0 hx1 hxz⊢
   have hs2:=HB2.out.size
   refine(implWhiteheadMorphism_any r _ (L,xs) _ HR.out AW.out hdl).mono ?_
   rintro e w3 ⟨s3,rfl,o3,b3⟩
   have O3:=hDD o3
   have HB3:=hDD (HB2.out.trans (b3.mono hs2))
   have hy0:=(b3.cell (p:=⟨wr.heap.size,0,none⟩) hxz).trans hx0
   have hy1:=(b3.cell (p:=⟨wr.heap.size,1,none⟩) hxz).trans hx1
   have hyz:=Nat.lt_of_lt_of_le hxz b3.size
   obtain⟨A3,c3,rfl,_⟩:=o3.len
   clear o3 b3 hx0 hx1 AW
   have hs3:=HB3.out.size
   go_wp2_with fail
   have hb4:Below w3.heap.size w3 (w3.alloc (Obj.cells #[Value.int IntKind.i64 (whM r (L,xs)).1,Value.slice A3 (whM r (L,xs)).2.length c3] 31)):=(by repeat(first | exact Below.refl _ _ | (refine Below.setCell ?_ (by first | omega | (simp<;>omega)) _) | (refine bel_drewN ?_ _) | (refine Below.drew ?_) | (refine Below.alloc ?_ (by first | omega | (simp<;>omega)) _)))
   have HB4:=hDD (HB3.out.trans (hb4.mono hs3))
   have R1:=hDD (O3.out.rd.below hb4)
   have R2:=hDD (H1.out.below HB4.out)
   have hu0:=(hb4.cell (p:=⟨wr.heap.size,0,none⟩) hyz).trans hy0
   have hu1:=(hb4.cell (p:=⟨wr.heap.size,1,none⟩) hyz).trans hy1
   have huz:=Nat.lt_of_lt_of_le hyz hb4.size
   clear hb4 hy0 hy1
   generalize w3.alloc (Obj.cells #[Value.int IntKind.i64 (whM r (L,xs)).1,Value.slice A3 (whM r (L,xs)).2.length c3] 31)=w4 at HB4 R1 R2 hu0 hu1 huz⊢
   have hs4:=HB4.out.size
   have HIM:=hDD (whM_imgs r (L,xs))
   have hx6:=whX_len r (L,xs) c
   refine(implExpandBy_any _ _ _ c _ R1.out R2.out (by have:=HIM.out.1;omega) (fun b hb=>by have:=HIM.out.2 b hb;omega) hc).mono ?_
   rintro e w5 ⟨s5,rfl,o5,b5⟩
   have O5:Hid (OwI w5 w4.heap.size s5 (whX r (L,xs) c)):=hDD o5
   have HB5:=hDD (HB4.out.trans (b5.mono hs4))
   have hv0:=(b5.cell (p:=⟨wr.heap.size,0,none⟩) huz).trans hu0
   have hv1:=(b5.cell (p:=⟨wr.heap.size,1,none⟩) huz).trans hu1
   have hvz:=Nat.lt_of_lt_of_le huz b5.size
   obtain⟨A5,c5,rfl,_⟩:=OwI.form O5.out
   clear o5 b5 hu0 hu1 R1 R2
   have hs5:=HB5.out.size
   go_wp2_with fail
   refine(implCyclicLength_any _ (whX r (L,xs) c) _ O5.out.rd (by omega)).mono ?_
   rintro e w6 ⟨rfl,b6⟩
   have HB6:=hDD (HB5.out.trans (b6.mono hs5))
   have O6:=hDD (O5.out.below b6)
   have hv0':=(b6.cell (p:=⟨wr.heap.size,0,none⟩) hvz).trans hv0
   have hv1':=(b6.cell (p:=⟨wr.heap.size,1,none⟩) hvz).trans hv1
   have hvz':=Nat.lt_of_lt_of_le hvz b6.size
   have hs6:=HB6.out.size
   clear b6 hv0 hv1 hvz
   rcases et:decide ((coreF (whX r (L,xs) c)).length<c.length) with _ | _
   ·have HF2:=HS.out
    rw[et] at HF2
    have HF3:Hid (((allWh r).drop (k+1)).find? (fun d=>decide ((coreF (whX r d c)).length<c.length))=shortF r c):=hDD (by rw[←HF.out,HF2];rfl)
    have et2: ¬(coreF (whX r (L,xs) c)).length<c.length:=by simpa using et
    clear HF2 et
    go_wp2
    go_roundw
    case rel=>exact⟨k+1,by omega,by go_num,HF3.out,HB6.out⟩
    case measure=>simp[intOf];omega
   ·have HF2:=HS.out
    rw[et] at HF2
    have HF3:Hid (shortF r c=some (L,xs)):=hDD (by rw[←HF.out,HF2];rfl)
    have et2:(coreF (whX r (L,xs) c)).length<c.length:=by simpa using et
    clear HF2 et
    have r0:=(HB6.out.cell (p:=⟨w.heap.size,0,none⟩) hz1).trans hc0
    have r1:=(HB6.out.cell (p:=⟨w.heap.size,1,none⟩) hz1).trans hc1
    have rf:=fun o=>(HB6.out.frozen (p:=⟨w.heap.size,o,none⟩) hz1).trans (hf1 o)
    have O6d:=hDD (O6.out.rd.drew)
    have HB6d:=hDD HB6.out.drew
    have hzz6:w.heap.size<w6.heap.size:=by omega
    have hneq:wr.heap.size≠w.heap.size:=by omega
    clear hc0 hc1 hf1 e0 e1
    go_wp2
    go_region_held3 (fun w'=>w'.cell? ⟨wr.heap.size,0,none⟩=some (.int .i64 L)∧w'.cell? ⟨wr.heap.size,1,none⟩=some (.slice A2 xs.length c2))
     (first | go_keep | exact⟨q0,q1⟩ | (constructor<;>(rw[World.cell?_of_block (setCell_block _ _ _ _ hneq),World.cell?_of_block (setCell_block _ _ _ _ hneq)];first | exact q0 | exact q1)))
     ((go_at_call 73;refine(implCyclicForm_any _ (whX r (L,xs) c) _ O6d.out (by omega)).mono ?_;rintro e w7 ⟨s7,rfl,o7,b7⟩;have O7:=hDD o7;have HB7:=hDD (HB6d.out.trans (b7.mono HB6d.out.size));have q0:=(b7.cell (p:=⟨wr.heap.size,0,none⟩) hvz').trans hv0';have q1:=(b7.cell (p:=⟨wr.heap.size,1,none⟩) hvz').trans hv1';have q2:=(b7.cell (p:=⟨w.heap.size,0,none⟩) hzz6).trans r0;have q3:=(b7.cell (p:=⟨w.heap.size,1,none⟩) hzz6).trans r1;have qf:=(fun o=>(b7.frozen (p:=⟨w.heap.size,o,none⟩) hzz6).trans (rf o));obtain⟨A7,c7,rfl,_⟩:=OwI.form o7;have hzz7:=Nat.lt_of_lt_of_le hzz6 b7.size;clear o7 b7))
    have hS:OwI w7 w.heap.size (.slice A2 xs.length c2) xs:=by
     refine OwI.alone ⟨ownsRow_keep HO0.out.1 fun b hb=> ?_,HO0.out.2⟩ fun b hb=> ?_
     ·have h1:=HFE.out b (by simp[hb])
      exact(HB7.out.block b h1.2.1).trans (HB.out.block b h1.2.1).symm
     ·have h1:=HFE.out b (by simp[hb])
      have:=HZ0.out
      omega
    have hSb: ∀b,(Value.slice A2 xs.length c2).ownBlock=some b→w0.heap.size≤b∧b<w1.heap.size:=fun b hb=>by
     have h1:=HFE.out b (by simp[hb])
     exact⟨h1.1,h1.2.1⟩
    have HSS:=hDD hS
    have HSB:=hDD hSb
    have HBF:=hDD (HB1.out.trans (HB7.out.mono (Nat.le_of_lt hz1)))
    clear hS hSb
    go_wp2
    refine bodyPost_ret (v:= .tuple #[.agg #[.int .i64 L, .slice A2 xs.length c2], .slice A7 (cycF (whX r (L,xs) c)).length c7, .bool true]) (by simp[results,Tryz.results74,go_sem,hzz7,q2,q3]) rfl ⟨?_,(by repeat(first | exact Below.refl _ _ | (refine Below.setCell ?_ (by first | omega | (simp<;>omega)) _) | (refine bel_drewN ?_ _) | (refine Below.drew ?_) | (refine Below.alloc ?_ (by first | omega | (simp<;>omega)) _) | (refine Below.trans ?_ (Below.mono (Hid.out HBF) (by first | omega | (simp<;>omega))))))⟩
    unfold ShRes
    rw[HF3.out]
    have hne2: ∀b,(Value.slice A2 xs.length c2).ownBlock=some b→b≠w.heap.size:=fun b hb=>by have:=HSB.out b hb;have:=HZ0.out;omega
    refine⟨_,_,w6.heap.size,rfl,HI0.out,⟨ownsRow_keep HSS.out.1 fun b hb=> ?_,HSS.out.2⟩,fun b hb=> ?_,?_,Nat.le_of_lt hzz6⟩
    ·rw[setCell_block _ _ _ b (hne2 b hb),setCell_block _ _ _ b (hne2 b hb)]
    ·have:=HSB.out b hb;omega
    ·exact(OwI.far O7.out (p:=⟨w.heap.size,0,none⟩) hzz6 _).far (p:=⟨w.heap.size,1,none⟩) hzz6 _
  ·obtain rfl:k=(allWh r).length:=by omega
   have HE:Hid (shortF r c=none):=hDD (by rw[←HF.out];simp)
   obtain⟨hcr,hfr⟩:=bcell hbel
   have hzr:w.heap.size<wr.heap.size:=by omega
   have hq0:wr.cell? ⟨w.heap.size,0,none⟩=some (.int .i64 0):=by rw[hcr _ _ hz1];exact hc0
   have hq1:wr.cell? ⟨w.heap.size,1,none⟩=some (.slice none 0 0):=by rw[hcr _ _ hz1];exact hc1
   have hqf: ∀o,wr.frozen? ⟨w.heap.size,o,none⟩=false:=fun o=>by rw[hfr _ _ hz1];exact hf1 o
   have HW:=hDD (HB1.out.trans (hbel.mono (Nat.le_of_lt hz1)))
   clear hcr hfr hbel hc0 hc1 hf1
   go_wp2
   refine bodyPost_ret (v:= .tuple #[.agg #[.int .i64 0, .slice none 0 0], .slice (some ⟨wr.heap.size,0,none⟩) 0 0, .bool false]) (by simp[results,Tryz.results74,go_sem,hzr,hq0,hq1]) rfl ⟨?_,(by repeat(first | exact Below.refl _ _ | (refine Below.setCell ?_ (by first | omega | (simp<;>omega)) _) | (refine bel_drewN ?_ _) | (refine Below.drew ?_) | (refine Below.alloc ?_ (by first | omega | (simp<;>omega)) _) | (refine Below.trans ?_ (Below.mono (Hid.out HW) (by first | omega | (simp<;>omega))))))⟩
   unfold ShRes
   rw[HE.out]
   exact⟨_,rfl⟩
end Go.Proofs.YtlgcflpaekbopaaGreat
namespace Go.Proofs.YtlgcflpaekbopaaGreat
set_option maxRecDepth 20000
set_option linter.unusedVariables false
set_option linter.unusedSimpArgs false
open Go.RowKit
theorem wh0 (w:World) (base:Nat):OwWh w base (.agg #[.int .i64 0, .slice none 0 0]) (0,[]):=⟨_,rfl,⟨by omega,by omega⟩,⟨⟨rfl, .inl ⟨rfl,rfl⟩⟩,I64s_nil⟩⟩
set_option maxHeartbeats 1000000 in
theorem implShortenCyclic_any (r:Int) (v:Value) (xs:List Int) (w:World) (hr:I64 r) (h:RdI w v xs) (hl:xs.length≤1048576):
  Calls Tryz.prog 28 #[.int .i64 r,v] w fun e w'=> ∃t,e= .returned (.tuple #[t, .bool (shF r xs).2])∧OwWh w' w.heap.size t (shF r xs).1∧Below w.heap.size w w':=by
 have H:=hDD h
 obtain⟨A,cap,rfl,hcap,hm,_⟩:=h.arg
 have HR:=hDD hr
 clear h hr
 have hb0:Below w.heap.size w (w.alloc (Obj.cells #[Value.int IntKind.i64 0,Value.slice none 0 0] 26)):=(by repeat(first | exact Below.refl _ _ | (refine Below.setCell ?_ (by first | omega | (simp<;>omega)) _) | (refine bel_drewN ?_ _) | (refine Below.drew ?_) | (refine Below.alloc ?_ (by first | omega | (simp<;>omega)) _)))
 have HB0:=hDD hb0
 have H0:=hDD (H.out.below hb0)
 have hq: ∀o,(w.alloc (Obj.cells #[Value.int IntKind.i64 0,Value.slice none 0 0] 26)).frozen? ⟨w.heap.size,o,none⟩=false:=fun o=>by simp[go_sem]
 have hq0:(w.alloc (Obj.cells #[Value.int IntKind.i64 0,Value.slice none 0 0] 26)).cell? ⟨w.heap.size,0,none⟩=some (.int .i64 0):=by simp[go_sem]
 have hq1:(w.alloc (Obj.cells #[Value.int IntKind.i64 0,Value.slice none 0 0] 26)).cell? ⟨w.heap.size,1,none⟩=some (.slice none 0 0):=by simp[go_sem]
 have hz0:w.heap.size<(w.alloc (Obj.cells #[Value.int IntKind.i64 0,Value.slice none 0 0] 26)).heap.size:=by simp
 clear hb0
 rcases ew:wordB r xs with _ | _
 ·have F:Hid (shF r xs=((0,[]),false)):=hDD (by unfold shF;rw[ew];rfl)
  go_enter Tryz.func28,Tryz.ntmps28
  go_wp2_with fail
  generalize w.alloc (Obj.cells #[Value.int IntKind.i64 0,Value.slice none 0 0] 26)=w0 at HB0 H0 hq hq0 hq1 hz0⊢
  have C:=implIsWord_any r _ xs _ H0.out.arg (by omega)
  rw[ew] at C
  refine C.mono ?_
  rintro e w' ⟨rfl,rfl⟩
  clear C
  go_wp2
  refine bodyPost_ret (v:= .tuple #[.agg #[.int .i64 0, .slice none 0 0], .bool false]) (by simp[results,Tryz.results28,go_sem,hz0,hq0,hq1]) rfl ⟨_,by rw[F.out],by rw[F.out];exact wh0 _ _,(by repeat(first | exact Below.refl _ _ | (refine Below.setCell ?_ (by first | omega | (simp<;>omega)) _) | (refine bel_drewN ?_ _) | (refine Below.drew ?_) | (refine Below.alloc ?_ (by first | omega | (simp<;>omega)) _) | (refine Below.trans ?_ (Below.mono (Hid.out HB0) (by first | omega | (simp<;>omega))))))⟩
 ·have hcl:(cycF xs).length≤24:=Nat.le_trans (cycF_len xs) (wordB_len ew)
  go_enter Tryz.func28,Tryz.ntmps28
  go_wp2_with fail
  generalize w.alloc (Obj.cells #[Value.int IntKind.i64 0,Value.slice none 0 0] 26)=w0 at HB0 H0 hq hq0 hq1 hz0⊢
  have C:=implIsWord_any r _ xs _ H0.out.arg (by omega)
  rw[ew] at C
  refine C.mono ?_
  rintro e w' ⟨rfl,rfl⟩
  clear C
  go_wp2_with fail
  refine(implCyclicForm_any _ xs _ H0.out (by omega)).mono ?_
  rintro e w1 ⟨s1,rfl,o1,b1⟩
  have O1:=hDD o1
  have HB1:=hDD (HB0.out.trans (b1.mono (Nat.le_of_lt hz0)))
  have hf1:=fun o=>(b1.frozen (p:=⟨w.heap.size,o,none⟩) hz0).trans (hq o)
  have hc0:=(b1.cell (p:=⟨w.heap.size,0,none⟩) hz0).trans hq0
  have hc1:=(b1.cell (p:=⟨w.heap.size,1,none⟩) hz0).trans hq1
  have hz1:w.heap.size<w1.heap.size:=Nat.lt_of_lt_of_le hz0 b1.size
  obtain⟨A1,c1,rfl,_⟩:=OwI.form o1
  clear o1 b1 hq hq0 hq1 H0 HB0 hz0
  go_wp2_with fail
  refine(shorten_any r _ (cycF xs) _ HR.out O1.out.rd (by omega)).mono ?_
  rintro e w2 ⟨hsr,b2⟩
  have HB2:=hDD (HB1.out.trans (b2.mono (Nat.le_of_lt hz1)))
  have hf2:=fun o=>(b2.frozen (p:=⟨w.heap.size,o,none⟩) hz1).trans (hf1 o)
  have hd0:=(b2.cell (p:=⟨w.heap.size,0,none⟩) hz1).trans hc0
  have hd1:=(b2.cell (p:=⟨w.heap.size,1,none⟩) hz1).trans hc1
  have hz2:w.heap.size<w2.heap.size:=Nat.lt_of_lt_of_le hz1 b2.size
  clear b2 hf1 hc0 hc1
  unfold ShRes at hsr
  rcases hsf:shortF r (cycF xs) with _ | d
  ·rw[hsf] at hsr
   obtain⟨F1,rfl⟩:=hsr
   have F:Hid (shF r xs=((0,[]),false)):=hDD (by unfold shF;rw[ew,if_pos rfl,hsf])
   clear hsf ew
   go_wp2
   refine bodyPost_ret (v:= .tuple #[.agg #[.int .i64 0, .slice none 0 0], .bool false]) (by simp[results,Tryz.results28,go_sem,hz2,hd0,hd1]) rfl ⟨_,by rw[F.out],by rw[F.out];exact wh0 _ _,(by repeat(first | exact Below.refl _ _ | (refine Below.setCell ?_ (by first | omega | (simp<;>omega)) _) | (refine bel_drewN ?_ _) | (refine Below.drew ?_) | (refine Below.alloc ?_ (by first | omega | (simp<;>omega)) _) | (refine Below.trans ?_ (Below.mono (Hid.out HB2) (by first | omega | (simp<;>omega))))))⟩
  ·rw[hsf] at hsr
   obtain⟨S,F1,m,rfl,hi,hS,hSm,hF,hlm⟩:=hsr
   obtain⟨L,ys⟩:=d
   have F:Hid (shF r xs=((L,ys),true)):=hDD (by unfold shF;rw[ew,if_pos rfl,hsf])
   have HS:=hDD hS
   have HI:=hDD hi
   obtain⟨A5,c5,rfl,_⟩:=OwI.form hS
   clear hsf ew hS hi hSm hF hlm
   go_wp2
   refine bodyPost_ret (v:= .tuple #[.agg #[.int .i64 L, .slice A5 ys.length c5], .bool true]) (by simp[results,Tryz.results28,go_sem,hz2,hd0,hd1]) rfl ⟨_,by rw[F.out],?_,(by repeat(first | exact Below.refl _ _ | (refine Below.setCell ?_ (by first | omega | (simp<;>omega)) _) | (refine bel_drewN ?_ _) | (refine Below.drew ?_) | (refine Below.alloc ?_ (by first | omega | (simp<;>omega)) _) | (refine Below.trans ?_ (Below.mono (Hid.out HB2) (by first | omega | (simp<;>omega))))))⟩
   rw[F.out]
   refine⟨_,rfl,HI.out,?_⟩
   exact(((OwI.far HS.out (p:=⟨w.heap.size,0,none⟩) hz1 _).far (p:=⟨w.heap.size,1,none⟩) hz1 _).mono (Nat.le_of_lt hz1)).alloc _
set_option maxHeartbeats 2000000 in
theorem specShortenCyclic_any (r:Int) (v:Value) (xs:List Int) (w:World) (hr:I64 r) (h:RdI w v xs) (hl:xs.length≤1048576):
  Calls Tryz.prog 35 #[.int .i64 r,v] w fun e w'=> ∃t,e= .returned (.tuple #[t, .bool (shF r xs).2])∧OwWh w' w.heap.size t (shF r xs).1∧Below w.heap.size w w':=by
 have H:=hDD h
 obtain⟨A,cap,rfl,hcap,hm,_⟩:=h.arg
 have HR:=hDD hr
 clear h hr
 have hb0:Below w.heap.size w (w.alloc (Obj.cells #[Value.int IntKind.i64 0,Value.slice none 0 0] 26)):=(by repeat(first | exact Below.refl _ _ | (refine Below.setCell ?_ (by first | omega | (simp<;>omega)) _) | (refine bel_drewN ?_ _) | (refine Below.drew ?_) | (refine Below.alloc ?_ (by first | omega | (simp<;>omega)) _)))
 have HB0:=hDD hb0
 have H0:=hDD (H.out.below hb0)
 have hq: ∀o,(w.alloc (Obj.cells #[Value.int IntKind.i64 0,Value.slice none 0 0] 26)).frozen? ⟨w.heap.size,o,none⟩=false:=fun o=>by simp[go_sem]
 have hq0:(w.alloc (Obj.cells #[Value.int IntKind.i64 0,Value.slice none 0 0] 26)).cell? ⟨w.heap.size,0,none⟩=some (.int .i64 0):=by simp[go_sem]
 have hq1:(w.alloc (Obj.cells #[Value.int IntKind.i64 0,Value.slice none 0 0] 26)).cell? ⟨w.heap.size,1,none⟩=some (.slice none 0 0):=by simp[go_sem]
 have hz0:w.heap.size<(w.alloc (Obj.cells #[Value.int IntKind.i64 0,Value.slice none 0 0] 26)).heap.size:=by simp
 clear hb0
 rcases ew:wordB r xs with _ | _
 ·have F:Hid (shF r xs=((0,[]),false)):=hDD (by unfold shF;rw[ew];rfl)
  go_enter Tryz.func35,Tryz.ntmps35
  go_wp2_with fail
  generalize w.alloc (Obj.cells #[Value.int IntKind.i64 0,Value.slice none 0 0] 26)=w0 at HB0 H0 hq hq0 hq1 hz0⊢
  have C:=specIsWord_any r _ xs _ H0.out.arg (by omega)
  rw[ew] at C
  refine C.mono ?_
  rintro e w' ⟨rfl,n,rfl⟩
  clear C
  go_wp2
  refine bodyPost_ret (v:= .tuple #[.agg #[.int .i64 0, .slice none 0 0], .bool false]) (by simp[results,Tryz.results35,go_sem,hz0,hq0,hq1]) rfl ⟨_,by rw[F.out],by rw[F.out];exact wh0 _ _,(by repeat(first | exact Below.refl _ _ | (refine Below.setCell ?_ (by first | omega | (simp<;>omega)) _) | (refine bel_drewN ?_ _) | (refine Below.drew ?_) | (refine Below.alloc ?_ (by first | omega | (simp<;>omega)) _) | (refine Below.trans ?_ (Below.mono (Hid.out HB0) (by first | omega | (simp<;>omega))))))⟩
 ·have hcl:(cycF xs).length≤24:=Nat.le_trans (cycF_len xs) (wordB_len ew)
  have HN:=hDD (allWh_nums r)
  have HSH:Hid (shF r xs=match shortF r (cycF xs) with | some d=>(d,true) | none=>((0,[]),false)):=hDD (by unfold shF;rw[ew,if_pos rfl];cases shortF r (cycF xs)<;>rfl)
  go_enter Tryz.func35,Tryz.ntmps35
  go_wp2_with fail
  generalize w.alloc (Obj.cells #[Value.int IntKind.i64 0,Value.slice none 0 0] 26)=w0 at HB0 H0 hq hq0 hq1 hz0⊢
  have C:=specIsWord_any r _ xs _ H0.out.arg (by omega)
  rw[ew] at C
  refine C.mono ?_
  rintro e w' ⟨rfl,n,rfl⟩
  clear C ew
  go_wp2_with fail
  refine(specCyclicForm_any _ xs _ (H0.out.drewN n) (by omega)).mono ?_
  rintro e w1 ⟨s1,rfl,o1,b1⟩
  have hz0':w.heap.size<(w0.drewN n).heap.size:=hz0
  have O1:=hDD o1
  have HB1:=hDD ((bel_drewN HB0.out n).trans (b1.mono (Nat.le_of_lt hz0')))
  have hf1:=fun o=>(b1.frozen (p:=⟨w.heap.size,o,none⟩) hz0').trans (hq o)
  have hc0:=(b1.cell (p:=⟨w.heap.size,0,none⟩) hz0').trans hq0
  have hc1:=(b1.cell (p:=⟨w.heap.size,1,none⟩) hz0').trans hq1
  have hz1:w.heap.size<w1.heap.size:=Nat.lt_of_lt_of_le hz0' b1.size
  obtain⟨A1,c1,rfl,_⟩:=OwI.form o1
  clear o1 b1 hq hq0 hq1 H0 HB0 hz0 hz0'
  go_wp2_with fail
  refine(specAllWhitehead_any r _).mono ?_
  rintro e w2 ⟨lv,rfl,ol,b2⟩
  have OL:=hDD ol
  have HB2:=hDD (HB1.out.trans (b2.mono (Nat.le_of_lt hz1)))
  have HC:=hDD (O1.out.below b2)
  have hf2:=fun o=>(b2.frozen (p:=⟨w.heap.size,o,none⟩) hz1).trans (hf1 o)
  have hd0:=(b2.cell (p:=⟨w.heap.size,0,none⟩) hz1).trans hc0
  have hd1:=(b2.cell (p:=⟨w.heap.size,1,none⟩) hz1).trans hc1
  have hz2:w.heap.size<w2.heap.size:=Nat.lt_of_lt_of_le hz1 b2.size
  obtain⟨Al,cl,rfl,hcl2,hml,_⟩:=ol.len
  clear b2 hf1 hc0 hc1 ol
  unfold maxLen at hml
  have hnum:=HN.out.1
  generalize hcx:cycF xs=c at*
  clear hcx
  go_wp2_with fail
  go_loopw [8] (fun i wr=> ∃k:Nat,k≤(allWh r).length∧i= .int .i64 k∧((allWh r).drop k).find? (fun d=>decide ((coreF (whX r d c)).length<c.length))=shortF r c∧Below w2.heap.size w2 wr)
   (fun i _=>(allWh r).length-(intOf i).toNat)
  case atStart=>exact⟨0,Nat.zero_le _,rfl,rfl,Below.refl _ _⟩
  case round=>
   obtain⟨k,hk,rfl,hfind,hbel⟩:=hrel
   have HF:=hDD hfind
   have hsz:=hbel.size
   have HB:=hDD hbel
   clear hfind
   by_cases hlt:k<(allWh r).length
   ·obtain⟨g,cs,Fe,rfl,hg0,hg1,hE,hcw,hFe,_,hcc,_⟩:=(OL.out.keep EWh.stable (w':=wr) fun b _ hb=>hbel.block b hb).focus EWh.stable hlt
    obtain⟨s0,rfl,hi0,ho0,rfl⟩:=hE
    have e0:=hcc 0 (by simp)
    have e1:=hcc 1 (by simp)
    simp only[List.getElem_cons_zero,List.getElem_cons_succ,Nat.add_zero] at e0 e1
    have HS:=hDD (find_succ r c k hlt)
    have hdl:=HN.out.2 (allWh r)[k] (by simp)
    have HO0:=hDD ho0
    have HFE:=hDD hFe
    have HI0:=hDD hi0
    have hgw:g<wr.heap.size:=by omega
    clear hcc hFe hi0 hbel ho0
    generalize (allWh r)[k]=d at e0 HS hdl HO0 HI0
    obtain⟨L,ys⟩:=d
    obtain⟨A2,c2,rfl,_⟩:=OwI.form HO0.out
    go_wp2_with fail
    refine(l21Apply_any r _ _ (L,ys) c _ HR.out ⟨_,rfl,HI0.out,HO0.out.arg⟩ (HC.out.rd.below HB.out) hdl (by omega)).mono ?_
    rintro e w3 ⟨s3,rfl,o3,b3⟩
    have hcll:=cycF_clen (whX r (L,ys) c)
    obtain⟨A3,c3,rfl,_⟩:=OwI.form o3
    rw[hcll]
    have HB3:=hDD (HB.out.trans (b3.mono hsz))
    have g0:=(b3.cell (p:=⟨g,k*2,none⟩) hgw).trans e0
    have g1:=(b3.cell (p:=⟨g,k*2+1,none⟩) hgw).trans e1
    have hgw3:=Nat.lt_of_lt_of_le hgw b3.size
    clear o3 b3 hcll e0 e1
    have hs3:=HB3.out.size
    rcases et:decide ((coreF (whX r (L,ys) c)).length<c.length) with _ | _
    ·have HF2:=HS.out
     rw[et] at HF2
     have HF3:Hid (((allWh r).drop (k+1)).find? (fun d=>decide ((coreF (whX r d c)).length<c.length))=shortF r c):=hDD (by rw[←HF.out,HF2];rfl)
     have et2: ¬(coreF (whX r (L,ys) c)).length<c.length:=by simpa using et
     clear HF2 et
     go_wp2
     go_roundw
     case rel=>exact⟨k+1,by omega,by go_num,HF3.out,HB3.out⟩
     case measure=>simp[intOf];omega
    ·have HF2:=HS.out
     rw[et] at HF2
     have HF3:Hid (shortF r c=some (L,ys)):=hDD (by rw[←HF.out,HF2];rfl)
     have et2:(coreF (whX r (L,ys) c)).length<c.length:=by simpa using et
     clear HF2 et
     have r0:=(HB3.out.cell (p:=⟨w.heap.size,0,none⟩) hz2).trans hd0
     have r1:=(HB3.out.cell (p:=⟨w.heap.size,1,none⟩) hz2).trans hd1
     have rf:=fun o=>(HB3.out.frozen (p:=⟨w.heap.size,o,none⟩) hz2).trans (hf2 o)
     have hz3:w.heap.size<w3.heap.size:=by omega
     have F:Hid (shF r xs=((L,ys),true)):=hDD (by rw[HSH.out,HF3.out])
     have HBF:=hDD (HB2.out.trans (HB3.out.mono (Nat.le_of_lt hz2)))
     have hS:OwI w3 w1.heap.size (.slice A2 ys.length c2) ys:=by
      refine OwI.alone ⟨ownsRow_keep HO0.out.1 fun b hb=> ?_,HO0.out.2⟩ fun b hb=> ?_
      ·have h1:=HFE.out b (by simp[hb])
       exact(HB3.out.block b h1.2.1).trans (HB.out.block b h1.2.1).symm
      ·exact(HFE.out b (by simp[hb])).1
     have HSS:=hDD hS
     clear hS hd0 hd1 hf2
     go_wp2
     refine bodyPost_ret (v:= .tuple #[.agg #[.int .i64 L, .slice A2 ys.length c2], .bool true]) (by simp[results,Tryz.results35,go_sem,hz3,r0,r1]) rfl ⟨_,by rw[F.out],?_,(by repeat(first | exact Below.refl _ _ | (refine Below.setCell ?_ (by first | omega | (simp<;>omega)) _) | (refine bel_drewN ?_ _) | (refine Below.drew ?_) | (refine Below.alloc ?_ (by first | omega | (simp<;>omega)) _) | (refine Below.trans ?_ (Below.mono (Hid.out HBF) (by first | omega | (simp<;>omega))))))⟩
     rw[F.out]
     exact⟨_,rfl,HI0.out,((OwI.far HSS.out (p:=⟨w.heap.size,0,none⟩) hz1 _).far (p:=⟨w.heap.size,1,none⟩) hz1 _).mono (Nat.le_of_lt hz1)⟩
   ·obtain rfl:k=(allWh r).length:=by omega
    have HE:Hid (shortF r c=none):=hDD (by rw[←HF.out];simp)
    have F:Hid (shF r xs=((0,[]),false)):=hDD (by rw[HSH.out,HE.out])
    have hzr:w.heap.size<wr.heap.size:=by omega
    have r0:=(hbel.cell (p:=⟨w.heap.size,0,none⟩) hz2).trans hd0
    have r1:=(hbel.cell (p:=⟨w.heap.size,1,none⟩) hz2).trans hd1
    have rf:=fun o=>(hbel.frozen (p:=⟨w.heap.size,o,none⟩) hz2).trans (hf2 o)
    have HW:=hDD (HB2.out.trans (hbel.mono (Nat.le_of_lt hz2)))
    clear hbel hd0 hd1 hf2
    go_wp2
    refine bodyPost_ret (v:= .tuple #[.agg #[.int .i64 0, .slice none 0 0], .bool false]) (by simp[results,Tryz.results35,go_sem,hzr,r0,r1]) rfl ⟨_,by rw[F.out],by rw[F.out];exact wh0 _ _,(by repeat(first | exact Below.refl _ _ | (refine Below.setCell ?_ (by first | omega | (simp<;>omega)) _) | (refine bel_drewN ?_ _) | (refine Below.drew ?_) | (refine Below.alloc ?_ (by first | omega | (simp<;>omega)) _) | (refine Below.trans ?_ (Below.mono (Hid.out HW) (by first | omega | (simp<;>omega))))))⟩
end Go.Proofs.YtlgcflpaekbopaaGreat
namespace Go.Proofs.YtlgcflpaekbopaaGreat
set_option maxRecDepth 20000
set_option linter.unusedVariables false
set_option linter.unusedSimpArgs false
open Go.RowKit
theorem goodF.len {r:Int} {c:List Int} (h:goodF r c):c.length≤24:=h.2.2.1
theorem redGo_none {r:Int} {n:Nat} {c:List Int} {l:List WhD} (h:shortF r c=none):redGo r n c l=(c,l):=by
 cases n with
 | zero=>rfl
 | succ n=>simp[redGo,h]
theorem redGo_some {r:Int} {n:Nat} {c:List Int} {l:List WhD} {d:WhD} (h:shortF r c=some d):redGo r (n+1) c l=redGo r n (cycF (whX r d c)) (l++ [d]):=by simp[redGo,h]
theorem shF_some {r:Int} {c:List Int} (h:goodF r c) {d:WhD} (hs:shortF r c=some d):shF r c=(d,true):=by rw[shF_good h,hs]
theorem shF_none {r:Int} {c:List Int} (h:goodF r c) (hs:shortF r c=none):shF r c=((0,[]),false):=by rw[shF_good h,hs]
theorem OWhS_nil (w:World) {lo:Nat} (h:lo≤w.heap.size):OWhS lo (w.alloc (.cells #[] 26)).heap.size (.slice (some ⟨w.heap.size,0,none⟩) 0 0) [] (w.alloc (.cells #[] 26)):=by
 have:=OWhS_lit w h
 simpa using this
set_option maxHeartbeats 2000000 in
theorem implReduceCyclic_any (r:Int) (v:Value) (xs:List Int) (w:World) (hr:I64 r) (h:RdI w v xs) (hl:xs.length≤1048576):
  Calls Tryz.prog 21 #[.int .i64 r,v] w fun e w'=> ∃s t,e= .returned (.tuple #[s,t])∧OwI w' w.heap.size s (redF r xs).1∧OWhS w.heap.size w'.heap.size t (redF r xs).2 w'∧Below w.heap.size w w':=by
 have H:=hDD h
 obtain⟨A,cap,rfl,hcap,hm,_⟩:=h.arg
 have HR:=hDD hr
 clear h hr
 have HL0:Hid (OWhS w.heap.size (w.alloc (.cells #[] 26)).heap.size (.slice (some ⟨w.heap.size,0,none⟩) 0 0) [] (w.alloc (.cells #[] 26))):=hDD (OWhS_nil w (Nat.le_refl _))
 have HB0:Hid (Below w.heap.size w (w.alloc (.cells #[] 26))):=hDD ((Below.refl _ _).alloc (Nat.le_refl _) _)
 have H0:=hDD (H.out.below HB0.out)
 rcases ew:wordB r xs with _ | _
 ·have F:Hid (redF r xs=([],[])):=hDD (by unfold redF;rw[ew];rfl)
  go_enter Tryz.func21,Tryz.ntmps21
  go_wp2_with fail
  generalize w.alloc (Obj.cells #[] 26)=w0 at HL0 HB0 H0⊢
  have C:=implIsWord_any r _ xs _ H0.out.arg (by omega)
  rw[ew] at C
  refine C.mono ?_
  rintro e w' ⟨rfl,rfl⟩
  clear C
  have hs0:=HB0.out.size
  go_wp2
  go_ret2
  rw[F.out]
  exact⟨_,_,rfl,OwI_lit _ [] I64s_nil (by simp) hs0,(HL0.out.keep EWh.stable fun b _ hb=>Below.heap_alloc _ _ b hb).widen (Nat.le_refl _) (by simp),HB0.out.alloc hs0 _⟩
 ·have F:Hid (redF r xs=redGo r 24 (cycF xs) []):=hDD (by unfold redF;rw[ew];rfl)
  have HG:=hDD (goodF_cyc ew)
  go_enter Tryz.func21,Tryz.ntmps21
  go_wp2_with fail
  generalize w.alloc (Obj.cells #[] 26)=w0 at HL0 HB0 H0⊢
  have C:=implIsWord_any r _ xs _ H0.out.arg (by omega)
  rw[ew] at C
  refine C.mono ?_
  rintro e w' ⟨rfl,rfl⟩
  clear C
  have hs0:=HB0.out.size
  go_wp2_with fail
  refine(implCyclicForm_any _ xs _ H0.out (by omega)).mono ?_
  rintro e w1 ⟨s1,rfl,o1,b1⟩
  have O1:=hDD (o1.mono hs0)
  have HB1:=hDD (HB0.out.trans (b1.mono hs0))
  have HL1:=hDD ((HL0.out.keep EWh.stable fun b _ hb=>b1.block b hb).widen (Nat.le_refl _) b1.size)
  clear o1 b1
  go_wp2_with fail
  go_loopw [6,7] (fun l f wr=> ∃(c:List Int) (acc:List WhD),slLen l=acc.length∧acc.length≤24∧goodF r c∧redGo r (24-acc.length) c acc=redF r xs∧OwI wr w.heap.size f c∧OWhS w.heap.size wr.heap.size l acc wr∧Below w.heap.size w wr)
   (fun l _ _=>24-slLen l)
  case atStart=>exact⟨cycF xs,[],rfl,by simp,HG.out,F.out.symm,O1.out,HL1.out,HB1.out⟩
  case round=>
   obtain⟨c,acc,hsl,hal,hgo,hgr,hf,hlist,hbel⟩:=hrel
   have HGO:=hDD hgo
   have HGR:=hDD hgr
   have HFF:=hDD hf
   have HLL:=hDD hlist
   have HB:=hDD hbel
   have hcl:=hgo.len
   have hsz:=hbel.size
   obtain⟨A2,c2,rfl,_⟩:=hf.form
   obtain⟨A3,c3,rfl,_⟩:=hlist.len
   clear hsl hgo hgr hf hlist hbel HL1 O1 HL0
   by_cases hlt:acc.length<24
   ·go_wp2_with fail
    refine(shorten_any r _ c _ HR.out HFF.out.rd (by omega)).mono ?_
    rintro e w2 ⟨hsr,b2⟩
    have B2:=hDD b2
    have HB2:=hDD (HB.out.trans (b2.mono hsz))
    have hs2:=b2.size
    clear b2
    unfold ShRes at hsr
    rcases hsf:shortF r c with _ | d
    ·rw[hsf] at hsr
     obtain⟨F1,rfl⟩:=hsr
     have HE:Hid (redF r xs=(c,acc)):=hDD (by rw[←HGR.out,redGo_none hsf])
     clear hsf
     go_wp2
     go_ret2
     rw[HE.out]
     exact⟨_,_,rfl,(HFF.out.below B2.out).alloc _,(HLL.out.keep EWh.stable fun b _ hb=>(Below.heap_alloc _ _ b (by omega)).trans (B2.out.block b hb)).widen (Nat.le_refl _) (by simp;omega),HB2.out.alloc (by omega) _⟩
    ·rw[hsf] at hsr
     obtain⟨S,F1,m,rfl,hi,hS,hSm,hF,hlm⟩:=hsr
     obtain⟨L,ys⟩:=d
     have HE:Hid (redGo r (24-(acc.length+1)) (cycF (whX r (L,ys) c)) (acc++ [(L,ys)])=redF r xs):=hDD (by
      rw[←HGR.out,show 24-acc.length=(24-(acc.length+1))+1 by omega,redGo_some hsf])
     have HGN:=hDD (goodF_next HGO.out hsf)
     have HI:=hDD hi
     have HS:=hDD hS
     have HFN:=hDD hF
     have HLM:=hDD (hF.mono hlm)
     obtain⟨A5,c5,rfl,_⟩:=OwI.form hS
     obtain⟨A6,c6,rfl,_⟩:=OwI.form hF
     obtain⟨i0,hi0,hz0,hz1,hz2⟩:=info_parts wh_info
     have hib:=HI.out.1
     have hib2:=HI.out.2
     have HLT:=hDD (fun b (hb:(Value.slice A5 ys.length c5).ownBlock=some b)=>HS.out.1.lt b hb)
     clear hsf hi hS hSm hF hlm
     have HPF:=hDD (fun b (hb:(Value.slice A6 (cycF (whX r (L,ys) c)).length c6).ownBlock=some b)=>(HLM.out.1.lt b hb).1)
     have HPL:=hDD (fun b (hb:(Value.slice A3 acc.length c3).ownBlock=some b)=>(HLL.out.lt hb).2)
     go_wp2_with (at_builtin;refine push_own EWh.stable rfl (.tmp 33) (.tmp 35) rfl Tryz.underlying47 hi0 hz0 hz1 hz2 rfl (by decide) (by decide) (w0:=wr) HLL.out hsz ((B2.out.alloc hs2 _).alloc (by simp;omega) _) rfl _ [.int .i64 L, .slice A5 ys.length c5] (L,ys) _ rfl (EWh.of HI.out ((HS.out.alloc _).alloc _)) rfl (opt_nodup _) ?_ ?_ ?_ (by omega) ?_;(intro b hb;have h9:=HLT.out b (by simpa using hb);simp;omega);(intro j u hj;match j,hj with | 0,hj=>(simp at hj;subst hj;simp[go_sem]) | 1,hj=>(simp at hj;subst hj;simp[go_sem]));(intro u hu;simp at hu;rcases hu with rfl | rfl<;>rfl);intro v3 w3 o3 g3;obtain⟨A7,c7,rfl,_⟩:=OwnL.len o3;have O3:=hDD o3;have G3:=hDD g3;clear o3 g3)
     go_roundw
     case rel=>
      refine⟨cycF (whX r (L,ys) c),acc++ [(L,ys)],by simp[slLen],by simp;omega,HGN.out,by simpa using HE.out,?_,by simpa using O3.out,bel_own (((HB.out.trans (B2.out.mono hsz)).alloc (by omega) _).alloc (by simp;omega) _) HLL.out (Nat.le_refl _) (by simp;omega) G3.out⟩
      refine OwI.mono (base:=wr.heap.size) (((HLM.out.alloc _).alloc _).kept G3.out ?_) hsz
      cases hF:(Value.slice A6 (cycF (whX r (L,ys) c)).length c6).ownBlock with
      | none=>exact .inl rfl
      | some b=>
        refine .inr fun e=> ?_
        have h1:=HPF.out b hF
        have h2:=HPL.out b e.symm
        omega
     case measure=>simp[slLen];omega
   ·have he:acc.length=24:=by omega
    have HE:Hid (redF r xs=(c,acc)):=hDD (by rw[←HGR.out,he];rfl)
    clear he
    go_wp2
    go_ret2
    rw[HE.out]
    exact⟨_,_,rfl,HFF.out,HLL.out,HB.out⟩
set_option maxHeartbeats 2000000 in
theorem specReduceCyclic_any (r:Int) (v:Value) (xs:List Int) (w:World) (hr:I64 r) (h:RdI w v xs) (hl:xs.length≤1048576):
  Calls Tryz.prog 22 #[.int .i64 r,v] w fun e w'=> ∃s t,e= .returned (.tuple #[s,t])∧OwI w' w.heap.size s (redF r xs).1∧OWhS w.heap.size w'.heap.size t (redF r xs).2 w'∧Below w.heap.size w w':=by
 have H:=hDD h
 obtain⟨A,cap,rfl,hcap,hm,_⟩:=h.arg
 have HR:=hDD hr
 clear h hr
 have HL0:Hid (OWhS w.heap.size (w.alloc (.cells #[] 26)).heap.size (.slice (some ⟨w.heap.size,0,none⟩) 0 0) [] (w.alloc (.cells #[] 26))):=hDD (OWhS_nil w (Nat.le_refl _))
 have HB0:Hid (Below w.heap.size w (w.alloc (.cells #[] 26))):=hDD ((Below.refl _ _).alloc (Nat.le_refl _) _)
 have H0:=hDD (H.out.below HB0.out)
 rcases ew:wordB r xs with _ | _
 ·have F:Hid (redF r xs=([],[])):=hDD (by unfold redF;rw[ew];rfl)
  go_enter Tryz.func22,Tryz.ntmps22
  go_wp2_with fail
  generalize w.alloc (Obj.cells #[] 26)=w0 at HL0 HB0 H0⊢
  have C:=specIsWord_any r _ xs _ H0.out.arg (by omega)
  rw[ew] at C
  refine C.mono ?_
  rintro e w' ⟨rfl,n,rfl⟩
  clear C
  have hs0:=HB0.out.size
  go_wp2
  go_ret2
  rw[F.out]
  exact⟨_,_,rfl,OwI_lit _ [] I64s_nil (by simp) hs0,(HL0.out.keep EWh.stable fun b _ hb=>Below.heap_alloc (w0.drewN n) _ b hb).widen (Nat.le_refl _) (by simp),(bel_drewN HB0.out n).alloc hs0 _⟩
 ·have F:Hid (redF r xs=redGo r 24 (cycF xs) []):=hDD (by unfold redF;rw[ew];rfl)
  have HG:=hDD (goodF_cyc ew)
  go_enter Tryz.func22,Tryz.ntmps22
  go_wp2_with fail
  generalize w.alloc (Obj.cells #[] 26)=w0 at HL0 HB0 H0⊢
  have C:=specIsWord_any r _ xs _ H0.out.arg (by omega)
  rw[ew] at C
  refine C.mono ?_
  rintro e w' ⟨rfl,n,rfl⟩
  clear C
  have hs0:=HB0.out.size
  go_wp2_with fail
  refine(specCyclicForm_any _ xs _ (H0.out.drewN n) (by omega)).mono ?_
  rintro e w1 ⟨s1,rfl,o1,b1⟩
  have O1:=hDD (o1.mono hs0)
  have HB1:=hDD ((bel_drewN HB0.out n).trans (b1.mono hs0))
  have HL1:=hDD ((HL0.out.keep EWh.stable (w':=w1) fun b _ hb=>b1.block b hb).widen (Nat.le_refl _) b1.size)
  clear o1 b1
  go_wp2_with fail
  go_loopw [6,7,8] (fun l f i wr=> ∃(k:Nat) (c:List Int) (acc:List WhD),k≤24∧i= .int .i64 k∧acc.length=k∧goodF r c∧redGo r (24-k) c acc=redF r xs∧OwI wr w.heap.size f c∧OWhS w.heap.size wr.heap.size l acc wr∧Below w.heap.size w wr)
   (fun _ _ i _=>24-(intOf i).toNat)
  case atStart=>exact⟨0,cycF xs,[],by omega,rfl,rfl,HG.out,F.out.symm,O1.out,HL1.out,HB1.out⟩
  case round=>
   obtain⟨k,c,acc,hk,rfl,hak,hgo,hgr,hf,hlist,hbel⟩:=hrel
   have HGO:=hDD hgo
   have HGR:=hDD hgr
   have HFF:=hDD hf
   have HLL:=hDD hlist
   have HB:=hDD hbel
   have hcl:=hgo.len
   have hsz:=hbel.size
   have HAK:=hDD hak
   have hal:acc.length≤24:=by omega
   obtain⟨A2,c2,rfl,_⟩:=hf.form
   obtain⟨A3,c3,rfl,_⟩:=hlist.len
   clear hgo hgr hf hlist hbel HL1 O1 HL0 hak
   by_cases hlt:k<24
   ·go_wp2_with fail
    rcases hsf:shortF r c with _ | d
    ·have C:=specShortenCyclic_any r _ c _ HR.out HFF.out.rd (by omega)
     rw[shF_none HGO.out hsf] at C
     refine C.mono ?_
     rintro e w2 ⟨t2,rfl,o2,b2⟩
     have B2:=hDD b2
     have HB2:=hDD (HB.out.trans (b2.mono hsz))
     have hs2:=b2.size
     obtain⟨S2,rfl,_,hS2⟩:=o2
     obtain⟨A8,c8,rfl,_⟩:=OwI.form hS2
     have HE:Hid (redF r xs=(c,acc)):=hDD (by rw[←HGR.out,redGo_none hsf])
     clear hsf b2 C hS2
     go_wp2
     go_ret2
     rw[HE.out]
     exact⟨_,_,rfl,(HFF.out.below B2.out).alloc _,(HLL.out.keep EWh.stable fun b _ hb=>(Below.heap_alloc _ _ b (by omega)).trans (B2.out.block b hb)).widen (Nat.le_refl _) (by simp;omega),HB2.out.alloc (by omega) _⟩
    ·have C:=specShortenCyclic_any r _ c _ HR.out HFF.out.rd (by omega)
     rw[shF_some HGO.out hsf] at C
     refine C.mono ?_
     rintro e w2 ⟨t2,rfl,o2,b2⟩
     have B2:=hDD b2
     have HB2:=hDD (HB.out.trans (b2.mono hsz))
     have hs2:=b2.size
     obtain⟨S2,rfl,hi,hS⟩:=o2
     obtain⟨L,ys⟩:=d
     have HE:Hid (redGo r (24-(k+1)) (cycF (whX r (L,ys) c)) (acc++ [(L,ys)])=redF r xs):=hDD (by
      rw[←HGR.out,show 24-k=(24-(k+1))+1 by omega,redGo_some hsf])
     have HGN:=hDD (goodF_next HGO.out hsf)
     have HI:Hid (I64 L):=hDD hi
     have HS:Hid (OwI w2 wr.heap.size S2 ys):=hDD hS
     obtain⟨A5,c5,rfl,_⟩:=OwI.form HS.out
     have hyl:ys.length≤1073741824:=(allWh_nums r).2 (L,ys) (List.mem_of_find?_eq_some hsf)
     obtain⟨i0,hi0,hz0,hz1,hz2⟩:=info_parts wh_info
     have hib:=HI.out.1
     have hib2:=HI.out.2
     have HLT:=hDD (fun b (hb:(Value.slice A5 ys.length c5).ownBlock=some b)=>HS.out.1.lt b hb)
     have hx0:(w2.alloc (Obj.cells #[Value.int IntKind.i64 L,Value.slice A5 ys.length c5] 26)).cell? ⟨w2.heap.size,0,none⟩=some (.int .i64 L):=by simp[go_sem]
     have hx1:(w2.alloc (Obj.cells #[Value.int IntKind.i64 L,Value.slice A5 ys.length c5] 26)).cell? ⟨w2.heap.size,1,none⟩=some (.slice A5 ys.length c5):=by simp[go_sem]
     have hxz:w2.heap.size<(w2.alloc (Obj.cells #[Value.int IntKind.i64 L,Value.slice A5 ys.length c5] 26)).heap.size:=by simp
     have B3:Hid (Below wr.heap.size wr (w2.alloc (Obj.cells #[Value.int IntKind.i64 L,Value.slice A5 ys.length c5] 26))):=hDD (B2.out.alloc hs2 _)
     have HS3:=hDD (HS.out.alloc (Obj.cells #[Value.int IntKind.i64 L,Value.slice A5 ys.length c5] 26))
     clear hsf b2 C hS hi
     go_wp2_with fail
     generalize w2.alloc (Obj.cells #[Value.int IntKind.i64 L,Value.slice A5 ys.length c5] 26)=w3 at hx0 hx1 hxz B3 HS3⊢
     have hs3:=B3.out.size
     refine(l21Apply_any r _ _ (L,ys) c _ HR.out ⟨_,rfl,HI.out,HS3.out.arg⟩ (HFF.out.rd.below B3.out) hyl (by omega)).mono ?_
     rintro e w4 ⟨F1,rfl,o4,b4⟩
     have B4:=hDD (B3.out.trans (b4.mono hs3))
     have HFN:=hDD (o4.mono hs3)
     have HS4:=hDD (HS3.out.below b4)
     have hy0:=(b4.cell (p:=⟨w2.heap.size,0,none⟩) hxz).trans hx0
     have hy1:=(b4.cell (p:=⟨w2.heap.size,1,none⟩) hxz).trans hx1
     have hyz:=Nat.lt_of_lt_of_le hxz b4.size
     obtain⟨A6,c6,rfl,_⟩:=OwI.form o4
     clear o4 b4 hx0 hx1
     have hs4:=B4.out.size
     have HPF:=hDD (fun b (hb:(Value.slice A6 (cycF (whX r (L,ys) c)).length c6).ownBlock=some b)=>(HFN.out.1.lt b hb).1)
     have HPL:=hDD (fun b (hb:(Value.slice A3 acc.length c3).ownBlock=some b)=>(HLL.out.lt hb).2)
     go_wp2_with (at_builtin;refine push_own EWh.stable rfl (.tmp 38) (.tmp 40) rfl Tryz.underlying47 hi0 hz0 hz1 hz2 rfl (by decide) (by decide) (w0:=wr) HLL.out hsz (B4.out.alloc hs4 _) rfl _ [.int .i64 L, .slice A5 ys.length c5] (L,ys) _ rfl (EWh.of HI.out (HS4.out.alloc _)) rfl (opt_nodup _) ?_ ?_ ?_ (by omega) ?_;(intro b hb;have h9:=HLT.out b (by simpa using hb);simp;omega);(intro j u hj;match j,hj with | 0,hj=>(simp at hj;subst hj;simp[go_sem]) | 1,hj=>(simp at hj;subst hj;simp[go_sem]));(intro u hu;simp at hu;rcases hu with rfl | rfl<;>rfl);intro v3 w5 o3 g3;obtain⟨A7,c7,rfl,_⟩:=OwnL.len o3;have O3:=hDD o3;have G3:=hDD g3;clear o3 g3)
     go_roundw
     case rel=>
      refine⟨k+1,cycF (whX r (L,ys) c),acc++ [(L,ys)],by omega,by go_num,by simp[HAK.out],HGN.out,HE.out,?_,by simpa using O3.out,bel_own ((HB.out.trans (B4.out.mono hsz)).alloc (by omega) _) HLL.out (Nat.le_refl _) (by simp;omega) G3.out⟩
      refine OwI.mono (base:=wr.heap.size) ((HFN.out.alloc _).kept G3.out ?_) hsz
      cases hF:(Value.slice A6 (cycF (whX r (L,ys) c)).length c6).ownBlock with
      | none=>exact .inl rfl
      | some b=>
        refine .inr fun e=> ?_
        have h1:=HPF.out b hF
        have h2:=HPL.out b e.symm
        omega
     case measure=>simp[intOf];omega
   ·obtain rfl:k=24:=by omega
    have HE:Hid (redF r xs=(c,acc)):=hDD (by rw[←HGR.out];rfl)
    go_wp2
    go_ret2
    rw[HE.out]
    exact⟨_,_,rfl,HFF.out,HLL.out,HB.out⟩
def primB (r:Int) (xs:List Int):Bool:=decide ((redF r xs).1.length=1)
theorem redF_bad {r:Int} {xs:List Int} (h:wordB r xs=false):redF r xs=([],[]):=by unfold redF;rw[h];rfl
set_option maxHeartbeats 400000 in
theorem implIsPrimitive_any (r:Int) (v:Value) (xs:List Int) (w:World) (hr:I64 r) (h:RdI w v xs) (hl:xs.length≤1048576):
  Calls Tryz.prog 19 #[.int .i64 r,v] w fun e w'=>e= .returned (.bool (primB r xs))∧Below w.heap.size w w':=by
 have H:=hDD h
 have HR:=hDD hr
 clear h hr
 go_enter Tryz.func19,Tryz.ntmps19
 go_wp2_with fail
 refine(implReduceCyclic_any r _ xs _ HR.out H.out hl).mono ?_
 rintro e w1 ⟨s1,t1,rfl,o1,p1,b1⟩
 have B1:=hDD b1
 obtain⟨A1,c1,rfl,_⟩:=OwI.form o1
 clear o1 p1 b1
 rcases e1:decide ((redF r xs).1.length=1) with _ | _
 ·have F:Hid (primB r xs=false):=hDD (by unfold primB;exact e1)
  have t:(((redF r xs).1.length:Int)==1)=false:=by simp at e1;simp;omega
  clear e1
  go_wp2
  go_ret
  exact⟨ret_bool F.out.symm,B1.out⟩
 ·have F:Hid (primB r xs=true):=hDD (by unfold primB;exact e1)
  have t:(((redF r xs).1.length:Int)==1)=true:=by simp at e1;simp;omega
  clear e1
  go_wp2
  go_ret
  exact⟨ret_bool F.out.symm,B1.out⟩
set_option maxHeartbeats 400000 in
theorem specIsPrimitive_any (r:Int) (v:Value) (xs:List Int) (w:World) (hr:I64 r) (h:RdI w v xs) (hl:xs.length≤1048576):
  Calls Tryz.prog 24 #[.int .i64 r,v] w fun e w'=>e= .returned (.bool (primB r xs))∧Below w.heap.size w w':=by
 have H:=hDD h
 have HR:=hDD hr
 clear h hr
 go_enter Tryz.func24,Tryz.ntmps24
 go_wp2_with fail
 refine(specReduceCyclic_any r _ xs _ HR.out H.out hl).mono ?_
 rintro e w1 ⟨s1,t1,rfl,o1,p1,b1⟩
 have B1:=hDD b1
 have H1:=hDD (H.out.below b1)
 obtain⟨A1,c1,rfl,_⟩:=OwI.form o1
 clear o1 p1 b1
 go_wp2_with fail
 rcases ew:wordB r xs with _ | _
 ·have C:=specIsWord_any r _ xs _ H1.out.arg (by omega)
  rw[ew] at C
  refine C.mono ?_
  rintro e w' ⟨rfl,n,rfl⟩
  have F:Hid (primB r xs=false):=hDD (by unfold primB;rw[redF_bad ew];rfl)
  clear C ew
  go_wp2
  go_ret
  exact⟨ret_bool F.out.symm,bel_drewN B1.out n⟩
 ·have C:=specIsWord_any r _ xs _ H1.out.arg (by omega)
  rw[ew] at C
  refine C.mono ?_
  rintro e w' ⟨rfl,n,rfl⟩
  clear C ew
  rcases e1:decide ((redF r xs).1.length=1) with _ | _
  ·have F:Hid (primB r xs=false):=hDD (by unfold primB;exact e1)
   have t:(((redF r xs).1.length:Int)==1)=false:=by simp at e1;simp;omega
   clear e1
   go_wp2
   go_ret
   exact⟨ret_bool F.out.symm,bel_drewN B1.out n⟩
  ·have F:Hid (primB r xs=true):=hDD (by unfold primB;exact e1)
   have t:(((redF r xs).1.length:Int)==1)=true:=by simp at e1;simp;omega
   clear e1
   go_wp2
   go_ret
   exact⟨ret_bool F.out.symm,bel_drewN B1.out n⟩
end Go.Proofs.YtlgcflpaekbopaaGreat
namespace Go.Proofs.YtlgcflpaekbopaaGreat
set_option maxRecDepth 20000
set_option linter.unusedVariables false
set_option linter.unusedSimpArgs false
open Go.RowKit
def exp1 (r:Int) (acc:List Int) (x:Int):List Int:=
 if 1≤x∧x≤r then acc.set (x-1).toNat (wrap64 (acc.getD (x-1).toNat 0+1))
 else if-r≤x∧x≤ -1 then acc.set (-x-1).toNat (wrap64 (acc.getD (-x-1).toNat 0-1)) else acc
def expF (r:Int) (xs:List Int):List Int:=xs.foldl (exp1 r) (List.replicate r.toNat 0)
def expS (r:Int) (xs:List Int):List Int:=if inB r 1 3 then expF r xs else []
theorem exp1_len (r:Int) (acc:List Int) (x:Int):(exp1 r acc x).length=acc.length:=by
 unfold exp1;split<;>(try split)<;>simp
theorem expF_len (r:Int) (xs:List Int):(expF r xs).length=r.toNat:=by
 unfold expF
 suffices h: ∀(l acc:List Int),(l.foldl (exp1 r) acc).length=acc.length by rw[h];simp
 intro l
 induction l with
 | nil=>intro acc;rfl
 | cons x l ih=>intro acc;rw[List.foldl_cons,ih,exp1_len]
theorem expF_succ (r:Int) (xs:List Int) (k:Nat) (h:k<xs.length):expF r (xs.take (k+1))=exp1 r (expF r (xs.take k)) xs[k]:=by
 unfold expF
 rw[List.take_succ_eq_append_getElem h,List.foldl_append]
 rfl
theorem exp1_pos {r:Int} {acc:List Int} {j:Nat} (h:(j:Int)+1≤r) (hj:j<acc.length):exp1 r acc ((j:Int)+1)=acc.set j (wrap64 (acc[j]+1)):=by
 unfold exp1
 rw[if_pos ⟨by omega,h⟩]
 have:((j:Int)+1-1).toNat=j:=by omega
 rw[this]
 simp[List.getD,hj]
theorem exp1_neg {r:Int} {acc:List Int} {j:Nat} (h:(j:Int)+1≤r) (hj:j<acc.length):exp1 r acc (-((j:Int)+1))=acc.set j (wrap64 (acc[j]-1)):=by
 unfold exp1
 rw[if_neg (by omega),if_pos ⟨by omega,by omega⟩]
 have:(- -((j:Int)+1)-1).toNat=j:=by omega
 rw[this]
 simp[List.getD,hj]
theorem exp1_out {r x:Int} {acc:List Int} (h: ¬(1≤x∧x≤r)) (h': ¬(-r≤x∧x≤ -1)):exp1 r acc x=acc:=by
 unfold exp1
 rw[if_neg h,if_neg h']
theorem I64_wrap' (x:Int):I64 (wrap64 x):=by
 unfold I64 wrap64;omega
theorem expS_len (r:Int) (xs:List Int):(expS r xs).length≤3:=by
 unfold expS
 split
 ·rename_i h
  have:=inB_iff.1 h
  rw[expF_len]
  omega
 ·simp
set_option maxHeartbeats 1000000 in
theorem implExponentSums_any (r:Int) (v:Value) (xs:List Int) (w:World) (h:RdI w v xs) (hl:xs.length≤1073741824):
  Calls Tryz.prog 79 #[.int .i64 r,v] w fun e w'=> ∃u,e= .returned u∧OwI w' w.heap.size u (expS r xs)∧Below w.heap.size w w':=by
 have H:=hDD h
 obtain⟨A,cap,rfl,hcap,hm,_,_⟩:=h.arg
 clear h
 obtain⟨i0,hi0,hz0,hz1,hz2⟩:=info_parts int_info
 rcases e1:inB r 1 3 with _ | _
 ·have F:Hid (expS r xs= []):=hDD (by unfold expS;rw[e1];rfl)
  go_enter Tryz.func79,Tryz.ntmps79
  go_wp2_with (go_at_call 56;refine(within_any _ _ _ _).mono ?_;rintro e w' ⟨rfl,rfl⟩)
  go_ret
  exact⟨_,rfl,by rw[F.out];exact OwI_lit _ [] I64s_nil (by simp) (Nat.le_refl _),(Below.refl _ _).alloc (Nat.le_refl _) _⟩
 ·have F:Hid (expS r xs=expF r xs):=hDD (by unfold expS;rw[e1];rfl)
  have hr1:=(inB_iff.1 e1).1
  have hr3:=(inB_iff.1 e1).2
  obtain⟨rn,rfl⟩: ∃n:Nat,r=n:=⟨r.toNat,by omega⟩
  go_enter Tryz.func79,Tryz.ntmps79
  go_wp2_with (first
   | (go_at_call 56;refine(within_any _ _ _ _).mono ?_;rintro e w' ⟨rfl,rfl⟩)
   | (at_make;refine wpList_make_full _ rfl _ _ 24 rfl w.heap.size 3 i0 (.int .i64 0) 1 Tryz.underlying24 hi0 hz0 hz1 _ _ _ _ rn rfl rfl rfl rfl (by rw[hz2];omega) (by unfold maxLen;omega) (Nat.le_refl _) ?_;intro w0 hown0 hgrow0))
  go_loopw [16] (fun i wr=> ∃k:Nat,k≤xs.length∧i= .int .i64 k∧OwI wr w.heap.size (.slice (some ⟨w.heap.size,0,none⟩) rn rn) (expF rn (xs.take k))∧Below w.heap.size w wr)
   (fun i _=>xs.length-(intOf i).toNat)
  case atStart=>exact⟨0,Nat.zero_le _,rfl,⟨by have h:=hown0;rw[show(Value.int IntKind.i64 0).cells= #[Value.int .i64 0] from rfl,Nat.mul_one,toList_madeCells_one] at h;simpa[expF] using h,fun x hx=>by simp[expF] at hx;rw[hx.2];unfold I64;omega⟩,(Below.refl _ _).grown hgrow0 (Nat.le_refl _) (fun k h=>by cases h)⟩
  case round=>
   obtain⟨k,hk,rfl,hown,hbel⟩:=hrel
   have hsz:=hbel.size
   by_cases hlt:k<xs.length
   ·obtain⟨b,off,rfl,hbl,hc⟩:=(H.out.below hbel).at (by omega)
    have hcell:=hc k hlt
    have HS:=hDD (expF_succ rn xs k hlt)
    have hla:=expF_len rn (xs.take k)
    clear hc
    generalize expF rn (xs.take k)=acc at hown HS hla
    generalize xs[k]=x at hcell HS
    rcases e2:inB x 1 rn with _ | _
    ·rcases e3:inB x (-rn) (-1) with _ | _
     ·have G:=hDD (exp1_out (acc:=acc) (inB_not.1 e2) (inB_not.1 e3))
      have HO:=hDD hown
      clear hown
      go_wp2_with (go_at_call 56;refine(within_any _ _ _ _).mono ?_;rintro e w' ⟨rfl,rfl⟩)
      go_roundw
      case rel=>exact⟨k+1,by omega,by go_num,by rw[HS.out,G.out];exact HO.out,hbel⟩
      case measure=>simp[intOf];omega
     ·obtain⟨j,rfl⟩: ∃j:Nat,x= -((j:Int)+1):=⟨(-x-1).toNat,by have:=inB_iff.1 e3;omega⟩
      have hj3:(j:Int)+1≤rn:=by have:=inB_iff.1 e3;omega
      have hj:j<acc.length:=by omega
      have G:=hDD (exp1_neg hj3 hj)
      have hat:=hown.cellAt j hj
      have hfr:=hown.free j
      have HO:=hDD (hown.set j (wrap64 (acc[j]-1)) (I64_wrap' _))
      clear hown
      go_wp2_with (go_at_call 56;refine(within_any _ _ _ _).mono ?_;rintro e w' ⟨rfl,rfl⟩)
      go_roundw
      case rel=>exact⟨k+1,by omega,by go_num,by rw[HS.out,G.out];exact HO.out.1,hbel.setCell (Nat.le_refl _) _⟩
      case measure=>simp[intOf];omega
    ·obtain⟨j,rfl⟩: ∃j:Nat,x=(j:Int)+1:=⟨(x-1).toNat,by have:=inB_iff.1 e2;omega⟩
     have hj3:(j:Int)+1≤rn:=by have:=inB_iff.1 e2;omega
     have hj:j<acc.length:=by omega
     have G:=hDD (exp1_pos hj3 hj)
     have hat:=hown.cellAt j hj
     have hfr:=hown.free j
     have HO:=hDD (hown.set j (wrap64 (acc[j]+1)) (I64_wrap' _))
     clear hown
     go_wp2_with (go_at_call 56;refine(within_any _ _ _ _).mono ?_;rintro e w' ⟨rfl,rfl⟩)
     go_roundw
     case rel=>exact⟨k+1,by omega,by go_num,by rw[HS.out,G.out];exact HO.out.1,hbel.setCell (Nat.le_refl _) _⟩
     case measure=>simp[intOf];omega
   ·obtain rfl:k=xs.length:=by omega
    rw[List.take_length] at hown
    have HO:=hDD hown
    clear hown
    go_wp2
    go_ret
    exact⟨_,rfl,by rw[F.out];exact HO.out,hbel⟩
def zeroL (xs:List Int):Bool:=xs.all (· ==0)
theorem zeroL_true {xs:List Int} (h: ∀j (hj:j<xs.length),xs[j]=0):zeroL xs=true:=by
 unfold zeroL
 simp
 intro x hx
 obtain⟨j,hj,rfl⟩:=List.getElem_of_mem hx
 exact h j hj
theorem zeroL_false {xs:List Int} (i:Nat) (hi:i<xs.length) (h:xs[i]≠0):zeroL xs=false:=by
 unfold zeroL
 simp
 exact⟨xs[i],by simp,h⟩
end Go.Proofs.YtlgcflpaekbopaaGreat
namespace Go.Proofs.YtlgcflpaekbopaaGreat
set_option maxRecDepth 20000
set_option linter.unusedVariables false
set_option linter.unusedSimpArgs false
open Go.RowKit
def derB (r:Int) (xs:List Int):Bool:=wordB r xs&&zeroL (expS r xs)
set_option maxHeartbeats 400000 in
theorem implInDerived_any (r:Int) (v:Value) (xs:List Int) (w:World) (h:RdI w v xs) (hl:xs.length≤1073741824):
  Calls Tryz.prog 30 #[.int .i64 r,v] w fun e w'=>e= .returned (.bool (derB r xs))∧Below w.heap.size w w':=by
 have H:=hDD h
 have hE:=expS_len r xs
 clear h
 have hw:=implIsWord_any r v xs w H.out.arg hl
 rcases e1:wordB r xs with _ | _
 ·have F:Hid (derB r xs=false):=hDD (by unfold derB;rw[e1];rfl)
  rw[e1] at hw
  have HW:=hDD hw
  clear hw
  go_enter Tryz.func30,Tryz.ntmps30
  go_wp2_with (go_at_call 72;refine HW.out.mono ?_;rintro e w' ⟨rfl,rfl⟩)
  go_ret
  exact⟨ret_bool F.out.symm,Below.refl _ _⟩
 ·have F:Hid (derB r xs=zeroL (expS r xs)):=hDD (by unfold derB;rw[e1];rfl)
  rw[e1] at hw
  have HW:=hDD hw
  clear hw
  go_enter Tryz.func30,Tryz.ntmps30
  go_wp2_with fail
  refine HW.out.mono ?_
  rintro e w' ⟨rfl,rfl⟩
  go_wp2_with fail
  refine(implExponentSums_any _ _ xs _ H.out hl).mono ?_
  rintro e w1 ⟨u,rfl,o1,b1⟩
  have O1:=hDD o1
  have B1:=hDD b1
  obtain⟨A1,cap1,rfl,hcap1,hm1,_,_⟩:=OwI.form o1
  clear o1 b1
  go_wp2
  have ht:=hE
  generalize expS r xs=ys at ht O1 F
  clear hE
  go_loop [15] (fun i=> ∃k:Nat,k≤ys.length∧i= .int .i64 k∧(∀j (hj:j<ys.length),j<k→ys[j]=0)) (fun i=>ys.length-(intOf i).toNat)
  case atStart=>exact⟨0,Nat.zero_le _,rfl,fun j hj h=>absurd h (by omega)⟩
  case round=>
   obtain⟨k,hk,rfl,hok⟩:=hrel
   have HOK:=hDD hok
   clear hok
   by_cases hlt:k<ys.length
   ·obtain⟨b,off,rfl,_,hc⟩:=O1.out.rd.at (by omega)
    have hcell:=hc k hlt
    have ST:Hid (ys[k]=0→ ∀j (hj:j<ys.length),j<k+1→ys[j]=0):=fun F j hj hjk=>by
     rcases Nat.lt_or_eq_of_le (Nat.le_of_lt_succ hjk) with h | rfl
     ·exact HOK.out j hj h
     ·exact F
    have FA:Hid (ys[k]≠0→zeroL ys=false):=fun F=>zeroL_false k hlt F
    clear hc
    generalize hx:ys[k]=x at hcell ST FA
    clear hx
    rcases e1:(x != 0) with _ | _
    ·have G:=hDD (ST.out (by simpa using e1))
     go_wp2
     go_round
     case rel=>exact⟨k+1,by omega,by go_num,G.out⟩
     case measure=>simp[intOf];omega
    ·have G:=hDD (FA.out (by simpa using e1))
     go_wp2
     go_ret
     exact⟨ret_bool (by rw[F.out,G.out]),B1.out⟩
   ·obtain rfl:k=ys.length:=by omega
    have G:=hDD (zeroL_true (fun j hj=>HOK.out j hj hj))
    go_wp2
    go_ret
    exact⟨ret_bool (by rw[F.out,G.out]),B1.out⟩
end Go.Proofs.YtlgcflpaekbopaaGreat
namespace Go.Proofs.YtlgcflpaekbopaaGreat
set_option maxRecDepth 20000
set_option linter.unusedVariables false
set_option linter.unusedSimpArgs false
open Go.RowKit
theorem lettersL_in {n:Nat} {x:Int} (h:(1≤x∧x≤n)∨(1≤ -x∧ -x≤n)):x∈lettersL n:=by
 induction n with
 | zero=>omega
 | succ n ih=>
   simp only[lettersL,List.mem_append,List.mem_cons,List.not_mem_nil,or_false]
   by_cases e:(1≤x∧x≤n)∨(1≤ -x∧ -x≤n)
   ·exact .inl (ih e)
   ·right;omega
end Go.Proofs.YtlgcflpaekbopaaGreat
namespace Go.Proofs.YtlgcflpaekbopaaGreat
set_option maxRecDepth 20000
set_option linter.unusedVariables false
set_option linter.unusedSimpArgs false
open Go.RowKit
theorem bit_low {m i k:Nat} (h:i<k):bitB (m+2^k) i=bitB m i:=by
 unfold bitB
 obtain⟨d,rfl⟩: ∃d,k=i+1+d:=⟨k-(i+1),by omega⟩
 have e:2^(i+1+d)=2^i*(2*2^d):=by rw[Nat.pow_add,Nat.pow_succ,Nat.mul_assoc]
 rw[e,Nat.add_mul_div_left _ _ (Nat.pow_pos (by decide)),Nat.add_mul_mod_self_left]
theorem bit_top {m k:Nat} (h:m<2^k):bitB (m+2^k) k=true∧bitB m k=false:=by
 unfold bitB
 rw[Nat.add_div_right _ (Nat.pow_pos (by decide)),Nat.div_eq_of_lt h]
 exact⟨rfl,rfl⟩
theorem subTo_low {os:List Int} {m k:Nat}: ∀j,j≤k→subTo os (m+2^k) j=subTo os m j
 | 0,_=>rfl
 | j+1,h=>by
   unfold subTo
   rw[subTo_low j (by omega),bit_low (by omega)]
theorem sub_filter (os:List Int) (p:Int→Bool): ∀k,k≤os.length→ ∃m,m<2^k∧subTo os m k=(os.take k).filter p
 | 0,_=>⟨0,by simp,by simp[subTo]⟩
 | k+1,h=>by
   obtain⟨m,hm,e⟩:=sub_filter os p k (by omega)
   have hk:k<os.length:=by omega
   have hg:os.getD k 0=os[k]:=by simp[List.getD,hk]
   rw[List.take_succ_eq_append_getElem hk,List.filter_append]
   rcases hp:p os[k] with _ | _
   ·refine⟨m,by rw[Nat.pow_succ];omega,?_⟩
    unfold subTo
    rw[e,(bit_top hm).2]
    simp[hp]
   ·refine⟨m+2^k,by rw[Nat.pow_succ];omega,?_⟩
    unfold subTo
    rw[subTo_low k (Nat.le_refl _),e,(bit_top hm).1,hg]
    simp[hp]
def twin (n:Nat) (d:WhD):WhD:=(d.1,(othL (lettersL n) d.1).filter (hasB d.2))
theorem twin_in {n:Nat} {d:WhD} (h1:1≤n) (h3:n≤3) (h:d.1∈lettersL n):twin n d∈allWh n:=by
 have hn:inB (n:Int) 1 3=true:=inB_iff.2 ⟨by omega,by omega⟩
 unfold allWh
 rw[if_pos hn,Int.toNat_natCast]
 unfold allK
 refine List.mem_flatMap.2 ⟨d.1,?_,?_⟩
 ·rw[List.take_of_length_le (by rw[lettersL_len];omega)];exact h
 ·obtain⟨m,hm,e⟩:=sub_filter (othL (lettersL n) d.1) (hasB d.2) _ (Nat.le_refl _)
  rw[List.take_length] at e
  refine List.mem_map.2 ⟨m,List.mem_range.2 hm,?_⟩
  unfold twin
  rw[e]
theorem whB_at {r:Int} {d:WhD} (h:whB r d=true) {x:Int} (hx:x∈d.2):letB r x=true∧x≠d.1∧x≠ -d.1:=by
 unfold whB at h
 simp only[Bool.and_eq_true,List.all_eq_true,List.mem_range] at h
 obtain⟨i,hi,rfl⟩:=List.getElem_of_mem hx
 have:=h.2 i hi
 unfold whAt at this
 simp only[Bool.and_eq_true] at this
 have e:d.2.getD i 0=d.2[i]:=by simp[List.getD,hi]
 rw[e] at this
 exact⟨this.1.1.1,by simpa using this.1.1.2,by simpa using this.1.2⟩
theorem twin_has {n:Nat} {r:Int} {d:WhD} (h:whB r d=true) {x:Int} (hx:x∈lettersL n):hasB (twin n d).2 x=hasB d.2 x:=by
 rw[Bool.eq_iff_iff,hasB_iff,hasB_iff]
 unfold twin othL
 simp only[List.mem_filter,Bool.and_eq_true,bne_iff_ne,ne_eq]
 constructor
 ·exact fun h=>hasB_iff.1 h.2
 ·exact fun q=>⟨⟨hx,(whB_at h q).2.1,(whB_at h q).2.2⟩,hasB_iff.2 q⟩
theorem img_eq {n:Nat} {d e:WhD} (h1:e.1=d.1) (h2: ∀x∈lettersL n,hasB e.2 x=hasB d.2 x) {x:Int} (hx:1≤x∧x≤n):whImg e x=whImg d x:=by
 unfold whImg
 rw[h1,h2 x (lettersL_in (.inl hx)),h2 (-x) (lettersL_in (.inr (by omega)))]
theorem imgs_eq {n:Nat} {d e:WhD} (h1:e.1=d.1) (h2: ∀x∈lettersL n,hasB e.2 x=hasB d.2 x): ∀k,k≤n→whImgs e k=whImgs d k
 | 0,_=>rfl
 | k+1,h=>by
   unfold whImgs
   rw[imgs_eq h1 h2 k (by omega),img_eq h1 h2 (by omega)]
theorem wh_rank {r:Int} {d:WhD} (h:whB r d=true): ∃n:Nat,r=n∧1≤n∧n≤3∧d.1∈lettersL n:=by
 obtain⟨h1,h2⟩:=whB_rank h
 have a:=inB_iff.1 h1
 have b:=(letB_iff h1).1 h2
 exact⟨r.toNat,by omega,by omega,by omega,lettersL_in (by omega)⟩
theorem whB_inv {r:Int} {d:WhD} (h:whB r d=true):whB r (wrap64 (-d.1),d.2)=true:=by
 obtain⟨h1,h2⟩:=whB_rank h
 have a:=inB_iff.1 h1
 have b:=(letB_iff h1).1 h2
 have e:wrap64 (-d.1)= -d.1:=IntWalk.wrap64_in _ ⟨by omega,by omega⟩
 rw[e]
 unfold whB at h⊢
 simp only[Bool.and_eq_true,List.all_eq_true,List.mem_range] at h⊢
 refine⟨⟨h1,(letB_iff h1).2 (by omega)⟩,fun i hi=> ?_⟩
 have:=h.2 i hi
 unfold whAt at this⊢
 rw[Int.neg_neg]
 simp only[Bool.and_eq_true] at this⊢
 exact⟨⟨⟨this.1.1.1,this.1.2⟩,this.1.1.2⟩,this.2⟩
def chkI (n:Nat) (d:WhD):Bool:=(List.range n).all fun i=>expL (whImgs d n) (whImg (wrap64 (-d.1),d.2) ((i:Int)+1))== [(i:Int)+1]
theorem chkI_all:(List.range 4).all (fun n=>(allWh n).all (chkI n))=true:=by kernel_rfl
def chkP (n:Nat) (d:WhD):Bool:=(List.range n).all fun i=>primB n (expL (whImgs d n) [(i:Int)+1])
theorem chkP_all:(List.range 4).all (fun n=>(allWh n).all (chkP n))=true:=by kernel_rfl
theorem allWh_whB:(List.range 4).all (fun n=>(allWh n).all (whB n))=true:=by kernel_rfl
theorem allWh_ok {n:Nat} (h3:n≤3) {d:WhD} (h:d∈allWh n):whB n d=true∧chkI n d=true∧chkP n d=true:=by
 have hn:n∈List.range 4:=List.mem_range.2 (by omega)
 exact⟨List.all_eq_true.1 (List.all_eq_true.1 allWh_whB n hn) d h,List.all_eq_true.1 (List.all_eq_true.1 chkI_all n hn) d h,List.all_eq_true.1 (List.all_eq_true.1 chkP_all n hn) d h⟩
theorem wh_prim {r:Int} {d:WhD} (h:whB r d=true) {i:Int} (hi:1≤i∧i≤r):primB r (expL (whM r d).2 [i])=true:=by
 obtain⟨n,rfl,h1,h3,hl⟩:=wh_rank h
 have ht:=(allWh_ok h3 (twin_in h1 h3 hl)).2.2
 unfold chkP at ht
 have e:=imgs_eq (n:=n) (d:=d) (e:=twin n d) rfl (fun x hx=>twin_has h hx) n (Nat.le_refl _)
 rw[e,List.all_eq_true] at ht
 have:=ht (i-1).toNat (List.mem_range.2 (by omega))
 rw[show(((i-1).toNat:Nat):Int)+1=i by omega] at this
 unfold whM
 rw[if_pos h,Int.toNat_natCast]
 exact this
theorem imgs_get (d:WhD): ∀(n i:Nat) (h:i<n),(whImgs d n).getD i []=whImg d ((i:Int)+1)
 | n+1,i,h=>by
   unfold whImgs
   by_cases q:i<n
   ·rw[←imgs_get d n i q]
    simp[List.getD,List.getElem?_append_left,whImgs_len,q]
   ·have:i=n:=by omega
    subst this
    simp[List.getD,whImgs_len]
theorem wh_inv {r:Int} {d:WhD} (h:whB r d=true) {i:Nat} (hi:(i:Int)<r):expL (whM r d).2 ((whM r (wrap64 (-d.1),d.2)).2.getD i [])= [(i:Int)+1]:=by
 have hv:=whB_inv h
 obtain⟨n,rfl,h1,h3,hl⟩:=wh_rank h
 have ht:=(allWh_ok h3 (twin_in h1 h3 hl)).2.1
 unfold chkI at ht
 have e:=imgs_eq (n:=n) (d:=d) (e:=twin n d) rfl (fun x hx=>twin_has h hx) n (Nat.le_refl _)
 rw[e,List.all_eq_true] at ht
 have:=ht i (List.mem_range.2 (by omega))
 have e2:whImg (wrap64 (-(twin n d).1),(twin n d).2) ((i:Int)+1)=whImg (wrap64 (-d.1),d.2) ((i:Int)+1):=
  img_eq (n:=n) (d:=(wrap64 (-d.1),d.2)) (e:=(wrap64 (-(twin n d).1),(twin n d).2)) rfl (fun x hx=>twin_has h hx) (by omega)
 rw[e2] at this
 unfold whM
 rw[if_pos h,if_pos hv,Int.toNat_natCast,imgs_get _ n i (by omega)]
 exact beq_iff_eq.1 this
inductive RedS (r:Int):List Int→List WhD→List Int→Prop
 | done {c:List Int}:shortF r c=none→RedS r c [] c
 | step {c c':List Int} {d:WhD} {l:List WhD}:shortF r c=some d→RedS r (cycF (whX r d c)) l c'→RedS r c (d::l) c'
theorem redGo_S {r:Int}: ∀(n:Nat) (c:List Int) (l:List WhD),goodF r c→c.length≤n→ ∃l2 c',redGo r n c l=(c',l++l2)∧RedS r c l2 c'
 | 0,c,l,h,hn=>by
   obtain rfl:c= []:=List.eq_nil_of_length_eq_zero (by omega)
   have hs:shortF r []=none:=by
    rcases hs:shortF r [] with _ | d
    ·rfl
    ·have:=shortF_lt hs
     simp at this
   exact⟨[],[],by simp[redGo], .done hs⟩
 | n+1,c,l,h,hn=>by
   rcases hs:shortF r c with _ | d
   ·exact⟨[],c,by rw[redGo_none hs,List.append_nil], .done hs⟩
   ·have hlt:=shortF_lt hs
    obtain⟨l2,c',e,h2⟩:=redGo_S n (cycF (whX r d c)) (l++ [d]) (goodF_next h hs) (by rw[cycF_clen];omega)
    exact⟨d::l2,c',by rw[redGo_some hs,e,List.append_assoc];rfl, .step hs h2⟩
theorem redF_S {r:Int} {w:List Int} (h:wordB r w=true):RedS r (cycF w) (redF r w).2 (redF r w).1:=by
 have hg:=goodF_cyc h
 obtain⟨l2,c',e,h2⟩:=redGo_S 24 (cycF w) [] hg hg.2.2.1
 unfold redF
 rw[if_pos h,e]
 exact h2
theorem RedS.head {r:Int} {c c':List Int} {d:WhD} {l:List WhD} (h:RedS r c (d::l) c'):shortF r c=some d∧RedS r (cycF (whX r d c)) l c':=by
 cases h with
 | step h1 h2=>exact⟨h1,h2⟩
theorem RedS.last {r:Int} {c c':List Int} (h:RedS r c [] c'):shortF r c=none∧c'=c:=by
 cases h with
 | done h1=>exact⟨h1,rfl⟩
theorem RedS.good {r:Int} {c c':List Int} {l:List WhD} (h:RedS r c l c'):goodF r c→goodF r c'∧shortF r c'=none:=by
 induction h with
 | done h1=>exact fun g=>⟨g,h1⟩
 | step h1 _ ih=>exact fun g=>ih (goodF_next g h1)
def eN (i:Int):List Int→Int
 | []=>0
 | x::w=>(if x=i then 1 else if x= -i then-1 else 0)+eN i w
theorem eN_app (i:Int): ∀a b:List Int,eN i (a++b)=eN i a+eN i b
 | [],b=>by simp[eN]
 | x::a,b=>by
   have h:eN i (x::(a++b))=(if x=i then 1 else if x= -i then-1 else 0)+eN i (a++b):=rfl
   have h':eN i (x::a)=(if x=i then 1 else if x= -i then-1 else 0)+eN i a:=rfl
   rw[List.cons_append,h,h',eN_app i a b];omega
theorem eN_one (i x:Int):eN i [x]=if x=i then 1 else if x= -i then-1 else 0:=by simp[eN]
theorem eN_red1 {i:Int} (hi:i≠0) (acc:List Int) (x:Int):eN i (red1 acc x)=eN i acc+eN i [x]:=by
 rcases snoc_cases acc with rfl | ⟨p,l,rfl⟩
 ·simp[red1,eN]
 ·rw[red1_snoc]
  split
  ·rename_i q
   have hx:x= -l:=by
    unfold invB at q
    simp only[Bool.and_eq_true,beq_iff_eq] at q
    exact q.2
   rw[eN_app,eN_one,eN_one,hx]
   repeat' split
   all_goals omega
  ·rw[eN_app]
theorem eN_redL {i:Int} (hi:i≠0): ∀(xs acc:List Int),eN i (redL acc xs)=eN i acc+eN i xs
 | [],acc=>by simp[redL,eN]
 | x::xs,acc=>by
   show eN i (redL (red1 acc x) xs)=_
   rw[eN_redL hi xs,eN_red1 hi]
   rw[show x::xs= [x]++xs from rfl,eN_app i [x] xs]
   omega
theorem eN_neg {i:Int} (hi:i≠0): ∀w:List Int,eN i (w.map fun x=> -x)= -eN i w
 | []=>rfl
 | x::w=>by
   rw[List.map_cons]
   unfold eN
   rw[eN_neg hi w]
   repeat' split
   all_goals omega
theorem eN_rev (i:Int): ∀w:List Int,eN i w.reverse=eN i w
 | []=>rfl
 | x::w=>by
   rw[List.reverse_cons,eN_app,eN_rev i w,eN_one]
   show _=(if x=i then 1 else if x= -i then-1 else 0)+eN i w
   omega
theorem eN_inv {i:Int} (hi:i≠0) {w:List Int} (hw:gL w):eN i (invL w)= -eN i w:=by rw[invL_g hw,eN_rev,eN_neg hi]
theorem eN_invN {i:Int} (hi:i≠0) (w:List Int):eN i (invN w)= -eN i w:=by
 rw[←eN_neg hi,←eN_rev i (w.map _)]
 unfold invN
 first
 | rfl
 | rw[List.map_reverse]
theorem eN_rot (i:Int) (w:List Int) (k:Nat):eN i (rotF w k)=eN i w:=by
 have h:=eN_app i (w.take k) (w.drop k)
 rw[List.take_append_drop] at h
 unfold rotF
 rw[eN_app]
 omega
theorem eN_cyc {i:Int} (hi:i≠0) {w:List Int} (hw: ∀y∈w,Lt3 y):eN i (cycF w)=eN i w∧eN i (coreF w)=eN i w:=by
 have h1:eN i (coreF w)=eN i w:=by
  have h:=core_split (red_lt3 hw)
  have h2:=eN_redL hi w []
  have h3:=congrArg (eN i) h
  rw[eN_app,eN_app,eN_invN hi] at h3
  unfold coreF
  have:eN i ([]:List Int)=0:=rfl
  omega
 refine⟨?_,h1⟩
 unfold cycF
 rw[(lrF_rot _).1,eN_rot,h1]
theorem letB_lt3 {r x:Int} (hr:inB r 1 3=true) (h:letB r x=true):Lt3 x:=by
 have a:=inB_iff.1 hr
 have b:=(letB_iff hr).1 h
 exact⟨by omega,by omega,b.1⟩
theorem eN_exp1 {i:Int} (hi:i≠0) {B:List (List Int)} (hB:B.length≤3) (hg: ∀b∈B,gL b) {x:Int} (hx:Lt3 x):
  eN i (exp1L B x).flatten=eN 1 [x]*eN i (B.getD 0 [])+eN 2 [x]*eN i (B.getD 1 [])+eN 3 [x]*eN i (B.getD 2 []):=by
 have z:eN i ([]:List Int)=0:=rfl
 have inv: ∀j,eN i (invL (B.getD j []))= -eN i (B.getD j []):=fun j=>by
  refine eN_inv hi ?_
  by_cases hj:j<B.length
  ·have e:B.getD j []=B[j]:=by simp[List.getD,hj]
   rw[e];exact hg _ (List.getElem_mem hj)
  ·have e:B.getD j []= []:=by simp[List.getD,Nat.not_lt.1 hj]
   rw[e];exact fun y hy=>by cases hy
 have out: ∀j,B.length≤j→eN i (B[j]?.getD [])=0:=fun j hj=>by
  rw[List.getElem?_eq_none hj];rfl
 obtain⟨h1,h2,h3⟩:=hx
 have:x=1∨x=2∨x=3∨x= -1∨x= -2∨x= -3:=by omega
 unfold exp1L
 rcases this with rfl | rfl | rfl | rfl | rfl | rfl<;>simp only[eN_one]
 ·by_cases q:1≤B.length
  ·rw[if_pos ⟨by omega,by omega⟩];simp
  ·rw[if_neg (by omega),if_neg (by omega)];simp[z,out 0 (by omega)]
 ·by_cases q:2≤B.length
  ·rw[if_pos ⟨by omega,by omega⟩];simp
  ·rw[if_neg (by omega),if_neg (by omega)];simp[z,out 1 (by omega)]
 ·by_cases q:3≤B.length
  ·rw[if_pos ⟨by omega,by omega⟩];simp
  ·rw[if_neg (by omega),if_neg (by omega)];simp[z,out 2 (by omega)]
 ·by_cases q:1≤B.length
  ·rw[if_neg (by omega),if_pos ⟨by omega,by omega⟩];simpa using inv 0
  ·rw[if_neg (by omega),if_neg (by omega)];simp[z,out 0 (by omega)]
 ·by_cases q:2≤B.length
  ·rw[if_neg (by omega),if_pos ⟨by omega,by omega⟩];simpa using inv 1
  ·rw[if_neg (by omega),if_neg (by omega)];simp[z,out 1 (by omega)]
 ·by_cases q:3≤B.length
  ·rw[if_neg (by omega),if_pos ⟨by omega,by omega⟩];simpa using inv 2
  ·rw[if_neg (by omega),if_neg (by omega)];simp[z,out 2 (by omega)]
theorem eN_flat {i:Int} (hi:i≠0) {B:List (List Int)} (hB:B.length≤3) (hg: ∀b∈B,gL b): ∀w:List Int,(∀x∈w,Lt3 x)→
  eN i (w.flatMap (exp1L B)).flatten=eN 1 w*eN i (B.getD 0 [])+eN 2 w*eN i (B.getD 1 [])+eN 3 w*eN i (B.getD 2 [])
 | [],_=>by simp[eN]
 | x::w,h=>by
   rw[List.flatMap_cons,List.flatten_append,eN_app,eN_exp1 hi hB hg (h x (by simp)),eN_flat hi hB hg w fun y hy=>h y (by simp[hy])]
   have e: ∀j,eN j (x::w)=eN j [x]+eN j w:=fun j=>eN_app j [x] w
   rw[e 1,e 2,e 3]
   grind
theorem eN_exp {i:Int} (hi:i≠0) {B:List (List Int)} (hB:B.length≤3) (hg: ∀b∈B,gL b) {w:List Int} (hw: ∀x∈w,Lt3 x) (hl:w.length≤200):
  eN i (expL B w)=eN 1 w*eN i (B.getD 0 [])+eN 2 w*eN i (B.getD 1 [])+eN 3 w*eN i (B.getD 2 []):=by
 unfold expL expParts redLL
 rw[eN_redL hi,List.take_of_length_le hl,eN_flat hi hB hg w hw]
 show 0+_=_
 omega
def Dv (k:Int) (w:List Int):Prop:= ∀i:Int,1≤i→i≤3→k∣eN i w
theorem Dv.exp {k:Int} {B:List (List Int)} (hB:B.length≤3) (hg: ∀b∈B,gL b) {w:List Int} (hw: ∀x∈w,Lt3 x) (hl:w.length≤200) (h:Dv k w):Dv k (expL B w):=fun i h1 h3=>by
 rw[eN_exp (by omega) hB hg hw hl]
 exact Int.dvd_add (Int.dvd_add (Int.dvd_mul_of_dvd_left (h 1 (by omega) (by omega))) (Int.dvd_mul_of_dvd_left (h 2 (by omega) (by omega)))) (Int.dvd_mul_of_dvd_left (h 3 (by omega) (by omega)))
theorem Dv.cyc {k:Int} {w:List Int} (hw: ∀x∈w,Lt3 x) (h:Dv k w):Dv k (cycF w):=fun i h1 h3=>by
 rw[(eN_cyc (by omega) hw).1];exact h i h1 h3
theorem whM_g {r:Int} {d:WhD} (h:whB r d=true): ∀b∈(whM r d).2,gL b:=by
 obtain⟨h1,h2⟩:=whB_rank h
 have a:=inB_iff.1 h1
 intro b hb x hx
 unfold whM at hb
 rw[if_pos h] at hb
 have:=whImgs_mem h2 h1 (by omega) b hb x hx
 obtain⟨q1,q2,q3⟩:=letB_lt3 h1 this
 exact⟨q3,q1,q2⟩
theorem RedS.dv {r k:Int} {c c':List Int} {l:List WhD} (h:RedS r c l c'):goodF r c→Dv k c→Dv k c':=by
 induction h with
 | done h1=>exact fun _ q=>q
 | @step c c' d l h1 _ ih=>
   intro g q
   have hd:whB r d=true:=by
    have hm:=List.mem_of_find?_eq_some h1
    have hr:=inB_iff.1 g.1
    have:=(allWh_ok (n:=r.toNat) (by omega) (d:=d) (by rw[Int.toNat_of_nonneg (by omega)];exact hm)).1
    rwa [Int.toNat_of_nonneg (by omega)] at this
   have hc: ∀x∈c,Lt3 x:=fun x hx=>letB_lt3 g.1 (g.2.1 x hx)
   have hlen:=g.2.2.1
   refine ih (goodF_next g h1) (Dv.cyc (fun x hx=>letB_lt3 g.1 (whX_let g.1 x hx)) (Dv.exp (whM_imgs r d).1 (whM_g hd) hc (by omega) q))
theorem prim_dv {r k:Int} {w:List Int} (h:wordB r w=true) (hp:primB r w=true) (hd:Dv k w):k=1∨k= -1:=by
 have g:=goodF_cyc h
 have hs:=redF_S h
 have hw: ∀x∈w,Lt3 x:=fun x hx=>letB_lt3 g.1 (wordB_let h hx)
 have q:=hs.dv g (Dv.cyc hw hd)
 have hg:=(hs.good g).1
 unfold primB at hp
 have hl:=of_decide_eq_true hp
 obtain⟨y,hy⟩: ∃y,(redF r w).1= [y]:=List.length_eq_one_iff.1 hl
 rw[hy] at q hg
 obtain⟨h1,h2,h3⟩:=letB_lt3 hg.1 (hg.2.1 y (by simp))
 have u:k∣1:=by
  rcases Int.lt_or_gt_of_ne h3 with z | z
  ·have:=q (-y) (by omega) (by omega)
   rw[eN_one,if_neg (by omega),if_pos (by omega)] at this
   exact(Int.dvd_neg).1 this
  ·have:=q y (by omega) (by omega)
   rwa [eN_one,if_pos rfl] at this
 have v:=Nat.dvd_one.1 (Int.natAbs_dvd_natAbs.2 u)
 omega
theorem rep_get (n j:Nat):(List.replicate n (0:Int)).getD j 0=0:=by
 rw[List.getD_eq_getElem?_getD,List.getElem?_replicate]
 split<;>rfl
theorem exp1_get {r x:Int} {acc:List Int} {j:Nat} (hj:j<acc.length) (hr:(j:Int)+1≤r) (hb:(acc.getD j 0).natAbs≤1000000):
  (exp1 r acc x).getD j 0=acc.getD j 0+eN ((j:Int)+1) [x]:=by
 have hs: ∀(k:Nat) (v:Int),(acc.set k v).getD j 0=if k=j then v else acc.getD j 0:=fun k v=>by
  simp only[List.getD_eq_getElem?_getD,List.getElem?_set]
  split
  ·rename_i e;subst e;rw[if_pos hj];rfl
  ·rfl
 have hw: ∀y:Int,y.natAbs≤2000000→wrap64 y=y:=fun y hy=>IntWalk.wrap64_in _ ⟨by omega,by omega⟩
 rw[eN_one]
 unfold exp1
 split
 ·rename_i q
  rw[hs]
  by_cases e:(x-1).toNat=j
  ·rw[if_pos e,if_pos (by omega),e,hw _ (by omega)]
  ·rw[if_neg e,if_neg (by omega),if_neg (by omega)];omega
 ·split
  ·rename_i q1 q
   rw[hs]
   by_cases e:(-x-1).toNat=j
   ·rw[if_pos e,if_neg (by omega),if_pos (by omega),e,hw _ (by omega)];omega
   ·rw[if_neg e,if_neg (by omega),if_neg (by omega)];omega
  ·rename_i q1 q2
   rw[if_neg (by omega),if_neg (by omega)];omega
theorem eN_abs (i:Int): ∀w:List Int,(eN i w).natAbs≤w.length
 | []=>by simp[eN]
 | x::w=>by
   have:=eN_abs i w
   unfold eN
   rw[List.length_cons]
   split
   ·omega
   ·split<;>omega
theorem exps_get {r:Int} {j:Nat} (hr:(j:Int)+1≤r): ∀(xs acc:List Int),j<acc.length→(acc.getD j 0).natAbs+xs.length≤1000000→
  (xs.foldl (exp1 r) acc).getD j 0=acc.getD j 0+eN ((j:Int)+1) xs
 | [],acc,_,_=>by simp[eN]
 | x::xs,acc,hj,hb=>by
   rw[List.length_cons] at hb
   have e:=exp1_get (x:=x) hj hr (by omega)
   have q:=eN_abs ((j:Int)+1) [x]
   rw[List.length_singleton] at q
   rw[List.foldl_cons,exps_get hr xs _ (by rw[exp1_len];exact hj) (by rw[e];omega),e,show x::xs= [x]++xs from rfl,eN_app ((j:Int)+1) [x] xs]
   omega
theorem exp_get {r:Int} (h:inB r 1 3=true) {j:Nat} (hr:(j:Int)+1≤r) {xs:List Int} (hl:xs.length≤1000000):(expS r xs).getD j 0=eN ((j:Int)+1) xs:=by
 have a:=inB_iff.1 h
 unfold expS expF
 rw[if_pos h,exps_get hr xs _ (by rw[List.length_replicate];omega) (by rw[rep_get];simpa using hl),rep_get]
 omega
theorem eN_out {r i:Int} (hr:inB r 1 3=true) (hi:r<i): ∀w:List Int,(∀x∈w,letB r x=true)→eN i w=0
 | [],_=>rfl
 | x::w,h=>by
   have a:=(letB_iff hr).1 (h x (by simp))
   unfold eN
   rw[eN_out hr hi w fun y hy=>h y (by simp[hy]),if_neg (by omega),if_neg (by omega)]
   rfl
theorem der_dv {r:Int} {w:List Int} (h:derB r w=true):wordB r w=true∧Dv 0 w:=by
 unfold derB at h
 rw[Bool.and_eq_true] at h
 have g:=goodF_cyc h.1
 refine⟨h.1,fun i h1 h3=> ?_⟩
 rw[Int.zero_dvd]
 rcases Int.lt_or_le r i with q | q
 ·exact eN_out g.1 q w fun x hx=>wordB_let h.1 hx
 ·have hl:w.length≤24:=by
   have:=h.1
   unfold wordB at this
   simp only[Bool.and_eq_true,decide_eq_true_eq] at this
   exact this.1.2
  have e:=exp_get g.1 (j:=(i-1).toNat) (by omega) (xs:=w) (by omega)
  rw[show(((i-1).toNat:Nat):Int)+1=i by omega] at e
  rw[←e]
  have z:=h.2
  unfold zeroL at z
  rw[List.all_eq_true] at z
  rw[List.getD_eq_getElem?_getD]
  by_cases hj:(i-1).toNat<(expS r w).length
  ·rw[List.getElem?_eq_getElem hj]
   simpa using z _ (List.getElem_mem hj)
  ·rw[List.getElem?_eq_none (by omega)];rfl
theorem rot_mul {c:List Int} {d:Nat} (h:rotF c d=c): ∀m:Nat,d*m≤c.length→rotF c (d*m)=c∧ ∀i,eN i (c.take (d*m))=m*eN i (c.take d)
 | 0,_=>by simp[rotF_zero,eN]
 | m+1,hm=>by
   rw[Nat.mul_succ] at hm⊢
   obtain⟨h1,h2⟩:=rot_mul h m (by omega)
   have e1:(c.drop (d*m)).take d=c.take d:=by
    have:=congrArg (List.take d) h1
    unfold rotF at this
    rwa [List.take_append_of_le_length (by rw[List.length_drop];omega)] at this
   have e2:c.take (d*m+d)=c.take (d*m)++c.take d:=by rw[←e1,List.take_add]
   refine⟨?_,fun i=> ?_⟩
   ·rcases Nat.eq_zero_or_pos c.length with q | q
    ·obtain rfl:c= []:=List.eq_nil_of_length_eq_zero q
     simp[rotF]
    ·have:=rotF_rotF c (d*m) d (by omega) (by omega) q
     rw[h1,h] at this
     rcases Nat.lt_or_ge (d*m+d) c.length with q2 | q2
     ·rw[Nat.mod_eq_of_lt q2] at this;exact this.symm
     ·rw[show d*m+d=c.length by omega]
      simp[rotF]
   ·rw[e2,eN_app,h2 i]
    rw[Int.natCast_add,Int.add_mul]
    simp
theorem pow_dv {w:List Int} (hw: ∀x∈w,Lt3 x) {d k:Nat} (h:rotF (coreF w) d=coreF w) (hk:(coreF w).length=d*k):Dv k w:=fun i h1 h3=>by
 have:=(rot_mul h k (by omega)).2 i
 rw[←hk,List.take_length,(eN_cyc (by omega) hw).2] at this
 rw[this]
 exact Int.dvd_mul_right _ _
end Go.Proofs.YtlgcflpaekbopaaGreat
namespace Go.Proofs.YtlgcflpaekbopaaGreat
set_option maxRecDepth 20000
set_option linter.unusedVariables false
set_option linter.unusedSimpArgs false
open Go.RowKit
def appF (d:MoD) (l:List Int):List Int×Bool:=if(morB d&&wordB d.1 l)=true then(expL d.2 l,true) else([],false)
set_option maxHeartbeats 2000000 in
theorem specApplyMorphism_any (v u:Value) (d:MoD) (l:List Int) (w:World) (h:ArgM w v d) (h':RdI w u l) (hB:d.2.length≤1048576) (hb: ∀x∈d.2,x.length≤1048576) (hl:l.length≤200):
  Calls Tryz.prog 17 #[v,u] w fun e w'=> ∃r,e= .returned (.tuple #[r, .bool (appF d l).2])∧OwI w' w.heap.size r (appF d l).1∧Below w.heap.size w w':=by
 have HM:=hDD (fun W (h:ArgM W v d)=>specIsMorphism_any v d W h (fun x hx=>by have:=hb x hx;omega))
 have H:=hDD h
 obtain⟨s,rfl,-,ha⟩:=h
 obtain⟨r,B⟩:=d
 have HB:=hDD ha
 have HL:=hDD h'
 obtain⟨A,c,rfl,_⟩:=ha.form
 obtain⟨A',c',rfl,_⟩:=h'.arg
 have HE:=hDD (fun W (h1:RdII W (.slice A B.length c) B) (h2:RdI W (.slice A' l.length c') l)=>specExpandBy_any _ _ B l W h1 h2 hB hb hl)
 have HW:=hDD (fun W (h2:RdI W (.slice A' l.length c') l)=>specIsWord_any r _ l W h2.arg (by omega))
 simp only at HB H HM
 clear ha h' hb
 obtain⟨w1,hw1⟩: ∃W,W=w.alloc (Obj.cells #[Value.int IntKind.i64 r,Value.slice A B.length c] 31):=⟨_,rfl⟩
 obtain⟨x1,b1,s1⟩:=MBx.new hw1
 have F:Hid (appF (r,B) l=if(morB (r,B)&&wordB r l)=true then(expL B l,true) else([],false)):=hDD rfl
 generalize appF (r,B) l=ap at*
 generalize morB (r,B)=mb at*
 have HM1:=hDD (HM.out w1 (H.out.below b1))
 have e0:=x1.c0
 have e1:=x1.c1
 replace HB:=hDD (HB.out.below b1)
 replace HL:=hDD (HL.out.below b1)
 have X:=hDD x1
 have BW:=hDD b1
 clear x1 b1 s1 HM H
 rcases mb with _ | _
 ·go_enter Tryz.func17,Tryz.ntmps17
  go_wp2_with fail
  rw[←hw1]
  clear hw1
  refine HM1.out.mono ?_
  rintro e w2 ⟨rfl,b2⟩
  have B2:=hDD (BW.out.trans (b2.mono BW.out.size))
  have hs2:=B2.out.size
  have O:=hDD (OwI_lit (base:=w.heap.size) w2 [] I64s_nil (by simp) hs2)
  clear b2
  go_wp2
  exact bodyPost_ret (v:= .tuple #[.slice (some ⟨w2.heap.size,0,none⟩) 0 0, .bool false]) (by simp[results,Tryz.results17,go_sem]) rfl ⟨_,by rw[F.out];rfl,by rw[F.out];exact O.out,B2.out.alloc hs2 _⟩
 ·rcases ew:wordB r l with _ | _
  all_goals
   rw[ew] at F HW
   clear ew
   go_enter Tryz.func17,Tryz.ntmps17
   go_wp2_with fail
   rw[←hw1]
   clear hw1
   refine HM1.out.mono ?_
   rintro e w2 ⟨rfl,b2⟩
   have B2:=hDD (BW.out.trans (b2.mono BW.out.size))
   have hs2:=B2.out.size
   replace X:=hDD (X.out.below b2)
   replace HB:=hDD (HB.out.below b2)
   replace HL:=hDD (HL.out.below b2)
   have u0:=X.out.c0
   have u1:=X.out.c1
   clear b2 e0 e1 HM1
   go_wp2_with fail
   refine(HW.out _ HL.out).mono ?_
   rintro e w3 ⟨rfl,nd,rfl⟩
   obtain⟨w3,hw3⟩: ∃W,W=w2.drewN nd:=⟨_,rfl⟩
   rw[←hw3]
   have b3:Below w2.heap.size w2 w3:=by rw[hw3];exact bel_drewN (Below.refl _ _) _
   replace X:=hDD (X.out.below b3)
   replace HB:=hDD (HB.out.below b3)
   replace HL:=hDD (HL.out.below b3)
   replace B2:=hDD (B2.out.trans (b3.mono hs2))
   have hs3:=B2.out.size
   clear b3 hw3 u0 u1 HW
   have u0:=X.out.c0
   have u1:=X.out.c1
  ·have O:=hDD (OwI_lit (base:=w.heap.size) w3 [] I64s_nil (by simp) hs3)
   go_wp2
   exact bodyPost_ret (v:= .tuple #[.slice (some ⟨w3.heap.size,0,none⟩) 0 0, .bool false]) (by simp[results,Tryz.results17,go_sem]) rfl ⟨_,by rw[F.out];rfl,by rw[F.out];exact O.out,B2.out.alloc hs3 _⟩
  ·go_wp2_with fail
   refine(HE.out _ HB.out HL.out).mono ?_
   rintro e w4 ⟨rv,rfl,o4,b4⟩
   have O:=hDD (o4.mono hs3)
   have B4:=hDD (B2.out.trans (b4.mono hs3))
   obtain⟨A4,c4,rfl,_⟩:=o4.form
   clear o4 b4
   go_wp2
   exact bodyPost_ret (v:= .tuple #[.slice A4 (expL B l).length c4, .bool true]) (by simp[results,Tryz.results17,go_sem]) rfl ⟨_,by rw[F.out];rfl,by rw[F.out];exact O.out,B4.out⟩
set_option maxHeartbeats 2000000 in
theorem specCyclicLength_any (v:Value) (xs:List Int) (w:World) (h:RdI w v xs) (hl:xs.length≤536870912):
  Calls Tryz.prog 27 #[v] w fun e w'=>e= .returned (.int .i64 (coreF xs).length)∧Below w.heap.size w w':=by
 have H:=hDD h
 clear h
 go_enter Tryz.func27,Tryz.ntmps27
 go_wp2_with fail
 refine(specCyclicCore_any _ xs w H.out hl).mono ?_
 rintro e w1 ⟨cv,pv,rfl,oc,rp,b1⟩
 have B1:=hDD b1
 obtain⟨Ac,cc,rfl,_⟩:=oc.form
 obtain⟨Ap,cp,rfl,_⟩:=rp.arg
 clear oc rp b1
 go_wp2
 go_ret
 exact⟨rfl,B1.out⟩
set_option maxHeartbeats 2000000 in
theorem specIsProperPower_any (v:Value) (xs:List Int) (w:World) (h:RdI w v xs) (hl:xs.length≤1000):
  Calls Tryz.prog 29 #[v] w fun e w'=> ∃b:Bool,e= .returned (.bool b)∧(b=true→ ∃d m:Nat,1<m∧rotF (coreF xs) d=coreF xs∧(coreF xs).length=d*m)∧Below w.heap.size w w':=by
 have H:=hDD h
 clear h
 go_enter Tryz.func29,Tryz.ntmps29
 go_wp2_with fail
 refine(specRootOf_any _ xs w H.out hl).mono ?_
 rintro e w1 ⟨cv,k,ys,rfl,oc,-,hk,b1⟩
 have B1:=hDD b1
 have HK:=hDD hk
 obtain⟨Ac,cc,rfl,_⟩:=oc.form
 clear oc b1 hk
 go_wp2
 go_ret
 refine⟨_,rfl,fun q=> ?_,B1.out⟩
 have q:=of_decide_eq_true q
 obtain⟨d,m,e,h1,h2⟩:=HK.out q
 exact⟨d,m,by omega,h1,h2⟩
end Go.Proofs.YtlgcflpaekbopaaGreat
namespace Go.Proofs.YtlgcflpaekbopaaGreat
set_option maxRecDepth 20000
set_option linter.unusedVariables false
set_option linter.unusedSimpArgs false
open Go.RowKit
def stpE (u x v:Int):EdD:=if 0<x then(u,x,v) else(v,-x,u)
def nxP (N:Nat) (len:Nat) (v:Int) (j:Nat):Int:=if j+1<len then((N+j:Nat):Int) else v
def atP (N:Nat) (len:Nat) (u v:Int):Nat→Int
 | 0=>u
 | j+1=>nxP N len v j
theorem atP_succ (N len:Nat) (u v:Int) (j:Nat):atP N len u v (j+1)=nxP N len v j:=rfl
theorem getD_at {α:Type} {l:List α} {i:Nat} {d:α} (h:i<l.length):l.getD i d=l[i]:=by simp[h]
def pthE (N:Nat) (u v:Int) (w:List Int) (j:Nat):EdD:=stpE (atP N w.length u v j) (w.getD j 0) (nxP N w.length v j)
def pthL (N:Nat) (u v:Int) (w:List Int) (k:Nat):List EdD:=(List.range k).map (pthE N u v w)
theorem pthL_succ (N:Nat) (u v:Int) (w:List Int) (k:Nat):pthL N u v w (k+1)=pthL N u v w k++ [pthE N u v w k]:=by
 unfold pthL
 rw[List.range_succ,List.map_append]
 rfl
theorem pthL_len (N:Nat) (u v:Int) (w:List Int) (k:Nat):(pthL N u v w k).length=k:=by simp[pthL]
def szP (N len j:Nat):Nat:=N+min j (len-1)
theorem szP_succ {N len j:Nat} (h:j<len):szP N len (j+1)=if j+1<len then szP N len j+1 else szP N len j:=by
 unfold szP
 split<;>omega
theorem szP_at {N len j:Nat} (h:j+1<len):szP N len j=N+j:=by
 unfold szP
 omega
theorem atP_range {N len j:Nat} {u v:Int} (hu:0≤u∧u<N) (hv:0≤v∧v<N):0≤atP N len u v j∧atP N len u v j<N+len:=by
 cases j with
 | zero=>show 0≤u∧u<N+len;omega
 | succ j=>
   unfold atP nxP
   split<;>omega
theorem nxP_range {N len j:Nat} {v:Int} (hv:0≤v∧v<N):0≤nxP N len v j∧nxP N len v j<N+len:=by
 unfold nxP
 split<;>omega
def addG (g:GrD) (u v:Int) (w:List Int):GrD:=(g.1,((g.2.1.toNat+(w.length-1):Nat):Int),srt cmpE (g.2.2++pthL g.2.1.toNat u v w w.length))
def addOk (g:GrD) (t:List Int):Bool:=decide (g.2.1+t.length-1≤40∧(g.2.2.length:Int)+t.length≤120)
theorem srt_self {L:List EdD} (h:Srt cmpE L):srt cmpE L=L:=(srt_eq cmpE_ord h fun _=>Iff.rfl).symm
end Go.Proofs.YtlgcflpaekbopaaGreat
namespace Go.Proofs.YtlgcflpaekbopaaGreat
set_option maxRecDepth 20000
set_option linter.unusedVariables false
set_option linter.unusedSimpArgs false
open Go.RowKit
abbrev FoD:=Int×Int
def fo2 (a b:EdD):List FoD:=
 (if a.2.1=b.2.1∧a.1=b.1 then [(min a.2.2 b.2.2,max a.2.2 b.2.2)] else [])++
 (if a.2.1=b.2.1∧a.2.2=b.2.2 then [(min a.1 b.1,max a.1 b.1)] else [])
def foAt (es:List EdD) (i k:Nat):List FoD:=((es.take k).drop (i+1)).flatMap (fo2 (es.getD i (0,0,0)))
def foUp (es:List EdD):Nat→List FoD
 | 0=> []
 | i+1=>foUp es i++foAt es i es.length
def foL (es:List EdD):List FoD:=foUp es es.length
theorem foAt_start (es:List EdD) (i:Nat):foAt es i (i+1)= []:=by
 unfold foAt
 rw[List.drop_eq_nil_of_le (by rw[List.length_take];omega)]
 rfl
theorem foAt_succ (es:List EdD) (i k:Nat) (hk:k<es.length) (hi:i<k):foAt es i (k+1)=foAt es i k++fo2 (es.getD i (0,0,0)) es[k]:=by
 unfold foAt
 rw[List.take_succ_eq_append_getElem hk,List.drop_append_of_le_length (by rw[List.length_take];omega),List.flatMap_append]
 simp
theorem fo2_len (a b:EdD):(fo2 a b).length≤2:=by
 unfold fo2
 rw[List.length_append]
 split<;>split<;>simp
theorem foAt_len (es:List EdD) (i k:Nat):(foAt es i k).length≤2*es.length:=by
 unfold foAt
 have h: ∀L:List EdD,(L.flatMap (fo2 (es.getD i (0,0,0)))).length≤2*L.length:=by
  intro L
  induction L with
  | nil=>simp
  | cons a L ih=>
    rw[List.flatMap_cons,List.length_append,List.length_cons]
    have:=fo2_len (es.getD i (0,0,0)) a
    omega
 have h1:=h ((es.take k).drop (i+1))
 rw[List.length_drop,List.length_take] at h1
 omega
theorem foUp_len (es:List EdD): ∀i,(foUp es i).length≤2*es.length*i
 | 0=>by simp[foUp]
 | i+1=>by
   have h1:=foUp_len es i
   have h2:=foAt_len es i es.length
   unfold foUp
   rw[List.length_append,Nat.mul_succ]
   omega
theorem foAt_mem {es:List EdD} {i k:Nat} (hi:i<k) (hk:k<es.length) {f:FoD} (h:f∈fo2 es[i] es[k]):f∈foAt es i es.length:=by
 unfold foAt
 rw[List.take_length]
 refine List.mem_flatMap.2 ⟨es[k],?_,by simpa[List.getD,show i<es.length by omega] using h⟩
 rw[List.mem_iff_getElem]
 exact⟨k-(i+1),by rw[List.length_drop];omega,by rw[List.getElem_drop];congr 1;omega⟩
theorem foUp_mem {es:List EdD} {i:Nat} {f:FoD} (h:f∈foAt es i es.length): ∀n,i<n→f∈foUp es n
 | 0,hn=>by omega
 | n+1,hn=>by
   unfold foUp
   by_cases e:i=n
   ·subst e;exact List.mem_append.2 (.inr h)
   ·exact List.mem_append.2 (.inl (foUp_mem h n (by omega)))
theorem foUp_from {es:List EdD} {f:FoD}: ∀n,f∈foUp es n→ ∃i,i<n∧f∈foAt es i es.length
 | 0,h=>by cases h
 | n+1,h=>by
   unfold foUp at h
   rcases List.mem_append.1 h with h | h
   ·obtain⟨i,hi,hf⟩:=foUp_from n h
    exact⟨i,by omega,hf⟩
   ·exact⟨n,by omega,h⟩
theorem foL_from {es:List EdD} {f:FoD} (h:f∈foL es): ∃i k,∃(hi:i<k) (hk:k<es.length),f∈fo2 (es[i]'(by omega)) es[k]:=by
 obtain⟨i,hi,hf⟩:=foUp_from _ h
 unfold foAt at hf
 rw[List.take_length] at hf
 obtain⟨b,hb,hf⟩:=List.mem_flatMap.1 hf
 obtain⟨j,hj,rfl⟩:=List.mem_iff_getElem.1 hb
 rw[List.length_drop] at hj
 rw[List.getElem_drop] at hf
 refine⟨i,i+1+j,by omega,by omega,?_⟩
 simpa[List.getD,hi] using hf
theorem fol_of_foL {es:List EdD} (h:foL es= []):Fol es:=by
 refine fol_of fun k hk i hi=> ?_
 rcases e:clash es[k] es[i] with _ | _
 ·rfl
 ·rw[clash_comm] at e
  have hm: ∃f,f∈fo2 es[i] es[k]:=by
   unfold clash at e
   simp only[Bool.and_eq_true,Bool.or_eq_true,beq_iff_eq] at e
   unfold fo2
   rcases e.2 with q | q
   ·exact⟨_,List.mem_append.2 (.inl (by rw[if_pos ⟨e.1,q⟩];exact List.mem_singleton.2 rfl))⟩
   ·exact⟨_,List.mem_append.2 (.inr (by rw[if_pos ⟨e.1,q⟩];exact List.mem_singleton.2 rfl))⟩
  obtain⟨f,hf⟩:=hm
  have:=foUp_mem (foAt_mem hi hk hf) es.length (by omega)
  rw[show foUp es es.length= [] from h] at this
  cases this
theorem gr_srt {g:GrD} (h:grB g=true):Srt cmpE g.2.2:=(gr_nodup h).1
theorem foL_ok {g:GrD} (h:grB g=true) {f:FoD} (hf:f∈foL g.2.2):0≤f.1∧f.1<f.2∧f.2<g.2.1:=by
 obtain⟨i,k,hi,hk,hm⟩:=foL_from hf
 have hne:g.2.2[i]≠g.2.2[k]:=fun e=>by
  have:=(List.pairwise_iff_getElem.1 (gr_srt h)) i k (by omega) hk hi
  rw[e,cmpE_zero.2 rfl] at this
  omega
 have e1:=edge_of_gr h (List.getElem_mem (show i<g.2.2.length by omega))
 have e2:=edge_of_gr h (List.getElem_mem hk)
 generalize g.2.2[i]'(by omega)=a at*
 generalize g.2.2[k]=b at*
 obtain⟨a1,a2,a3⟩:=a
 obtain⟨b1,b2,b3⟩:=b
 simp only at*
 unfold fo2 at hm
 rcases List.mem_append.1 hm with hm | hm
 ·split at hm
  ·rename_i q
   simp only at q
   have:a3≠b3:=fun e=>hne (by rw[q.1,q.2,e])
   rw[List.mem_singleton.1 hm]
   simp only
   omega
  ·cases hm
 ·split at hm
  ·rename_i q
   simp only at q
   have:a1≠b1:=fun e=>hne (by rw[q.1,q.2,e])
   rw[List.mem_singleton.1 hm]
   simp only
   omega
  ·cases hm
def plF (f:FoD) (v:Int):Int:=if v=f.2 then f.1 else if f.2<v then v-1 else v
def plE (f:FoD) (e:EdD):EdD:=(plF f e.1,e.2.1,plF f e.2.2)
def merG (g:GrD) (f:FoD):GrD:=(g.1,g.2.1-1,srt cmpE (g.2.2.map (plE f)))
theorem plF_range {f:FoD} {n v:Int} (hf:0≤f.1∧f.1<f.2∧f.2<n) (hv:0≤v∧v<n):0≤plF f v∧plF f v<n-1:=by
 unfold plF
 split
 ·omega
 ·split<;>omega
theorem grB_merG {g:GrD} {f:FoD} (hg:grB g=true) (hf:0≤f.1∧f.1<f.2∧f.2<g.2.1):grB (merG g f)=true:=by
 obtain⟨h1,h2,h3,_⟩:=grB_parts hg
 have hsp:=srt_spec cmpE_ord (g.2.2.map (plE f))
 refine grB_of h1 ⟨by show(1:Int)≤g.2.1-1;omega,by show g.2.1-1≤40;omega⟩ ?_ hsp.1 fun e he=> ?_
 ·have a:=srt_len (c:=cmpE) (g.2.2.map (plE f))
  rw[List.length_map] at a
  show(srt cmpE (g.2.2.map (plE f))).length≤120
  omega
 ·obtain⟨d,hd,rfl⟩:=List.mem_map.1 ((hsp.2 e).1 he)
  obtain⟨q1,q2,q3⟩:=edge_of_gr hg hd
  exact⟨plF_range hf q1,q2,plF_range hf q3⟩
def folF:Nat→GrD→GrD
 | 0,g=>g
 | n+1,g=>match foL g.2.2 with
   | []=>g
   | f::_=>folF n (merG g f)
def folA (g:GrD):GrD:=folF g.2.1.toNat g
theorem folF_nil {g:GrD} (h:foL g.2.2= []): ∀n,folF n g=g
 | 0=>rfl
 | n+1=>by unfold folF;rw[h]
theorem folF_cons {g:GrD} {f:FoD} {l:List FoD} (h:foL g.2.2=f::l) (n:Nat):folF (n+1) g=folF n (merG g f):=by
 show(match foL g.2.2 with | []=>g | f::_=>folF n (merG g f))=_
 rw[h]
theorem folF_ok: ∀(n:Nat) (g:GrD),grB g=true→g.2.1≤n→foldB (folF n g)=true
 | 0,g,hg,hn=>by have:=(grB_parts hg).2.1;omega
 | n+1,g,hg,hn=>by
   rcases e:foL g.2.2 with _ | ⟨f,l⟩
   ·rw[folF_nil e]
    unfold foldB
    rw[hg,decide_eq_true (fol_of_foL e)]
    rfl
   ·rw[folF_cons e]
    have hf:=foL_ok hg (f:=f) (by rw[e];simp)
    exact folF_ok n (merG g f) (grB_merG hg hf) (by show g.2.1-1≤n;omega)
theorem folA_ok {g:GrD} (hg:grB g=true):foldB (folA g)=true:=folF_ok _ g hg (by have:=(grB_parts hg).2.1;omega)
theorem fol_mem {es:List EdD} (h:Fol es) {a b:EdD} (ha:a∈es) (hb:b∈es) (hne:a≠b):clash a b=false:=by
 unfold Fol at h
 rw[List.pairwise_iff_getElem] at h
 obtain⟨i,hi,rfl⟩:=List.getElem_of_mem ha
 obtain⟨k,hk,rfl⟩:=List.getElem_of_mem hb
 rcases Nat.lt_trichotomy i k with q | q | q
 ·exact h i k hi hk q
 ·subst q;exact absurd rfl hne
 ·rw[clash_comm];exact h k i hk hi q
theorem fol_rnG {g:GrD} (o:List Int) (h:Fol g.2.2):Fol (rnG g o).2.2:=by
 have hsp:=srt_spec cmpE_ord (rnL g.2.2 o)
 show Fol (srt cmpE (rnL g.2.2 o))
 unfold Fol
 refine hsp.1.imp_of_mem fun {x y} hx hy hxy=> ?_
 obtain⟨a,ha,hxa⟩:=List.mem_filterMap.1 ((hsp.2 x).1 hx)
 obtain⟨b,hb,hyb⟩:=List.mem_filterMap.1 ((hsp.2 y).1 hy)
 have hne:a≠b:=fun e=>by
  subst e
  rw[hxa] at hyb
  injection hyb with e
  rw[e,cmpE_zero.2 rfl] at hxy
  omega
 have hc:=fol_mem h ha hb hne
 unfold rnE at hxa hyb
 split at hxa
 ·rename_i p1
  split at hyb
  ·rename_i p2
   injection hxa with hxa
   injection hyb with hyb
   subst hxa hyb
   unfold clash at hc⊢
   rw[Bool.eq_false_iff] at hc⊢
   intro q
   apply hc
   simp only[Bool.and_eq_true,Bool.or_eq_true,beq_iff_eq] at q⊢
   refine⟨q.1,?_⟩
   rcases q.2 with q | q
   ·exact .inl (plv_inj (o:=o) (by omega) (by omega))
   ·exact .inr (plv_inj (o:=o) (by omega) (by omega))
  ·cases hyb
 ·cases hxa
theorem foldB_rnGN {g:GrD} {o:List Int} (h:foldB g=true) (ho:OrdN g.2.1 o):foldB (rnG g o)=true:=by
 obtain⟨h1,h2⟩:=foldB_parts h
 unfold foldB
 rw[grB_rnGN h1 ho,decide_eq_true (fol_rnG o h2)]
 rfl
theorem foldB_rnG {g:GrD} {o:List Int} (h:foldB g=true) (ho:OrdOk g.2.1 o):foldB (rnG g o)=true:=foldB_rnGN h ho.toN
theorem trimF_fold: ∀(n:Nat) (g:GrD) (l:List Int),foldB g=true→foldB (trimF n g l).1=true
 | 0,g,l,h=>h
 | n+1,g,l,h=>by
   unfold trimF
   split
   ·exact h
   ·rename_i hv
    have hsz:=(grB_parts (foldB_parts h).1).2.1
    have hr:=leafV_range g.2.2 g.2.1.toNat
    refine trimF_fold n _ _ (foldB_rnG h ?_)
    have:=delO_ok (n:=g.2.1.toNat) (x:=leafV g.2.2 g.2.1.toNat) (by omega) (by omega)
    rwa [show((g.2.1.toNat:Nat):Int)=g.2.1 by omega] at this
theorem trimG_fold {g:GrD} (h:foldB g=true):foldB (trimG g).1=true:=trimF_fold _ _ _ h
def coreG (g:GrD):GrD:=canG (trimG (folA g)).1
end Go.Proofs.YtlgcflpaekbopaaGreat
namespace Go.Proofs.YtlgcflpaekbopaaGreat
set_option maxRecDepth 20000
set_option linter.unusedVariables false
set_option linter.unusedSimpArgs false
open Go.RowKit
def foC (f:FoD):List Value:= [.int .i64 f.1, .int .i64 f.2]
def foCs (l:List FoD):List Value:=(l.map foC).flatten
theorem foCs_snoc (l:List FoD) (f:FoD):foCs (l++ [f])=foCs l++foC f:=by simp[foCs]
def OwFo (w:World) (base:Nat) (v:Value) (l:List FoD):Prop:=w.ownsRow base 145 2 v l.length (foCs l)
section
variable {w w':World} {base:Nat} {v:Value} {l:List FoD}
theorem OwFo.below (h:OwFo w base v l) (hb:Below w.heap.size w w'):OwFo w' base v l:=ownsRow_below h hb
theorem OwFo.alloc (h:OwFo w base v l) (o:Obj):OwFo (w.alloc o) base v l:=World.ownsRow.alloc h o
theorem OwFo.mono {base':Nat} (h:OwFo w base v l) (hb:base'≤base):OwFo w base' v l:=by
 refine⟨h.1,?_⟩
 rcases h.2 with h0 | ⟨g,cap,cur,hv,hg,r⟩
 ·exact .inl h0
 ·exact .inr ⟨g,cap,cur,hv,Nat.le_trans hb hg,r⟩
theorem OwFo.form (h:OwFo w base v l): ∃A cap,v= .slice A l.length cap∧l.length≤cap∧cap≤maxLen∧(A=none→cap=0)∧(0<l.length→ ∃g,A=some ⟨g,0,none⟩∧base≤g∧g<w.heap.size):=owns_form h
end
theorem fold_info:(Tryz.prog.info? 145).map (fun i=>(i.zero,i.size,i.bytes))=some (some (.agg #[.int .i64 0, .int .i64 0]),2,16):=by kernel_rfl
theorem push_fold {w:World} {ops:Array Oper} {rest:List Oper} {o:Oper} {a:Act} {R:Exit→Act→World→Prop} (hgd:o.guard=none) (s x:Operand)
  (ho:o.op= .call {callee:= .builtin .append,args:= #[s,x],argTypes:= #[124,124]})
  (base:Nat) (v:Value) (l:List FoD) (hown:OwFo w base v l) (hs:a.eval s=v) (b:Nat) (f:FoD) (hx:a.eval x= .slice (some ⟨b,0,none⟩) 1 1)
  (hc: ∀j u,(foC f)[j]? =some u→w.cell? ⟨b,j,none⟩=some u) (hl:l.length≤1073741824) (hbase:base≤w.heap.size)
  (h: ∀v' w',OwFo w' base v' (l++ [f])→w.grownBy w' v.ownBlock→(v'.ownBlock=v.ownBlock∨v'.ownBlock=some w.heap.size)→wpList Tryz.prog ops R rest (a.put o.dst v') w'):
  wpList Tryz.prog ops R (o::rest) a w:=by
 obtain⟨i0,hi0,hz0,hz1,hz2⟩:=info_parts fold_info
 refine wpList_append_own_at _ hgd s x 124 ho base 145 i0 _ 2 16 Tryz.underlying124 hi0 hz0 hz1 hz2 rfl (by decide) v l.length (foCs l) hs hown ⟨b,0,none⟩ 1 1 (foC f) hx rfl ?_ ?_ (by unfold maxLen;omega) (by omega) hbase ?_
 ·intro j u hj
  rw[Addr.add_lit,Nat.zero_add]
  exact hc j u hj
 ·intro u hu
  simp[foC] at hu
  rcases hu with rfl | rfl<;>rfl
 ·intro v' w' h1 h2 h3 h5
  refine h v' w' ?_ h2 h5
  unfold OwFo
  rw[foCs_snoc,List.length_append]
  exact h1
theorem fo_lit (w:World) (a b:Value) (t:TypeId): ∀j u,[a,b][j]? =some u→(w.alloc (.cells #[a,b] t)).cell? ⟨w.heap.size,j,none⟩=some u:=by
 intro j u hj
 match j,hj with
 | 0,hj=>simp at hj;subst hj;simp[go_sem]
 | 1,hj=>simp at hj;subst hj;simp[go_sem]
theorem fo_litN (w:World) (N:Nat) (hN:w.heap.size=N) (a b:Value) (t:TypeId): ∀j u,[a,b][j]? =some u→(w.alloc (.cells #[a,b] t)).cell? ⟨N,j,none⟩=some u:=by
 subst hN;exact fo_lit w a b t
theorem grown_cellF {w w':World} {row:Option Nat} (hg:w.grownBy w' row) {b o:Nat} (hlt:b<w.heap.size) (hne: ∀c,row=some c→c≠b):w'.cell? ⟨b,o,none⟩=w.cell? ⟨b,o,none⟩:=
 World.cell?_of_block (hg.block b hlt fun e=>hne b e.symm rfl)
theorem OwFo_lit (w:World) {base:Nat} (h:base≤w.heap.size):OwFo (w.alloc (.cells #[] 145)) base (.slice (some ⟨w.heap.size,0,none⟩) 0 0) []:=by
 have:=World.ownsRow_lit (e:=145) (size:=2) (base:=base) w #[] 0 h (by unfold maxLen;omega) (by simp)
 simpa[OwFo,foCs] using this
theorem cells2 {W:World} {b:Nat} {u0 u1:Value} (x y:Value) (h0:W.cell? ⟨b,0,none⟩=some u0) (h1:W.cell? ⟨b,1,none⟩=some u1):
  ((W.setCell ⟨b,0,none⟩ x).setCell ⟨b,1,none⟩ y).cell? ⟨b,0,none⟩=some x∧((W.setCell ⟨b,0,none⟩ x).setCell ⟨b,1,none⟩ y).cell? ⟨b,1,none⟩=some y:=
 ⟨by rw[World.cell?_setCell_other _ _ _ _ (by simp),World.cell?_setCell_same _ _ _ h0],World.cell?_setCell_same _ _ _ ((World.cell?_setCell_other _ _ _ _ (by simp)).trans h1)⟩
def firF (g:GrD):FoD×Bool:=if grB g=true then(match foL g.2.2 with | []=>((0,0),false) | f::_=>(f,true)) else((0,0),false)
theorem OwFo.head {w:World} {base g n cap:Nat} {f:FoD} {l:List FoD} (h:OwFo w base (.slice (some ⟨g,0,none⟩) n cap) (f::l)):w.cell? ⟨g,0,none⟩=some (.int .i64 f.1)∧w.cell? ⟨g,1,none⟩=some (.int .i64 f.2):=by
 obtain rfl:n=(f::l).length:=by
  obtain⟨_,_,hv,_⟩:=OwFo.form h
  injection hv
 have h':w.ownsRow base 145 2 (.slice (some ⟨g,0,none⟩) (f::l).length cap) (f::l).length (foCs (f::l)):=h
 have e0:=World.ownsRow.cellAt h' 0 (by simp<;>omega)
 have e1:=World.ownsRow.cellAt h' 1 (by simp<;>omega)
 exact⟨by rw[e0];rfl,by rw[e1];rfl⟩
theorem gbox {w W:World} {a b c:Value} {t:TypeId} (hW:W=w.alloc (.cells #[a,b,c] t)):W.heap.size=w.heap.size+1∧Below w.heap.size w W∧
  (∀w',Below (w.heap.size+1) W w'→w'.cell? ⟨w.heap.size,0,none⟩=some a∧w'.cell? ⟨w.heap.size,1,none⟩=some b∧w'.cell? ⟨w.heap.size,2,none⟩=some c)∧ ∀j w',Below (w.heap.size+1) W w'→w'.frozen? ⟨w.heap.size,j,none⟩=false:=by
 have hs:W.heap.size=w.heap.size+1:=by rw[hW];simp
 have h0:W.cell? ⟨w.heap.size,0,none⟩=some a:=by rw[hW];simp[go_sem]
 have h1:W.cell? ⟨w.heap.size,1,none⟩=some b:=by rw[hW];simp[go_sem]
 have h2:W.cell? ⟨w.heap.size,2,none⟩=some c:=by rw[hW];simp[go_sem]
 refine⟨hs,by rw[hW];exact(Below.refl _ _).alloc (Nat.le_refl _) _,fun w' hb=>⟨(hb.cell (p:=⟨w.heap.size,0,none⟩) (Nat.lt_succ_self _)).trans h0,(hb.cell (p:=⟨w.heap.size,1,none⟩) (Nat.lt_succ_self _)).trans h1,(hb.cell (p:=⟨w.heap.size,2,none⟩) (Nat.lt_succ_self _)).trans h2⟩,fun j w' hb=>(hb.frozen (p:=⟨w.heap.size,j,none⟩) (Nat.lt_succ_self _)).trans ?_⟩
 rw[hW];simp[go_sem]
theorem cells3F {W:World} {b:Nat} {u0 u1 u2:Value} (x y z:Value) (h0:W.cell? ⟨b,0,none⟩=some u0) (h1:W.cell? ⟨b,1,none⟩=some u1) (h2:W.cell? ⟨b,2,none⟩=some u2):
  (((W.setCell ⟨b,0,none⟩ x).setCell ⟨b,1,none⟩ y).setCell ⟨b,2,none⟩ z).cell? ⟨b,0,none⟩=some x∧(((W.setCell ⟨b,0,none⟩ x).setCell ⟨b,1,none⟩ y).setCell ⟨b,2,none⟩ z).cell? ⟨b,1,none⟩=some y∧(((W.setCell ⟨b,0,none⟩ x).setCell ⟨b,1,none⟩ y).setCell ⟨b,2,none⟩ z).cell? ⟨b,2,none⟩=some z:=
 ⟨by rw[World.cell?_setCell_other _ _ _ _ (by simp),World.cell?_setCell_other _ _ _ _ (by simp),World.cell?_setCell_same _ _ _ h0],
  by rw[World.cell?_setCell_other _ _ _ _ (by simp)];exact World.cell?_setCell_same _ _ _ ((World.cell?_setCell_other _ _ _ _ (by simp)).trans h1),
  World.cell?_setCell_same _ _ _ ((World.cell?_setCell_other _ _ _ _ (by simp)).trans ((World.cell?_setCell_other _ _ _ _ (by simp)).trans h2))⟩
def onceG (g:GrD):GrD:=match foL g.2.2 with | []=>g | f::_=>merG g f
theorem setc_other {W:World} {b b' o o':Nat} {u:Value} {x:Option Value} (hne:b≠b') (h:W.cell? ⟨b,o,none⟩=x):(W.setCell ⟨b',o',none⟩ u).cell? ⟨b,o,none⟩=x:=
 (World.cell?_setCell_other _ _ _ _ (by simp[hne])).trans h
theorem once_folA {g:GrD} {f:FoD} {l:List FoD} (hg:grB g=true) (h:foL g.2.2=f::l):folA (merG g f)=folA g:=by
 have hf:=foL_ok hg (f:=f) (by rw[h];simp)
 unfold folA
 obtain⟨n,hn⟩: ∃n,g.2.1.toNat=n+1:=⟨g.2.1.toNat-1,by omega⟩
 rw[hn,folF_cons h,show(merG g f).2.1.toNat=n by show(g.2.1-1).toNat=n;omega]
theorem folA_nil {g:GrD} (h:foL g.2.2= []):folA g=g:=folF_nil h _
end Go.Proofs.YtlgcflpaekbopaaGreat
namespace Go.Proofs.YtlgcflpaekbopaaGreat
set_option maxRecDepth 20000
set_option linter.unusedVariables false
set_option linter.unusedSimpArgs false
open Go.RowKit
section
variable {base:Nat} {w wa w':World} {vo vr vo':Value} {lo lr lo':List Int}
end
end Go.Proofs.YtlgcflpaekbopaaGreat
namespace Go.Proofs.YtlgcflpaekbopaaGreat
set_option maxRecDepth 20000
set_option linter.unusedVariables false
set_option linter.unusedSimpArgs false
open Go.RowKit
theorem own_ne {v v':Value} {x n:Nat} (h: ∀c,v.ownBlock=some c→c≠x) (hat:v'.ownBlock=v.ownBlock∨v'.ownBlock=some n) (hn:n≠x): ∀c,v'.ownBlock=some c→c≠x:=fun c hc=>by
 rcases hat with q | q
 ·exact h c (by rw[←q];exact hc)
 ·rw[q] at hc;injection hc with hc;omega
set_option maxHeartbeats 2000000 in
theorem implFolds_any (v:Value) (g:GrD) (w:World) (h:ArgG w v g) (hl:g.2.2.length≤120):
  Calls Tryz.prog 191 #[v] w fun e w'=> ∃r,e= .returned r∧OwFo w' w.heap.size r (foL g.2.2)∧Below w.heap.size w w':=by
 obtain⟨s,rfl,hi1,hi2,ha⟩:=h
 obtain⟨A,cap,rfl,hcap,hmx,_⟩:=id ha
 obtain⟨g1,N,es⟩:=g
 simp only at*
 have HAE:=hDD ha
 clear ha
 have HUL:=hDD (foUp_len es)
 have HAL:=hDD (foAt_len es)
 go_enter Tryz.func191,Tryz.ntmps191
 have bx:Below w.heap.size w ((w.alloc (Obj.cells #[Value.int IntKind.i64 g1,Value.int IntKind.i64 N, .slice A es.length cap] 82)).alloc (.cells #[] 145)):=(by repeat(first | exact Below.refl _ _ | (refine Below.setCell ?_ (by first | omega | (simp<;>omega)) _) | (refine bel_drewN ?_ _) | (refine Below.drew ?_) | (refine Below.alloc ?_ (by first | omega | (simp<;>omega)) _)))
 have HOU:Hid (OwFo ((w.alloc (Obj.cells #[Value.int IntKind.i64 g1,Value.int IntKind.i64 N, .slice A es.length cap] 82)).alloc (.cells #[] 145)) (w.heap.size+1) (.slice (some ⟨w.heap.size+1,0,none⟩) 0 0) []):=hDD (by
  have:=OwFo_lit (base:=w.heap.size+1) (w.alloc (Obj.cells #[Value.int IntKind.i64 g1,Value.int IntKind.i64 N, .slice A es.length cap] 82)) (by simp)
  simpa using this)
 go_wp2
 obtain⟨W,hW⟩: ∃W,W=((w.alloc (Obj.cells #[Value.int IntKind.i64 g1,Value.int IntKind.i64 N, .slice A es.length cap] 82)).alloc (.cells #[] 145)):=⟨_,rfl⟩
 rw[←hW] at bx HOU⊢
 have hsW:W.heap.size=w.heap.size+2:=by rw[hW];simp
 have L2:Hid (W.cell? ⟨w.heap.size,2,none⟩=some (.slice A es.length cap)):=hDD (by rw[hW];simp[go_sem])
 have BX:=hDD bx
 have HA:Hid (∀w',Below (w.heap.size+1) W w'→ArgE w' (.slice A es.length cap) es):=hDD fun w' hb=>HAE.out.below (BX.out.trans (hb.mono (by omega)))
 clear hW bx
 go_loopw [3,12] (fun out i wr=> ∃k:Nat,k≤es.length∧i= .int .i64 k∧OwFo wr (w.heap.size+1) out (foUp es k)∧Below (w.heap.size+1) W wr) (fun _ i _=>es.length-(intOf i).toNat)
 case atStart=>exact⟨0,Nat.zero_le _,rfl,HOU.out,(Below.refl W.heap.size W).mono (by omega)⟩
 case round=>
  obtain⟨i,hi,rfl,ho,hb⟩:=hrel
  have HO:=hDD ho
  have HB:=hDD hb
  obtain⟨wi,rfl⟩: ∃wi:World,wi=wr:=⟨_,rfl⟩
  clear ho hb
  have hwi:=HB.out.size
  by_cases hlt:i<es.length
  ·have HO1:Hid (OwFo wi (w.heap.size+1) u3 (foUp es i++foAt es i (i+1))):=hDD (by rw[foAt_start,List.append_nil];exact HO.out)
   have HFU:=hDD (show foUp es (i+1)=foUp es i++foAt es i es.length from rfl)
   have hiI:(i:Int)<(es.length:Int):=by omega
   obtain⟨b,off,rfl,hbw,a0,a1,a2,_⟩:=(HA.out wi HB.out).at hlt
   have HGI:Hid (es.getD i (0,0,0)=es[i]):=hDD (by simp[List.getD,hlt])
   generalize es[i]=d at*
   obtain⟨d1,d2,d3⟩:=d
   simp only at a0 a1 a2
   have bA:Below wi.heap.size wi (wi.alloc (Obj.cells #[Value.int IntKind.i64 d1,Value.int IntKind.i64 d2,Value.int IntKind.i64 d3] 154)):=(Below.refl _ _).alloc (Nat.le_refl _) _
   have BA:=hDD (HB.out.trans (bA.mono (by omega)))
   have q2:=(BA.out.cell (p:=⟨w.heap.size,2,none⟩) (by show w.heap.size<w.heap.size+1;omega)).trans L2.out
   have HOA:=hDD (HO1.out.alloc (Obj.cells #[Value.int IntKind.i64 d1,Value.int IntKind.i64 d2,Value.int IntKind.i64 d3] 154))
   have X0:Hid ((wi.alloc (Obj.cells #[Value.int IntKind.i64 d1,Value.int IntKind.i64 d2,Value.int IntKind.i64 d3] 154)).cell? ⟨wi.heap.size,0,none⟩=some (.int .i64 d1)):=hDD (by simp[go_sem])
   have X1:Hid ((wi.alloc (Obj.cells #[Value.int IntKind.i64 d1,Value.int IntKind.i64 d2,Value.int IntKind.i64 d3] 154)).cell? ⟨wi.heap.size,1,none⟩=some (.int .i64 d2)):=hDD (by simp[go_sem])
   have X2:Hid ((wi.alloc (Obj.cells #[Value.int IntKind.i64 d1,Value.int IntKind.i64 d2,Value.int IntKind.i64 d3] 154)).cell? ⟨wi.heap.size,2,none⟩=some (.int .i64 d3)):=hDD (by simp[go_sem])
   have hsA:(wi.alloc (Obj.cells #[Value.int IntKind.i64 d1,Value.int IntKind.i64 d2,Value.int IntKind.i64 d3] 154)).heap.size=wi.heap.size+1:=by simp
   have HN0:Hid (∀c,u3.ownBlock=some c→c≠wi.heap.size):=hDD fun c hc=>by have:=(HO.out.lt c hc).2;omega
   have hw1:IntKind.i64.wrap ((i:Int)+1)=(i:Int)+1:=by rw[IntKind.wrap_i64];omega
   have hs0:(0:Int)≤(i:Int)+1:=by omega
   have hs1:(i:Int)+1≤(es.length:Int):=by omega
   have hsn:((i:Int)+1).toNat=i+1:=by omega
   have hsc:(es.length:Int)≤(cap:Int):=by omega
   clear bA
   by_cases hcp:cap=i+1
   ·have hlast:es.length=i+1:=by omega
    have HZ:=hDD (show es.length-(i+1)=0 by omega)
    have HFL:Hid (foUp es (i+1)=foUp es i):=hDD (by rw[HFU.out,hlast,foAt_start,List.append_nil])
    have HOI:Hid (OwFo (wi.alloc (Obj.cells #[Value.int IntKind.i64 d1,Value.int IntKind.i64 d2,Value.int IntKind.i64 d3] 154)) (w.heap.size+1) u3 (foUp es i)):=hDD (HO.out.alloc _)
    clear hlast
    go_wp2
    rw[HZ.out]
    go_loopw [3,23] (fun out k wr=>k= .int .i64 0∧OwFo wr (w.heap.size+1) out (foUp es i)∧Below (w.heap.size+1) W wr) (fun _ _ _=>0)
    case atStart=>exact⟨rfl,HOI.out,BA.out⟩
    case round=>
     obtain⟨rfl,ho2,hb2⟩:=hrel
     have HO2:=hDD ho2
     have HB2:=hDD hb2
     clear ho2 hb2
     go_wp2
     go_roundw
     case rel=>exact⟨i+1,by omega,by go_num,by rw[HFL.out];exact HO2.out,HB2.out⟩
     case measure=>simp[intOf];omega
   ·have hlen:es.length-(i+1)+(i+1)=es.length:=by omega
    have HLEN:=hDD hlen
    obtain⟨rem,hrem⟩: ∃r,r=es.length-(i+1):=⟨_,rfl⟩
    have hrl:rem+(i+1)=es.length:=by omega
    have HREM:=hDD hrem
    clear hrem hlen
    go_wp2
    rw[←HREM.out]
    obtain⟨WA,hWA⟩: ∃W,W=(wi.alloc (Obj.cells #[Value.int IntKind.i64 d1,Value.int IntKind.i64 d2,Value.int IntKind.i64 d3] 154)):=⟨_,rfl⟩
    rw[←hWA] at BA HOA X0 X1 X2 q2⊢
    have hsA':WA.heap.size=wi.heap.size+1:=by rw[hWA];exact hsA
    clear hWA a0 a1 a2 hsA q2
    go_loopw [3,23] (fun out k wr=> ∃q:Nat,q≤rem∧k= .int .i64 q∧OwFo wr (w.heap.size+1) out (foUp es i++foAt es i (i+1+q))∧Below (w.heap.size+1) W wr∧wr.cell? ⟨wi.heap.size,0,none⟩=some (.int .i64 d1)∧wr.cell? ⟨wi.heap.size,1,none⟩=some (.int .i64 d2)∧wr.cell? ⟨wi.heap.size,2,none⟩=some (.int .i64 d3)∧(∀c,out.ownBlock=some c→c≠wi.heap.size)∧wi.heap.size<wr.heap.size) (fun _ k _=>rem-(intOf k).toNat)
    case atStart=>exact⟨0,Nat.zero_le _,rfl,HOA.out,BA.out,X0.out,X1.out,X2.out,HN0.out,by omega⟩
    case round=>
     obtain⟨q,hq,rfl,ho2,hb2,x0,x1,x2,hxn,hxr⟩:=hrel
     have HO2:=hDD ho2
     have HB2:=hDD hb2
     have HXN:=hDD hxn
     obtain⟨wj,rfl⟩: ∃wj:World,wj=wr:=⟨_,rfl⟩
     clear ho2 hb2 hxn
     have hbase:=HB2.out.size
     by_cases hlt2:q<rem
     ·have hjl:i+1+q<es.length:=by omega
      obtain⟨b',off',hA,hbj,c0,c1,c2,_⟩:=(HA.out wj HB2.out).at hjl
      injection hA with hA
      injection hA with e1 e2
      subst e1 e2
      have HST:=hDD (foAt_succ es i (i+1+q) hjl (by omega))
      rw[HGI.out] at HST
      have hln:(foUp es i++foAt es i (i+1+q)).length≤1000000:=by
       have h1:=HUL.out i
       have h2:=HAL.out i (i+1+q)
       have h3:2*es.length*i≤240*120:=Nat.mul_le_mul (by omega) (by omega)
       rw[List.length_append]
       omega
      rw[show off+(i+1+q)*3=off+(i+1)*3+q*3 by omega] at c0 c1 c2
      generalize es[i+1+q]=d' at*
      obtain⟨f1,f2,f3⟩:=d'
      simp only at c0 c1 c2
      have hqI:(q:Int)<(rem:Int):=by omega
      generalize foAt es i (i+1+q)=FA at*
      have hxj:wi.heap.size≠wj.heap.size:=by omega
      have bB:Below wj.heap.size wj (wj.alloc (Obj.cells #[Value.int IntKind.i64 f1,Value.int IntKind.i64 f2,Value.int IntKind.i64 f3] 154)):=(Below.refl _ _).alloc (Nat.le_refl _) _
      have HBW:Hid (Below (w.heap.size+1) W (wj.alloc (Obj.cells #[Value.int IntKind.i64 f1,Value.int IntKind.i64 f2,Value.int IntKind.i64 f3] 154))):=hDD (HB2.out.alloc (by omega) _)
      have x0':=(bB.cell (p:=⟨wi.heap.size,0,none⟩) hxr).trans x0
      have x1':=(bB.cell (p:=⟨wi.heap.size,1,none⟩) hxr).trans x1
      have x2':=(bB.cell (p:=⟨wi.heap.size,2,none⟩) hxr).trans x2
      clear bB
      rcases e1:(d2==f2) with _ | _
      ·have HE:Hid (foUp es i++foAt es i (i+1+(q+1))=foUp es i++FA):=hDD (by have hne:d2≠f2:=(by simpa using e1);rw[show i+1+(q+1)=i+1+q+1 by omega,HST.out];simp[fo2,hne])
       have hne: ¬d2=f2:=by simpa using e1
       have hne':(d2 != f2)=true:=by simpa using e1
       go_wp2
       go_roundw
       case rel=>exact⟨q+1,by omega,by go_num,by rw[HE.out];exact HO2.out.alloc _,HBW.out,x0',x1',x2',HXN.out,by simp<;>omega⟩
       case measure=>simp[intOf];omega
      have heq':(d2 != f2)=false:=by simpa using e1
      rcases e2:(d1==f1) with _ | _
      ·rcases e3:(d3==f3) with _ | _
       ·have HE:Hid (foUp es i++foAt es i (i+1+(q+1))=foUp es i++FA):=hDD (by have h1:d2=f2:=(by simpa using e1);have h2: ¬d1=f1:=(by simpa using e2);have h3: ¬d3=f3:=(by simpa using e3);rw[show i+1+(q+1)=i+1+q+1 by omega,HST.out];simp[fo2,h1,h2,h3])
        go_wp2
        go_roundw
        case rel=>exact⟨q+1,by omega,by go_num,by rw[HE.out];exact HO2.out.alloc _,HBW.out,x0',x1',x2',HXN.out,by simp<;>omega⟩
        case measure=>simp[intOf];omega
       ·have HE:Hid (foUp es i++foAt es i (i+1+(q+1))=(foUp es i++FA)++ [(min d1 f1,max d1 f1)]):=hDD (by have h1:d2=f2:=(by simpa using e1);have h2: ¬d1=f1:=(by simpa using e2);have h3:d3=f3:=(by simpa using e3);rw[show i+1+(q+1)=i+1+q+1 by omega,HST.out];simp[fo2,h1,h2,h3])
        go_wp2_with (at_builtin;refine push_fold rfl (.tmp 56) (.tmp 68) rfl (w.heap.size+1) _ _ ((HO2.out.alloc _).alloc _) rfl _ (min d1 f1,max d1 f1) rfl (fo_litN _ _ (by simp) _ _ _) (by omega) (by simp<;>omega) ?_;intro v6 w6 o6 g6 p6;have k0:=(grown_cellF g6 (b:=wi.heap.size) (o:=0) (by simp<;>omega) (fun c hc=>by have h1:=(HO2.out.lt c hc).2;have h2:=HXN.out c hc;omega)).trans (((((Below.refl wj.heap.size wj).alloc (Nat.le_refl _) (Obj.cells #[Value.int IntKind.i64 f1,Value.int IntKind.i64 f2,Value.int IntKind.i64 f3] 154)).alloc (by simp<;>omega) (Obj.cells #[Value.int IntKind.i64 (min d1 f1),Value.int IntKind.i64 (max d1 f1)] 145)).cell (p:=⟨wi.heap.size,0,none⟩) (by show wi.heap.size<_;omega)).trans x0);have k1:=(grown_cellF g6 (b:=wi.heap.size) (o:=1) (by simp<;>omega) (fun c hc=>by have h1:=(HO2.out.lt c hc).2;have h2:=HXN.out c hc;omega)).trans (((((Below.refl wj.heap.size wj).alloc (Nat.le_refl _) (Obj.cells #[Value.int IntKind.i64 f1,Value.int IntKind.i64 f2,Value.int IntKind.i64 f3] 154)).alloc (by simp<;>omega) (Obj.cells #[Value.int IntKind.i64 (min d1 f1),Value.int IntKind.i64 (max d1 f1)] 145)).cell (p:=⟨wi.heap.size,1,none⟩) (by show wi.heap.size<_;omega)).trans x1);have k2:=(grown_cellF g6 (b:=wi.heap.size) (o:=2) (by simp<;>omega) (fun c hc=>by have h1:=(HO2.out.lt c hc).2;have h2:=HXN.out c hc;omega)).trans (((((Below.refl wj.heap.size wj).alloc (Nat.le_refl _) (Obj.cells #[Value.int IntKind.i64 f1,Value.int IntKind.i64 f2,Value.int IntKind.i64 f3] 154)).alloc (by simp<;>omega) (Obj.cells #[Value.int IntKind.i64 (min d1 f1),Value.int IntKind.i64 (max d1 f1)] 145)).cell (p:=⟨wi.heap.size,2,none⟩) (by show wi.heap.size<_;omega)).trans x2);have k3:=(grown_cellF g6 (b:=wj.heap.size) (o:=0) (by simp<;>omega) (fun c hc=>by have h1:=(HO2.out.lt c hc).2;have h2:=HXN.out c hc;omega)).trans ((show((wj.alloc (Obj.cells #[Value.int IntKind.i64 f1,Value.int IntKind.i64 f2,Value.int IntKind.i64 f3] 154)).alloc (Obj.cells #[Value.int IntKind.i64 (min d1 f1),Value.int IntKind.i64 (max d1 f1)] 145)).cell? _=some (.int .i64 f1) by simp[go_sem]));have k4:=(grown_cellF g6 (b:=wj.heap.size) (o:=1) (by simp<;>omega) (fun c hc=>by have h1:=(HO2.out.lt c hc).2;have h2:=HXN.out c hc;omega)).trans ((show((wj.alloc (Obj.cells #[Value.int IntKind.i64 f1,Value.int IntKind.i64 f2,Value.int IntKind.i64 f3] 154)).alloc (Obj.cells #[Value.int IntKind.i64 (min d1 f1),Value.int IntKind.i64 (max d1 f1)] 145)).cell? _=some (.int .i64 f2) by simp[go_sem]));have k5:=(grown_cellF g6 (b:=wj.heap.size) (o:=2) (by simp<;>omega) (fun c hc=>by have h1:=(HO2.out.lt c hc).2;have h2:=HXN.out c hc;omega)).trans ((show((wj.alloc (Obj.cells #[Value.int IntKind.i64 f1,Value.int IntKind.i64 f2,Value.int IntKind.i64 f3] 154)).alloc (Obj.cells #[Value.int IntKind.i64 (min d1 f1),Value.int IntKind.i64 (max d1 f1)] 145)).cell? _=some (.int .i64 f3) by simp[go_sem]));have O6:=hDD o6;have B6:Hid (Below (w.heap.size+1) W w6):=hDD (((HB2.out.alloc (by omega) (Obj.cells #[Value.int IntKind.i64 f1,Value.int IntKind.i64 f2,Value.int IntKind.i64 f3] 154)).alloc (by simp<;>omega) (Obj.cells #[Value.int IntKind.i64 (min d1 f1),Value.int IntKind.i64 (max d1 f1)] 145)).grown g6 (by simp<;>omega) (fun k hk=>(HO2.out.lt k hk).1));have P6:=hDD p6;have hq6:wj.heap.size+2≤w6.heap.size:=(by have:=g6.size;simp at this;omega);clear o6 g6 p6)
        go_roundw
        case rel=>exact⟨q+1,by omega,by go_num,by rw[HE.out];exact O6.out,B6.out,k0,k1,k2,own_ne HXN.out P6.out (by simp<;>omega),by omega⟩
        case measure=>simp[intOf];omega
      ·rcases e3:(d3==f3) with _ | _
       ·have HE:Hid (foUp es i++foAt es i (i+1+(q+1))=(foUp es i++FA)++ [(min d3 f3,max d3 f3)]):=hDD (by have h1:d2=f2:=(by simpa using e1);have h2:d1=f1:=(by simpa using e2);have h3: ¬d3=f3:=(by simpa using e3);rw[show i+1+(q+1)=i+1+q+1 by omega,HST.out];simp[fo2,h1,h2,h3])
        go_wp2_with (at_builtin;refine push_fold rfl (.tmp 37) (.tmp 49) rfl (w.heap.size+1) _ _ ((HO2.out.alloc _).alloc _) rfl _ (min d3 f3,max d3 f3) rfl (fo_litN _ _ (by simp) _ _ _) (by omega) (by simp<;>omega) ?_;intro v5 w5 o5 g5 p5;have k0:=(grown_cellF g5 (b:=wi.heap.size) (o:=0) (by simp<;>omega) (fun c hc=>by have h1:=(HO2.out.lt c hc).2;have h2:=HXN.out c hc;omega)).trans (((((Below.refl wj.heap.size wj).alloc (Nat.le_refl _) (Obj.cells #[Value.int IntKind.i64 f1,Value.int IntKind.i64 f2,Value.int IntKind.i64 f3] 154)).alloc (by simp<;>omega) (Obj.cells #[Value.int IntKind.i64 (min d3 f3),Value.int IntKind.i64 (max d3 f3)] 145)).cell (p:=⟨wi.heap.size,0,none⟩) (by show wi.heap.size<_;omega)).trans x0);have k1:=(grown_cellF g5 (b:=wi.heap.size) (o:=1) (by simp<;>omega) (fun c hc=>by have h1:=(HO2.out.lt c hc).2;have h2:=HXN.out c hc;omega)).trans (((((Below.refl wj.heap.size wj).alloc (Nat.le_refl _) (Obj.cells #[Value.int IntKind.i64 f1,Value.int IntKind.i64 f2,Value.int IntKind.i64 f3] 154)).alloc (by simp<;>omega) (Obj.cells #[Value.int IntKind.i64 (min d3 f3),Value.int IntKind.i64 (max d3 f3)] 145)).cell (p:=⟨wi.heap.size,1,none⟩) (by show wi.heap.size<_;omega)).trans x1);have k2:=(grown_cellF g5 (b:=wi.heap.size) (o:=2) (by simp<;>omega) (fun c hc=>by have h1:=(HO2.out.lt c hc).2;have h2:=HXN.out c hc;omega)).trans (((((Below.refl wj.heap.size wj).alloc (Nat.le_refl _) (Obj.cells #[Value.int IntKind.i64 f1,Value.int IntKind.i64 f2,Value.int IntKind.i64 f3] 154)).alloc (by simp<;>omega) (Obj.cells #[Value.int IntKind.i64 (min d3 f3),Value.int IntKind.i64 (max d3 f3)] 145)).cell (p:=⟨wi.heap.size,2,none⟩) (by show wi.heap.size<_;omega)).trans x2);have k3:=(grown_cellF g5 (b:=wj.heap.size) (o:=0) (by simp<;>omega) (fun c hc=>by have h1:=(HO2.out.lt c hc).2;have h2:=HXN.out c hc;omega)).trans ((show((wj.alloc (Obj.cells #[Value.int IntKind.i64 f1,Value.int IntKind.i64 f2,Value.int IntKind.i64 f3] 154)).alloc (Obj.cells #[Value.int IntKind.i64 (min d3 f3),Value.int IntKind.i64 (max d3 f3)] 145)).cell? _=some (.int .i64 f1) by simp[go_sem]));have k4:=(grown_cellF g5 (b:=wj.heap.size) (o:=1) (by simp<;>omega) (fun c hc=>by have h1:=(HO2.out.lt c hc).2;have h2:=HXN.out c hc;omega)).trans ((show((wj.alloc (Obj.cells #[Value.int IntKind.i64 f1,Value.int IntKind.i64 f2,Value.int IntKind.i64 f3] 154)).alloc (Obj.cells #[Value.int IntKind.i64 (min d3 f3),Value.int IntKind.i64 (max d3 f3)] 145)).cell? _=some (.int .i64 f2) by simp[go_sem]));have k5:=(grown_cellF g5 (b:=wj.heap.size) (o:=2) (by simp<;>omega) (fun c hc=>by have h1:=(HO2.out.lt c hc).2;have h2:=HXN.out c hc;omega)).trans ((show((wj.alloc (Obj.cells #[Value.int IntKind.i64 f1,Value.int IntKind.i64 f2,Value.int IntKind.i64 f3] 154)).alloc (Obj.cells #[Value.int IntKind.i64 (min d3 f3),Value.int IntKind.i64 (max d3 f3)] 145)).cell? _=some (.int .i64 f3) by simp[go_sem]));have O5:=hDD o5;have B5:Hid (Below (w.heap.size+1) W w5):=hDD (((HB2.out.alloc (by omega) (Obj.cells #[Value.int IntKind.i64 f1,Value.int IntKind.i64 f2,Value.int IntKind.i64 f3] 154)).alloc (by simp<;>omega) (Obj.cells #[Value.int IntKind.i64 (min d3 f3),Value.int IntKind.i64 (max d3 f3)] 145)).grown g5 (by simp<;>omega) (fun k hk=>(HO2.out.lt k hk).1));have P5:=hDD p5;have G5:=hDD g5;have hz5:=B5.out.size;have hq5:wj.heap.size+2≤w5.heap.size:=(by have:=G5.out.size;simp at this;omega);clear o5 g5 p5)
        go_roundw
        case rel=>exact⟨q+1,by omega,by go_num,by rw[HE.out];exact O5.out,B5.out,k0,k1,k2,own_ne HXN.out P5.out (by simp<;>omega),by omega⟩
        case measure=>simp[intOf];omega
       ·have HE:Hid (foUp es i++foAt es i (i+1+(q+1))=((foUp es i++FA)++ [(min d3 f3,max d3 f3)])++ [(min d1 f1,max d1 f1)]):=hDD (by have h1:d2=f2:=(by simpa using e1);have h2:d1=f1:=(by simpa using e2);have h3:d3=f3:=(by simpa using e3);rw[show i+1+(q+1)=i+1+q+1 by omega,HST.out];simp[fo2,h1,h2,h3])
        go_wp2_with (first | (at_builtin;refine push_fold rfl (.tmp 37) (.tmp 49) rfl (w.heap.size+1) _ _ ((HO2.out.alloc _).alloc _) rfl _ (min d3 f3,max d3 f3) rfl (fo_litN _ _ (by simp) _ _ _) (by omega) (by simp<;>omega) ?_;intro v5 w5 o5 g5 p5;have k0:=(grown_cellF g5 (b:=wi.heap.size) (o:=0) (by simp<;>omega) (fun c hc=>by have h1:=(HO2.out.lt c hc).2;have h2:=HXN.out c hc;omega)).trans (((((Below.refl wj.heap.size wj).alloc (Nat.le_refl _) (Obj.cells #[Value.int IntKind.i64 f1,Value.int IntKind.i64 f2,Value.int IntKind.i64 f3] 154)).alloc (by simp<;>omega) (Obj.cells #[Value.int IntKind.i64 (min d3 f3),Value.int IntKind.i64 (max d3 f3)] 145)).cell (p:=⟨wi.heap.size,0,none⟩) (by show wi.heap.size<_;omega)).trans x0);have k1:=(grown_cellF g5 (b:=wi.heap.size) (o:=1) (by simp<;>omega) (fun c hc=>by have h1:=(HO2.out.lt c hc).2;have h2:=HXN.out c hc;omega)).trans (((((Below.refl wj.heap.size wj).alloc (Nat.le_refl _) (Obj.cells #[Value.int IntKind.i64 f1,Value.int IntKind.i64 f2,Value.int IntKind.i64 f3] 154)).alloc (by simp<;>omega) (Obj.cells #[Value.int IntKind.i64 (min d3 f3),Value.int IntKind.i64 (max d3 f3)] 145)).cell (p:=⟨wi.heap.size,1,none⟩) (by show wi.heap.size<_;omega)).trans x1);have k2:=(grown_cellF g5 (b:=wi.heap.size) (o:=2) (by simp<;>omega) (fun c hc=>by have h1:=(HO2.out.lt c hc).2;have h2:=HXN.out c hc;omega)).trans (((((Below.refl wj.heap.size wj).alloc (Nat.le_refl _) (Obj.cells #[Value.int IntKind.i64 f1,Value.int IntKind.i64 f2,Value.int IntKind.i64 f3] 154)).alloc (by simp<;>omega) (Obj.cells #[Value.int IntKind.i64 (min d3 f3),Value.int IntKind.i64 (max d3 f3)] 145)).cell (p:=⟨wi.heap.size,2,none⟩) (by show wi.heap.size<_;omega)).trans x2);have k3:=(grown_cellF g5 (b:=wj.heap.size) (o:=0) (by simp<;>omega) (fun c hc=>by have h1:=(HO2.out.lt c hc).2;have h2:=HXN.out c hc;omega)).trans ((show((wj.alloc (Obj.cells #[Value.int IntKind.i64 f1,Value.int IntKind.i64 f2,Value.int IntKind.i64 f3] 154)).alloc (Obj.cells #[Value.int IntKind.i64 (min d3 f3),Value.int IntKind.i64 (max d3 f3)] 145)).cell? _=some (.int .i64 f1) by simp[go_sem]));have k4:=(grown_cellF g5 (b:=wj.heap.size) (o:=1) (by simp<;>omega) (fun c hc=>by have h1:=(HO2.out.lt c hc).2;have h2:=HXN.out c hc;omega)).trans ((show((wj.alloc (Obj.cells #[Value.int IntKind.i64 f1,Value.int IntKind.i64 f2,Value.int IntKind.i64 f3] 154)).alloc (Obj.cells #[Value.int IntKind.i64 (min d3 f3),Value.int IntKind.i64 (max d3 f3)] 145)).cell? _=some (.int .i64 f2) by simp[go_sem]));have k5:=(grown_cellF g5 (b:=wj.heap.size) (o:=2) (by simp<;>omega) (fun c hc=>by have h1:=(HO2.out.lt c hc).2;have h2:=HXN.out c hc;omega)).trans ((show((wj.alloc (Obj.cells #[Value.int IntKind.i64 f1,Value.int IntKind.i64 f2,Value.int IntKind.i64 f3] 154)).alloc (Obj.cells #[Value.int IntKind.i64 (min d3 f3),Value.int IntKind.i64 (max d3 f3)] 145)).cell? _=some (.int .i64 f3) by simp[go_sem]));have O5:=hDD o5;have B5:Hid (Below (w.heap.size+1) W w5):=hDD (((HB2.out.alloc (by omega) (Obj.cells #[Value.int IntKind.i64 f1,Value.int IntKind.i64 f2,Value.int IntKind.i64 f3] 154)).alloc (by simp<;>omega) (Obj.cells #[Value.int IntKind.i64 (min d3 f3),Value.int IntKind.i64 (max d3 f3)] 145)).grown g5 (by simp<;>omega) (fun k hk=>(HO2.out.lt k hk).1));have P5:=hDD p5;have G5:=hDD g5;have hz5:=B5.out.size;have hq5:wj.heap.size+2≤w5.heap.size:=(by have:=G5.out.size;simp at this;omega);clear o5 g5 p5) | (at_builtin;have HXN5:Hid (∀c,v5.ownBlock=some c→c≠wi.heap.size):=(hDD (own_ne HXN.out P5.out (by simp<;>omega)));refine push_fold rfl (.tmp 56) (.tmp 68) rfl (w.heap.size+1) _ _ (O5.out.alloc _) rfl _ (min d1 f1,max d1 f1) rfl (fo_litN _ _ (by simp) _ _ _) (by rw[List.length_append];simp only[List.length_singleton];omega) (by simp<;>omega) ?_;intro v6 w6 o6 g6 p6;have k0':=(grown_cellF g6 (b:=wi.heap.size) (o:=0) (by simp<;>omega) (fun c hc=>HXN5.out c hc)).trans ((((Below.refl w5.heap.size w5).alloc (Nat.le_refl _) (Obj.cells #[Value.int IntKind.i64 (min d1 f1),Value.int IntKind.i64 (max d1 f1)] 145)).cell (p:=⟨wi.heap.size,0,none⟩) (by show wi.heap.size<_;omega)).trans k0);have k1':=(grown_cellF g6 (b:=wi.heap.size) (o:=1) (by simp<;>omega) (fun c hc=>HXN5.out c hc)).trans ((((Below.refl w5.heap.size w5).alloc (Nat.le_refl _) (Obj.cells #[Value.int IntKind.i64 (min d1 f1),Value.int IntKind.i64 (max d1 f1)] 145)).cell (p:=⟨wi.heap.size,1,none⟩) (by show wi.heap.size<_;omega)).trans k1);have k2':=(grown_cellF g6 (b:=wi.heap.size) (o:=2) (by simp<;>omega) (fun c hc=>HXN5.out c hc)).trans ((((Below.refl w5.heap.size w5).alloc (Nat.le_refl _) (Obj.cells #[Value.int IntKind.i64 (min d1 f1),Value.int IntKind.i64 (max d1 f1)] 145)).cell (p:=⟨wi.heap.size,2,none⟩) (by show wi.heap.size<_;omega)).trans k2);have O6:=hDD o6;have B6:Hid (Below (w.heap.size+1) W w6):=hDD ((B5.out.alloc (by omega) (Obj.cells #[Value.int IntKind.i64 (min d1 f1),Value.int IntKind.i64 (max d1 f1)] 145)).grown g6 (by simp<;>omega) (fun k hk=>(O5.out.lt k hk).1));have P6:=hDD p6;have hq6:w5.heap.size+1≤w6.heap.size:=(by have:=g6.size;simp at this;omega);clear o6 g6 p6))
        go_roundw
        case rel=>exact⟨q+1,by omega,by go_num,by rw[HE.out];exact O6.out,B6.out,k0',k1',k2',own_ne HXN5.out P6.out (by simp<;>omega),by omega⟩
        case measure=>simp[intOf];omega
     ·obtain rfl:q=rem:=by omega
      have HE:Hid (foUp es (i+1)=foUp es i++foAt es i (i+1+q)):=hDD (by rw[HFU.out,show i+1+q=es.length by omega])
      clear x0 x1 x2
      go_wp2
      go_roundw
      case rel=>exact⟨i+1,by omega,by go_num,by rw[HE.out];exact HO2.out,HB2.out⟩
      case measure=>simp[intOf];omega
  ·obtain rfl:i=es.length:=by omega
   obtain⟨Ao,co,hov,_⟩:=HO.out.form
   subst hov
   have HOF:=hDD (HO.out.mono (show w.heap.size≤w.heap.size+1 by omega))
   have HBF:Hid (Below w.heap.size w wi):=hDD (BX.out.trans (HB.out.mono (by omega)))
   go_wp2
   go_ret
   exact⟨_,rfl,HOF.out,HBF.out⟩
end Go.Proofs.YtlgcflpaekbopaaGreat
namespace Go.Proofs.YtlgcflpaekbopaaGreat
set_option maxRecDepth 20000
set_option linter.unusedVariables false
set_option linter.unusedSimpArgs false
open Go.RowKit
set_option maxHeartbeats 1000000 in
theorem implFirstFold_any (v:Value) (g:GrD) (w:World) (h:ArgG w v g):
  Calls Tryz.prog 173 #[v] w fun e w'=>e= .returned (.tuple #[.agg #[.int .i64 (firF g).1.1, .int .i64 (firF g).1.2], .bool (firF g).2])∧Below w.heap.size w w':=by
 have HG:=hDD h
 obtain⟨s,rfl,hi1,hi2,ha⟩:=h
 obtain⟨A,cap,rfl⟩:=ha.form
 obtain⟨g1,N,es⟩:=g
 simp only at*
 clear ha
 go_enter Tryz.func173,Tryz.ntmps173
 have bx:Below w.heap.size w ((w.alloc (Obj.cells #[Value.int IntKind.i64 g1,Value.int IntKind.i64 N, .slice A es.length cap] 82)).alloc (Obj.cells #[Value.int IntKind.i64 0,Value.int IntKind.i64 0] 145)):=(by repeat(first | exact Below.refl _ _ | (refine Below.setCell ?_ (by first | omega | (simp<;>omega)) _) | (refine bel_drewN ?_ _) | (refine Below.drew ?_) | (refine Below.alloc ?_ (by first | omega | (simp<;>omega)) _)))
 go_wp2_with fail
 obtain⟨W,hW⟩: ∃W,W=(w.alloc (Obj.cells #[Value.int IntKind.i64 g1,Value.int IntKind.i64 N, .slice A es.length cap] 82)).alloc (Obj.cells #[Value.int IntKind.i64 0,Value.int IntKind.i64 0] 145):=⟨_,rfl⟩
 rw[←hW] at bx⊢
 have hsW:W.heap.size=w.heap.size+2:=by rw[hW];simp
 have L0:Hid (W.cell? ⟨w.heap.size,0,none⟩=some (.int .i64 g1)):=hDD (by rw[hW];simp[go_sem])
 have L1:Hid (W.cell? ⟨w.heap.size,1,none⟩=some (.int .i64 N)):=hDD (by rw[hW];simp[go_sem])
 have L2:Hid (W.cell? ⟨w.heap.size,2,none⟩=some (.slice A es.length cap)):=hDD (by rw[hW];simp[go_sem])
 have R0:Hid (W.cell? ⟨w.heap.size+1,0,none⟩=some (.int .i64 0)):=hDD (by rw[hW];simp[go_sem])
 have R1:Hid (W.cell? ⟨w.heap.size+1,1,none⟩=some (.int .i64 0)):=hDD (by rw[hW];simp[go_sem])
 have RF:Hid (∀j,W.frozen? ⟨w.heap.size+1,j,none⟩=false):=hDD fun j=>by rw[hW];simp[go_sem]
 have BX:=hDD bx
 have HA:Hid (∀w',Below W.heap.size W w'→ArgG w' (.agg #[.int .i64 g1, .int .i64 N, .slice A es.length cap]) (g1,N,es)):=hDD fun w' hb=>HG.out.below (BX.out.trans (hb.mono BX.out.size))
 clear hW bx
 refine(implIsGraph_any _ (g1,N,es) W (HA.out _ (Below.refl _ _))).mono ?_
 rintro e w1 ⟨rfl,b1⟩
 have B1:=hDD b1
 have hs1:=b1.size
 have q0:=(b1.cell (p:=⟨w.heap.size,0,none⟩) (by show w.heap.size<_;omega)).trans L0.out
 have q1:=(b1.cell (p:=⟨w.heap.size,1,none⟩) (by show w.heap.size<_;omega)).trans L1.out
 have q2:=(b1.cell (p:=⟨w.heap.size,2,none⟩) (by show w.heap.size<_;omega)).trans L2.out
 have r0:=(b1.cell (p:=⟨w.heap.size+1,0,none⟩) (by show w.heap.size+1<_;omega)).trans R0.out
 have r1:=(b1.cell (p:=⟨w.heap.size+1,1,none⟩) (by show w.heap.size+1<_;omega)).trans R1.out
 have f0:=(b1.frozen (p:=⟨w.heap.size+1,0,none⟩) (by show w.heap.size+1<_;omega)).trans (RF.out 0)
 have f1:=(b1.frozen (p:=⟨w.heap.size+1,1,none⟩) (by show w.heap.size+1<_;omega)).trans (RF.out 1)
 clear b1
 rcases eg:grB (g1,N,es) with _ | _
 ·have F:Hid (firF (g1,N,es)=((0,0),false)):=hDD (by unfold firF;rw[eg];rfl)
  clear eg
  go_wp2
  obtain⟨c0,c1⟩:=cells2 (.int .i64 0) (.int .i64 0) r0 r1
  rw[F.out]
  have HB:Hid (Below w.heap.size w ((w1.setCell ⟨w.heap.size+1,0,none⟩ (.int .i64 0)).setCell ⟨w.heap.size+1,1,none⟩ (.int .i64 0))):=hDD (((BX.out.trans (B1.out.mono BX.out.size)).setCell (by simp) _).setCell (by simp) _)
  exact bodyPost_ret (v:= .tuple #[.agg #[.int .i64 0, .int .i64 0], .bool false]) (by simp[results,Tryz.results173,go_sem,c0,c1]) rfl ⟨rfl,HB.out⟩
 have HGR:=hDD eg
 have h120:=(grB_parts eg).2.2.1
 simp only at h120
 go_wp2_with fail
 refine(implFolds_any _ (g1,N,es) w1 (HA.out _ B1.out) h120).mono ?_
 rintro e w2 ⟨r,rfl,o2,b2⟩
 have O2:=hDD o2
 have B2:=hDD (B1.out.trans (b2.mono hs1))
 have hs2:=b2.size
 have k0:=(b2.cell (p:=⟨w.heap.size+1,0,none⟩) (by show w.heap.size+1<_;omega)).trans r0
 have k1:=(b2.cell (p:=⟨w.heap.size+1,1,none⟩) (by show w.heap.size+1<_;omega)).trans r1
 have j0:=(b2.frozen (p:=⟨w.heap.size+1,0,none⟩) (by show w.heap.size+1<_;omega)).trans f0
 have j1:=(b2.frozen (p:=⟨w.heap.size+1,1,none⟩) (by show w.heap.size+1<_;omega)).trans f1
 obtain⟨A2,c2,rfl,h2,_,_,hg2⟩:=o2.form
 clear o2 b2 q0 q1 q2 r0 r1 f0 f1
 rcases ef:foL es with _ | ⟨f,l⟩
 ·have F:Hid (firF (g1,N,es)=((0,0),false)):=hDD (by unfold firF;rw[if_pos HGR.out];simp only[ef])
  simp only[ef,List.length_nil] at*
  go_wp2
  obtain⟨c0,c1⟩:=cells2 (.int .i64 0) (.int .i64 0) k0 k1
  rw[F.out]
  have HB:Hid (Below w.heap.size w ((w2.setCell ⟨w.heap.size+1,0,none⟩ (.int .i64 0)).setCell ⟨w.heap.size+1,1,none⟩ (.int .i64 0))):=hDD (((BX.out.trans (B2.out.mono BX.out.size)).setCell (by simp) _).setCell (by simp) _)
  exact bodyPost_ret (v:= .tuple #[.agg #[.int .i64 0, .int .i64 0], .bool false]) (by simp[results,Tryz.results173,go_sem,c0,c1]) rfl ⟨rfl,HB.out⟩
 ·have F:Hid (firF (g1,N,es)=(f,true)):=hDD (by unfold firF;rw[if_pos HGR.out];simp only[ef])
  obtain⟨g',rfl,_,_⟩:=hg2 (by simp only[ef];simp)
  have O3:=O2.out
  simp only[ef] at O3
  obtain⟨p0,p1⟩:=O3.head
  have hne: ¬((foL es).length:Int)=0:=by rw[ef];simp;omega
  have hpos:(0:Int)<((foL es).length:Int):=by omega
  have HEF:=hDD ef
  obtain⟨fa,fb⟩:=f
  simp only at p0 p1
  clear ef O3
  generalize (foL es).length=nn at*
  go_wp2
  obtain⟨c0,c1⟩:=cells2 (.int .i64 fa) (.int .i64 fb) k0 k1
  rw[F.out]
  have HB:Hid (Below w.heap.size w ((w2.setCell ⟨w.heap.size+1,0,none⟩ (.int .i64 fa)).setCell ⟨w.heap.size+1,1,none⟩ (.int .i64 fb))):=hDD (((BX.out.trans (B2.out.mono BX.out.size)).setCell (by simp) _).setCell (by simp) _)
  exact bodyPost_ret (v:= .tuple #[.agg #[.int .i64 fa, .int .i64 fb], .bool true]) (by simp[results,Tryz.results173,go_sem,c0,c1]) rfl ⟨rfl,HB.out⟩
theorem place_any (v:Int) (f:FoD) (b:Nat) (w:World) (hv:0≤v∧v≤1000) (h0:w.cell? ⟨b,0,none⟩=some (.int .i64 f.1)) (h1:w.cell? ⟨b,1,none⟩=some (.int .i64 f.2)):
  Calls Tryz.prog 192 #[.int .i64 v, .pointer (some ⟨b,0,none⟩)] w fun e w'=>e= .returned (.int .i64 (plF f v))∧w=w':=by
 obtain⟨a,d⟩:=f
 simp only at h0 h1⊢
 have hw:IntKind.i64.wrap (v-1)=v-1:=by rw[IntKind.wrap_i64];omega
 rcases e1:(v==d) with _ | _
 ·have h1: ¬v=d:=by simpa using e1
  rcases e2:decide (d<v) with _ | _
  ·have h2: ¬d<v:=by simpa using e2
   go_enter Tryz.func192,Tryz.ntmps192
   go_wp2
   go_ret
   exact⟨ret_int (by unfold plF;rw[if_neg h1,if_neg (show ¬d<v by omega)]),rfl⟩
  ·have h2:d<v:=by simpa using e2
   go_enter Tryz.func192,Tryz.ntmps192
   go_wp2
   go_ret
   exact⟨ret_int (by unfold plF;rw[if_neg h1,if_pos h2]),rfl⟩
 ·have h1:v=d:=by simpa using e1
  go_enter Tryz.func192,Tryz.ntmps192
  go_wp2
  go_ret
  exact⟨ret_int (by unfold plF;rw[if_pos h1]),rfl⟩
theorem map_step (es:List EdD) (p:EdD→EdD) (k:Nat) (h:k<es.length):((es.take k).map p++es.drop k).set k (p es[k])=(es.take (k+1)).map p++es.drop (k+1):=by
 have hl:((es.take k).map p).length=k:=by rw[List.length_map,List.length_take];omega
 rw[List.set_append_right _ _ (by omega),hl,Nat.sub_self,List.drop_eq_getElem_cons h,List.set_cons_zero,List.take_succ_eq_append_getElem h,List.map_append]
 simp
set_option maxHeartbeats 2000000 in
theorem implMergeVertices_any (v:Value) (g:GrD) (f:FoD) (w:World) (h:ArgG w v g) (hg:grB g=true) (hf:0≤f.1∧f.1<f.2∧f.2<g.2.1):
  Calls Tryz.prog 174 #[v, .agg #[.int .i64 f.1, .int .i64 f.2]] w fun e w'=> ∃r,e= .returned (.tuple #[r, .bool true])∧OwG w' w.heap.size r (merG g f)∧Below w.heap.size w w':=by
 have HG:=hDD h
 have HGR:=hDD hg
 obtain⟨h13,h40,h120,_⟩:=grB_parts hg
 have HED:=hDD fun e (he:e∈g.2.2)=>edge_of_gr hg he
 obtain⟨s,rfl,hi1,hi2,ha⟩:=h
 obtain⟨A,cap,rfl⟩:=ha.form
 obtain⟨g1,N,es⟩:=g
 obtain⟨fa,fb⟩:=f
 simp only at*
 clear ha hg
 have hN1:IntKind.i64.wrap (N-1)=N-1:=by rw[IntKind.wrap_i64];omega
 have hc1:decide (fa<0)=false:=by simp;omega
 have hc2:decide (fb≤fa)=false:=by simp;omega
 have hc3:decide (N≤fb)=false:=by simp;omega
 have hmf: ∀(fn:Fn) (first cap:Array Value) (w:World),(Instr.makeFunc fn first cap).run Tryz.prog w= .ok (.func fn first cap) w:=fun _ _ _ _=>rfl
 go_enter Tryz.func174,Tryz.ntmps174
 have bx:Below w.heap.size w (((w.alloc (Obj.cells #[Value.int IntKind.i64 g1,Value.int IntKind.i64 N, .slice A es.length cap] 82)).alloc (Obj.cells #[Value.int IntKind.i64 fa,Value.int IntKind.i64 fb] 145)).alloc (Obj.cells #[Value.int IntKind.i64 0,Value.int IntKind.i64 0, .slice none 0 0] 82)):=(by repeat(first | exact Below.refl _ _ | (refine Below.setCell ?_ (by first | omega | (simp<;>omega)) _) | (refine bel_drewN ?_ _) | (refine Below.drew ?_) | (refine Below.alloc ?_ (by first | omega | (simp<;>omega)) _)))
 go_wp2_with fail
 obtain⟨W,hW⟩: ∃W,W=(((w.alloc (Obj.cells #[Value.int IntKind.i64 g1,Value.int IntKind.i64 N, .slice A es.length cap] 82)).alloc (Obj.cells #[Value.int IntKind.i64 fa,Value.int IntKind.i64 fb] 145)).alloc (Obj.cells #[Value.int IntKind.i64 0,Value.int IntKind.i64 0, .slice none 0 0] 82)):=⟨_,rfl⟩
 rw[←hW] at bx⊢
 have hsW:W.heap.size=w.heap.size+3:=by rw[hW];simp
 have L0:Hid (W.cell? ⟨w.heap.size,0,none⟩=some (.int .i64 g1)):=hDD (by rw[hW];simp[go_sem])
 have L1:Hid (W.cell? ⟨w.heap.size,1,none⟩=some (.int .i64 N)):=hDD (by rw[hW];simp[go_sem])
 have L2:Hid (W.cell? ⟨w.heap.size,2,none⟩=some (.slice A es.length cap)):=hDD (by rw[hW];simp[go_sem])
 have M0:Hid (W.cell? ⟨w.heap.size+1,0,none⟩=some (.int .i64 fa)):=hDD (by rw[hW];simp[go_sem])
 have M1:Hid (W.cell? ⟨w.heap.size+1,1,none⟩=some (.int .i64 fb)):=hDD (by rw[hW];simp[go_sem])
 have R0:Hid (W.cell? ⟨w.heap.size+1+1,0,none⟩=some (.int .i64 0)):=hDD (by rw[hW];simp[go_sem])
 have R1:Hid (W.cell? ⟨w.heap.size+1+1,1,none⟩=some (.int .i64 0)):=hDD (by rw[hW];simp[go_sem])
 have R2:Hid (W.cell? ⟨w.heap.size+1+1,2,none⟩=some (.slice none 0 0)):=hDD (by rw[hW];simp[go_sem])
 have RF:Hid (∀j,W.frozen? ⟨w.heap.size+1+1,j,none⟩=false):=hDD fun j=>by rw[hW];simp[go_sem]
 have BX:=hDD bx
 have HA:Hid (∀w',Below W.heap.size W w'→ArgG w' (.agg #[.int .i64 g1, .int .i64 N, .slice A es.length cap]) (g1,N,es)):=hDD fun w' hb=>HG.out.below (BX.out.trans (hb.mono BX.out.size))
 clear hW bx
 refine(copyGraph_any _ (g1,N,es) W (HA.out _ (Below.refl _ _)) (by simp only;omega)).mono ?_
 rintro e w1 ⟨r,rfl,o1,b1⟩
 have B1:=hDD b1
 have hs1:=b1.size
 obtain⟨s1,rfl,_,_,oe1⟩:=o1
 obtain⟨A1,c1,rfl,hc1n,hc1m,hA1,_⟩:=oe1.form
 simp only at*
 have OE1:=hDD oe1
 clear b1 oe1
 have bX:Below w1.heap.size w1 (w1.alloc (Obj.cells #[Value.int IntKind.i64 g1,Value.int IntKind.i64 N, .slice A1 es.length c1] 82)):=(Below.refl _ _).alloc (Nat.le_refl _) _
 have BA:=hDD (B1.out.trans (bX.mono hs1))
 have HCW:Hid (∀w',Below W.heap.size W w'→w'.cell? ⟨w.heap.size,0,none⟩=some (.int .i64 g1)∧w'.cell? ⟨w.heap.size,1,none⟩=some (.int .i64 N)∧w'.cell? ⟨w.heap.size,2,none⟩=some (.slice A es.length cap)∧w'.cell? ⟨w.heap.size+1,0,none⟩=some (.int .i64 fa)∧w'.cell? ⟨w.heap.size+1,1,none⟩=some (.int .i64 fb)):=hDD fun w' hb2=>
  ⟨(hb2.cell (p:=⟨w.heap.size,0,none⟩) (by show w.heap.size<_;omega)).trans L0.out,(hb2.cell (p:=⟨w.heap.size,1,none⟩) (by show w.heap.size<_;omega)).trans L1.out,(hb2.cell (p:=⟨w.heap.size,2,none⟩) (by show w.heap.size<_;omega)).trans L2.out,(hb2.cell (p:=⟨w.heap.size+1,0,none⟩) (by show w.heap.size+1<_;omega)).trans M0.out,(hb2.cell (p:=⟨w.heap.size+1,1,none⟩) (by show w.heap.size+1<_;omega)).trans M1.out⟩
 obtain⟨q0,q1,q2,q3,q4⟩:=HCW.out _ BA.out
 go_wp2_with fail
 obtain⟨W2,hW2⟩: ∃W,W=w1.alloc (Obj.cells #[Value.int IntKind.i64 g1,Value.int IntKind.i64 N, .slice A1 es.length c1] 82):=⟨_,rfl⟩
 have X0:Hid (W2.cell? ⟨w1.heap.size,0,none⟩=some (.int .i64 g1)):=hDD (by rw[hW2];simp[go_sem])
 have X1:Hid (W2.cell? ⟨w1.heap.size,1,none⟩=some (.int .i64 N)):=hDD (by rw[hW2];simp[go_sem])
 have X2:Hid (W2.cell? ⟨w1.heap.size,2,none⟩=some (.slice A1 es.length c1)):=hDD (by rw[hW2];simp[go_sem])
 have XF:Hid (∀j,W2.frozen? ⟨w1.heap.size,j,none⟩=false):=hDD fun j=>by rw[hW2];simp[go_sem]
 have hsW2:W2.heap.size=w1.heap.size+1:=by rw[hW2];simp
 rw[←hW2] at bX BA⊢
 clear hW2 q0 q1 q2 q3 q4
 have hgi:=implIsGraph_any _ (g1,N,es) W2 (HA.out _ BA.out)
 rw[HGR.out] at hgi
 refine hgi.mono ?_
 rintro e w3 ⟨rfl,b3⟩
 have hs3:=b3.size
 have B3:=hDD (BA.out.trans (b3.mono BA.out.size))
 obtain⟨q0,q1,q2,q3,q4⟩:=HCW.out _ B3.out
 have x0:=(b3.cell (p:=⟨w1.heap.size,0,none⟩) (by show w1.heap.size<_;omega)).trans X0.out
 have x1:=(b3.cell (p:=⟨w1.heap.size,1,none⟩) (by show w1.heap.size<_;omega)).trans X1.out
 have x2:=(b3.cell (p:=⟨w1.heap.size,2,none⟩) (by show w1.heap.size<_;omega)).trans X2.out
 have XF3:Hid (∀j,w3.frozen? ⟨w1.heap.size,j,none⟩=false):=hDD fun j=>(b3.frozen (p:=⟨w1.heap.size,j,none⟩) (by show w1.heap.size<_;omega)).trans (XF.out j)
 have OE3:=hDD ((OE1.out.below bX).below b3)
 clear b3 hgi bX
 have XX0:=hDD x0
 have XX1:=hDD x1
 have XX2:=hDD x2
 have HOB:Hid (∀b,(Value.slice A1 es.length c1).ownBlock=some b→W.heap.size≤b∧b<w1.heap.size):=hDD fun b hb=>OE1.out.1.lt b hb
 go_wp2
 have hne0: ∀b,(Value.slice A1 es.length c1).ownBlock=some b→b<w3.heap.size∧b≠w1.heap.size:=fun b hb=>by have:=HOB.out b hb;omega
 have HNE:=hDD hne0
 clear hne0 q0 q1 q2 q3 q4 x0 x1 x2
 go_loopw [39] (fun i wr=> ∃k:Nat,k≤es.length∧i= .int .i64 k∧OwE wr W.heap.size (.slice A1 es.length c1) ((es.take k).map (plE (fa,fb))++es.drop k)∧w3.grownBy wr (Value.slice A1 es.length c1).ownBlock) (fun i _=>es.length-(intOf i).toNat)
 case atStart=>exact⟨0,Nat.zero_le _,rfl,OE3.out,World.grownBy.refl _ _⟩
 case round=>
  obtain⟨k,hk,rfl,how,hgr⟩:=hrel
  have HOW:=hDD how
  have HGW:=hDD hgr
  obtain⟨wk,rfl⟩: ∃wk:World,wk=wr:=⟨_,rfl⟩
  have hsk:=hgr.size
  clear how hgr
  have HCK:Hid (∀b o,b<w3.heap.size→(∀c,(Value.slice A1 es.length c1).ownBlock=some c→c≠b)→wk.cell? ⟨b,o,none⟩=w3.cell? ⟨b,o,none⟩):=hDD fun b o hb hne=>grown_cellF HGW.out hb hne
  obtain⟨q0,q1,q2,q3,q4⟩:=HCW.out _ B3.out
  have hWs: ∀b,b<W.heap.size→ ∀c,(Value.slice A1 es.length c1).ownBlock=some c→c≠b:=fun b hb c hc=>by have:=(HOB.out c hc).1;omega
  have y3:=(HCK.out (w.heap.size+1) 0 (by omega) (hWs _ (by omega))).trans q3
  have y4:=(HCK.out (w.heap.size+1) 1 (by omega) (hWs _ (by omega))).trans q4
  have yx:=(HCK.out w1.heap.size 2 (by omega) (fun c hc=>(HNE.out c hc).2)).trans XX2.out
  clear q0 q1 q2 q3 q4 hWs hmf
  by_cases hlt:k<es.length
  ·have hlen:((es.take k).map (plE (fa,fb))++es.drop k).length=es.length:=by rw[List.length_append,List.length_map,List.length_take,List.length_drop];omega
   obtain⟨_,_,hv,_,_,_,hgl⟩:=HOW.out.form
   injection hv with hv1 hv2 hv3
   clear hv2 hv3
   obtain⟨gl,hA,_,hglt⟩:=hgl (by omega)
   rw[←hv1] at hA
   subst hA
   obtain⟨c0,c1',c2⟩:=HOW.out.cellAt k (by omega)
   have hgk:((es.take k).map (plE (fa,fb))++es.drop k)[k]'(by omega)=es[k]:=by
    rw[List.getElem_append_right (by rw[List.length_map,List.length_take];omega)]
    simp only[List.length_map,List.length_take,List.getElem_drop]
    congr 1
    omega
   rw[hgk] at c0 c1' c2
   have hed:=HED.out es[k] (List.getElem_mem hlt)
   have HST:Hid (((es.take k).map (plE (fa,fb))++es.drop k).set k (plE (fa,fb) es[k])=(es.take (k+1)).map (plE (fa,fb))++es.drop (k+1)):=hDD (map_step es (plE (fa,fb)) k hlt)
   have HFR:=hDD HOW.out.free
   have hkI:(k:Int)<(es.length:Int):=by omega
   have HPE:Hid (plE (fa,fb) es[k]=(plF (fa,fb) es[k].1,es[k].2.1,plF (fa,fb) es[k].2.2)):=hDD rfl
   have HP1:=hDD (plF_range (f:=(fa,fb)) (n:=N) (v:=es[k].1) hf hed.1)
   have HP2:=hDD (plF_range (f:=(fa,fb)) (n:=N) (v:=es[k].2.2) hf hed.2.2)
   have HLN:=hDD hlen
   clear hgk hlen hv1 hgl
   generalize es[k]=d at*
   obtain⟨a,l,c⟩:=d
   simp only at c0 c1' c2 hed
   have bE:Below wk.heap.size wk (wk.alloc (Obj.cells #[Value.int IntKind.i64 a,Value.int IntKind.i64 l,Value.int IntKind.i64 c] 154)):=(Below.refl _ _).alloc (Nat.le_refl _) _
   go_wp2_with fail
   obtain⟨WE,hWE⟩: ∃W,W=wk.alloc (Obj.cells #[Value.int IntKind.i64 a,Value.int IntKind.i64 l,Value.int IntKind.i64 c] 154):=⟨_,rfl⟩
   have l0:WE.cell? ⟨wk.heap.size,0,none⟩=some (.int .i64 a):=by rw[hWE];simp[go_sem]
   have l1:WE.cell? ⟨wk.heap.size,1,none⟩=some (.int .i64 l):=by rw[hWE];simp[go_sem]
   have l2:WE.cell? ⟨wk.heap.size,2,none⟩=some (.int .i64 c):=by rw[hWE];simp[go_sem]
   have hsE:WE.heap.size=wk.heap.size+1:=by rw[hWE];simp
   rw[←hWE] at bE⊢
   clear hWE
   have z3:=(bE.cell (p:=⟨w.heap.size+1,0,none⟩) (by show w.heap.size+1<_;omega)).trans y3
   have z4:=(bE.cell (p:=⟨w.heap.size+1,1,none⟩) (by show w.heap.size+1<_;omega)).trans y4
   have zx:=(bE.cell (p:=⟨w1.heap.size,2,none⟩) (by show w1.heap.size<_;omega)).trans yx
   have zc0:=(bE.cell (p:=⟨gl,k*3,none⟩) hglt).trans c0
   have zc1:=(bE.cell (p:=⟨gl,k*3+1,none⟩) hglt).trans c1'
   have zc2:=(bE.cell (p:=⟨gl,k*3+2,none⟩) hglt).trans c2
   have BE:=hDD bE
   clear bE y3 y4 yx c0 c1' c2
   have f0:=BelW.cell l0 (by omega)
   have f1:=BelW.cell l1 (by omega)
   have f2:=BelW.cell l2 (by omega)
   have f3:=BelW.cell z3 (by omega)
   have f4:=BelW.cell z4 (by omega)
   have f5:=BelW.cell zx (by omega)
   have HN:Hid (∀x:Int,0≤x∧x≤1000→ ∀p:BelW WE,Calls Tryz.prog 192 #[.int .i64 x, .pointer (some ⟨w.heap.size+1,0,none⟩)] p.W fun e w'=>e= .returned (.int .i64 (plF (fa,fb) x))∧p.W=w'):=hDD fun x hx p=>place_any x (fa,fb) (w.heap.size+1) p.W hx (f3 p) (f4 p)
   have hda:0≤a∧a≤1000:=by omega
   have hdc:0≤c∧c≤1000:=by omega
   (refine wp_region_quiet_last 15 (by kernel_rfl) (by rfl) (by kernel_rfl) (by kernel_rfl) ?_;dsimp only[dumL,lastL];(repeat(go_big_quiet_step ((go_at_call 192;exact Calls.bel_same (HN.out _ (by assumption) _)))));refine wpQuiet_nil ?_;intro wq hw';obtain⟨pq,hw''⟩:=hw';have bq:=pq.h;rw[←hw''] at bq;clear hw'' pq)
   clear f0 f1 f2 f3 f4 f5
   have v0:=(bq.cell (p:=⟨gl,k*3,none⟩) (by show gl<_;omega)).trans zc0
   have v1:=(bq.cell (p:=⟨gl,k*3+1,none⟩) (by show gl<_;omega)).trans zc1
   have v2:=(bq.cell (p:=⟨gl,k*3+2,none⟩) (by show gl<_;omega)).trans zc2
   have HFQ:Hid (∀j,wq.frozen? ⟨gl,j,none⟩=false):=hDD fun j=>(bq.frozen (p:=⟨gl,j,none⟩) (by show gl<_;omega)).trans ((BE.out.frozen (p:=⟨gl,j,none⟩) hglt).trans (HFR.out j))
   have g0:=HFQ.out (k*3)
   have g1':=HFQ.out (k*3+1)
   have g2:=HFQ.out (k*3+2)
   have hp1:=HP1.out
   have hp2:=HP2.out
   have HSET:=hDD (((HOW.out.below BE.out).below bq).set k (by rw[HLN.out];exact hlt) (x:=plF (fa,fb) a) (y:=l) (z:=plF (fa,fb) c) ⟨by omega,by omega⟩ ⟨by omega,by omega⟩ ⟨by omega,by omega⟩)
   have BQ:=hDD (BE.out.trans (bq.mono (by omega)))
   clear hp1 hp2 bq zc0 zc1 zc2 z3 z4 zx l0 l1 l2
   go_wp2
   go_roundw
   case rel=>exact⟨k+1,by omega,by go_num,by rw[←HST.out,HPE.out];exact HSET.out.1,(HGW.out.trans (grown_bel BQ.out)).trans HSET.out.2⟩
   case measure=>simp[intOf];omega
  ·obtain rfl:k=es.length:=by omega
   have HML:Hid ((es.take es.length).map (plE (fa,fb))++es.drop es.length=es.map (plE (fa,fb))):=hDD (by rw[List.take_length,List.drop_length,List.append_nil])
   rw[HML.out] at HOW
   have HARG:=hDD HOW.out.arg
   have y0:=(HCK.out w1.heap.size 0 (by omega) (fun c hc=>(HNE.out c hc).2)).trans XX0.out
   have y1:=(HCK.out w1.heap.size 1 (by omega) (fun c hc=>(HNE.out c hc).2)).trans XX1.out
   have YF:Hid (∀j,wk.frozen? ⟨w1.heap.size,j,none⟩=false):=hDD fun j=>(World.frozen?_of_block (HGW.out.block w1.heap.size (by omega) fun e=>(HNE.out _ e.symm).2 rfl)).trans (XF3.out j)
   have HRC:Hid (∀b o,b<W.heap.size→wk.cell? ⟨b,o,none⟩=w3.cell? ⟨b,o,none⟩∧wk.frozen? ⟨b,o,none⟩=w3.frozen? ⟨b,o,none⟩):=hDD fun b o hb=>⟨HCK.out b o (by omega) (fun c hc=>by have:=(HOB.out c hc).1;omega),World.frozen?_of_block (HGW.out.block b (by omega) fun e=>by have:=(HOB.out _ e.symm).1;omega)⟩
   have BWK:Hid (Below W.heap.size W wk):=hDD (B3.out.grown HGW.out B3.out.size (fun c hc=>(HOB.out c hc).1))
   clear y3 y4
   go_wp2_with fail
   refine(sortedD_any _ (es.map (plE (fa,fb))) wk HARG.out (by rw[List.length_map];omega)).mono ?_
   rintro e w8 ⟨r8,rfl,o8,b8⟩
   have hs8:=b8.size
   have HMG:Hid (merG (g1,N,es) (fa,fb)=(g1,N-1,srt cmpE (es.map (plE (fa,fb))))):=hDD rfl
   generalize srt cmpE (es.map (plE (fa,fb)))=L at*
   obtain⟨A8,c8,rfl,_⟩:=o8.form
   have O8:=hDD o8
   have B8:=hDD (BWK.out.trans (b8.mono (by omega)))
   have x0:=(b8.cell (p:=⟨w1.heap.size,0,none⟩) (by show w1.heap.size<_;omega)).trans y0
   have x1:=(b8.cell (p:=⟨w1.heap.size,1,none⟩) (by show w1.heap.size<_;omega)).trans y1
   have x2:=(b8.cell (p:=⟨w1.heap.size,2,none⟩) (by show w1.heap.size<_;omega)).trans yx
   have X8:Hid (∀j,w8.frozen? ⟨w1.heap.size,j,none⟩=false):=hDD fun j=>(b8.frozen (p:=⟨w1.heap.size,j,none⟩) (by show w1.heap.size<_;omega)).trans (YF.out j)
   have xf1:=X8.out 1
   have xf2:=X8.out 2
   have r0:=(B8.out.cell (p:=⟨w.heap.size+1+1,0,none⟩) (by show w.heap.size+1+1<_;omega)).trans R0.out
   have r1:=(B8.out.cell (p:=⟨w.heap.size+1+1,1,none⟩) (by show w.heap.size+1+1<_;omega)).trans R1.out
   have r2:=(B8.out.cell (p:=⟨w.heap.size+1+1,2,none⟩) (by show w.heap.size+1+1<_;omega)).trans R2.out
   have rf0:=(B8.out.frozen (p:=⟨w.heap.size+1+1,0,none⟩) (by show w.heap.size+1+1<_;omega)).trans (RF.out 0)
   have rf1:=(B8.out.frozen (p:=⟨w.heap.size+1+1,1,none⟩) (by show w.heap.size+1+1<_;omega)).trans (RF.out 1)
   have rf2:=(B8.out.frozen (p:=⟨w.heap.size+1+1,2,none⟩) (by show w.heap.size+1+1<_;omega)).trans (RF.out 2)
   have hRx:w.heap.size+1+1≠w1.heap.size:=by omega
   have HBF:=hDD (BX.out.trans (B8.out.mono BX.out.size))
   clear b8 o8 y0 y1 yx
   go_wp2
   have p0:=setc_other (b':=w1.heap.size) (o':=1) (u:= .int .i64 (N-1)) hRx (setc_other (b':=w1.heap.size) (o':=2) (u:= .slice A8 L.length c8) hRx r0)
   have p1:=setc_other (b':=w1.heap.size) (o':=1) (u:= .int .i64 (N-1)) hRx (setc_other (b':=w1.heap.size) (o':=2) (u:= .slice A8 L.length c8) hRx r1)
   have p2:=setc_other (b':=w1.heap.size) (o':=1) (u:= .int .i64 (N-1)) hRx (setc_other (b':=w1.heap.size) (o':=2) (u:= .slice A8 L.length c8) hRx r2)
   obtain⟨e0,e1,e2⟩:=cells3F (.int .i64 g1) (.int .i64 (N-1)) (.slice A8 L.length c8) p0 p1 p2
   have bw:Below w.heap.size w (((((w8.setCell ⟨w1.heap.size,2,none⟩ (.slice A8 L.length c8)).setCell ⟨w1.heap.size,1,none⟩ (.int .i64 (N-1))).setCell ⟨w.heap.size+1+1,0,none⟩ (.int .i64 g1)).setCell ⟨w.heap.size+1+1,1,none⟩ (.int .i64 (N-1))).setCell ⟨w.heap.size+1+1,2,none⟩ (.slice A8 L.length c8)):=(((((HBF.out.setCell (by simp<;>omega) _).setCell (by simp<;>omega) _).setCell (by simp<;>omega) _).setCell (by simp<;>omega) _).setCell (by simp<;>omega) _)
   have ow:OwE (((((w8.setCell ⟨w1.heap.size,2,none⟩ (.slice A8 L.length c8)).setCell ⟨w1.heap.size,1,none⟩ (.int .i64 (N-1))).setCell ⟨w.heap.size+1+1,0,none⟩ (.int .i64 g1)).setCell ⟨w.heap.size+1+1,1,none⟩ (.int .i64 (N-1))).setCell ⟨w.heap.size+1+1,2,none⟩ (.slice A8 L.length c8)) w.heap.size (.slice A8 L.length c8) L:=OwE.mono (((((O8.out.far (by show w1.heap.size<_;omega) _).far (by show w1.heap.size<_;omega) _).far (by show w.heap.size+1+1<_;omega) _).far (by show w.heap.size+1+1<_;omega) _).far (by show w.heap.size+1+1<_;omega) _) (by omega)
   generalize (((((w8.setCell ⟨w1.heap.size,2,none⟩ (.slice A8 L.length c8)).setCell ⟨w1.heap.size,1,none⟩ (.int .i64 (N-1))).setCell ⟨w.heap.size+1+1,0,none⟩ (.int .i64 g1)).setCell ⟨w.heap.size+1+1,1,none⟩ (.int .i64 (N-1))).setCell ⟨w.heap.size+1+1,2,none⟩ (.slice A8 L.length c8))=wf at*
   rw[HMG.out]
   exact bodyPost_ret (v:= .tuple #[.agg #[.int .i64 g1, .int .i64 (N-1), .slice A8 L.length c8], .bool true]) (by simp[results,Tryz.results174,go_sem,e0,e1,e2]) rfl ⟨_,rfl,⟨.slice A8 L.length c8,rfl,(by show I64 g1;unfold I64;omega),(by show I64 (N-1);unfold I64;omega),ow⟩,bw⟩
end Go.Proofs.YtlgcflpaekbopaaGreat
