/- Parts of the proof: Incl, NorW, Rgh, SamG, FrameB. -/
import Derived.Test.YtnjpoljbagfdnaaGreatV04
import Derived.Test.YtnjpoljbagfdnaaGreatV01
import Derived.Test.YtnjpoljbagfdnaaGreatV02
import Derived.Deep.RegionHeld3
import Derived.Outline
import Derived.Test.YtnjpoljbagfdnaaGreatV06
import Derived.Test.YtnjpoljbagfdnaaGreatV03
import Derived.Test.YtnjpoljbagfdnaaGreatV08
namespace Go.Proofs.YtnjpoljbagfdnaaGreat
set_option maxRecDepth 20000
set_option linter.unusedVariables false
set_option linter.unusedSimpArgs false
open Go.RowKit
def EB:El (List Bool):=fun w cs d F=> ∃s,cs= [s]∧OwB w 0 s d∧F=s.ownBlock.toList
theorem EB.stable:Stable EB:=by
 rintro w w' cs d F ⟨s,rfl,ho,rfl⟩ hb
 exact⟨s,rfl,ownsRow_keep ho fun b h=>hb b (by rw[h];simp),rfl⟩
abbrev OwBB (lo hi:Nat) (v:Value) (L:List (List Bool)) (w:World):Prop:=OwnL EB 64 1 lo hi w v L
theorem OwB.form {w:World} {base:Nat} {v:Value} {bs:List Bool} (h:OwB w base v bs): ∃A cap,v= .slice A bs.length cap∧bs.length≤cap∧cap≤maxLen∧(A=none→cap=0)∧(0<bs.length→ ∃g,A=some ⟨g,0,none⟩∧base≤g∧g<w.heap.size):=owns_form h
theorem OwB_litN (w:World) (N:Nat) (hN:w.heap.size=N) {base:Nat} (hb:base≤N):OwB (w.alloc (.cells #[] 4)) base (.slice (some ⟨N,0,none⟩) 0 0) []:=by
 subst hN
 have:=World.ownsRow_lit (e:=4) (size:=1) (base:=base) w #[] 0 hb (by unfold maxLen;omega) (by simp)
 simpa[OwB,bools] using this
theorem OwBB_lit (w:World) (N:Nat) (hN:w.heap.size=N) {lo:Nat} (h:lo≤N):OwBB lo (N+1) (.slice (some ⟨N,0,none⟩) 0 0) [] (w.alloc (.cells #[] 64)):=by
 subst hN
 refine OwnL.nil ?_ fun b hb=> ?_
 ·have:=World.ownsRow_lit (e:=64) (size:=1) (base:=0) w #[] 0 (Nat.zero_le _) (by unfold maxLen;omega) (by simp)
  simpa using this
 ·simp[Value.ownBlock] at hb;omega
theorem bools_info:(Tryz.prog.info? 64).map (fun i=>(i.zero,i.size,i.bytes))=some (some (.slice none 0 0),1,24):=by kernel_rfl
theorem OwB.alloc {w:World} {base:Nat} {v:Value} {bs:List Bool} (h:OwB w base v bs) (o:Obj):OwB (w.alloc o) base v bs:=World.ownsRow.alloc h o
theorem push_bool {w:World} {ops:Array Oper} {rest:List Oper} {o:Oper} {a:Act} {Q:Exit→Act→World→Prop} (hgd:o.guard=none) (s x:Operand)
  (ho:o.op= .call {callee:= .builtin .append,args:= #[s,x],argTypes:= #[64,64]})
  (base:Nat) (v:Value) (bs:List Bool) (hown:OwB w base v bs) (hs:a.eval s=v) (b:Nat) (z:Bool) (hx:a.eval x= .slice (some ⟨b,0,none⟩) 1 1)
  (hc:w.cell? ⟨b,0,none⟩=some (.bool z)) (hl:bs.length≤1073741824) (hbase:base≤w.heap.size)
  (h: ∀v' w',OwB w' base v' (bs++ [z])→w.grownBy w' v.ownBlock→wpList Tryz.prog ops Q rest (a.put o.dst v') w'):
  wpList Tryz.prog ops Q (o::rest) a w:=by
 obtain⟨i0,hi0,hz0,hz1,hz2⟩:=info_parts bool_info
 refine wpList_append_own_at _ hgd s x 64 ho base 4 i0 _ 1 1 Tryz.underlying64 hi0 hz0 hz1 hz2 rfl (by decide) v bs.length (bools bs) hs hown ⟨b,0,none⟩ 1 1 [.bool z] hx rfl ?_ ?_ (by unfold maxLen;omega) (by omega) hbase ?_
 ·intro j u hj
  match j,hj with
  | 0,hj=>simp at hj;subst hj;rw[Addr.add_lit];exact hc
 ·intro u hu
  simp at hu
  subst hu
  rfl
 ·intro v' w' h1 h2 _ _
  refine h v' w' ?_ h2
  unfold OwB
  rw[List.length_append]
  have e1:bools (bs++ [z])=bools bs++ [.bool z]:=by simp[bools]
  rw[e1]
  exact h1
theorem push_bools {lo:Nat} {w0 w:World} {v:Value} {L:List (List Bool)} {ops:Array Oper} {rest:List Oper} {o:Oper} {a:Act} {Q:Exit→Act→World→Prop} (hgd:o.guard=none) (s x:Operand)
  (ho:o.op= .call {callee:= .builtin .append,args:= #[s,x],argTypes:= #[60,60]})
  (hown:OwBB lo w0.heap.size v L w0) (hlo:lo≤w0.heap.size) (hbel:Below w0.heap.size w0 w) (hs:a.eval s=v) (b:Nat) (z:Value) (d:List Bool) {base:Nat} (hx:a.eval x= .slice (some ⟨b,0,none⟩) 1 1)
  (hel:OwB w base z d) (hbase:w0.heap.size≤base) (hc:w.cell? ⟨b,0,none⟩=some z) (hz:z.oneCell'=true) (hl:L.length≤1073741824)
  (h: ∀v' w',OwBB lo w'.heap.size v' (L++ [d]) w'→w.grownBy w' v.ownBlock→wpList Tryz.prog ops Q rest (a.put o.dst v') w'):
  wpList Tryz.prog ops Q (o::rest) a w:=by
 obtain⟨i0,hi0,hz0,hz1,hz2⟩:=info_parts bools_info
 refine push_own EB.stable hgd s x ho Tryz.underlying60 hi0 hz0 hz1 hz2 rfl (by decide) (by decide) hown hlo hbel hs b [z] d z.ownBlock.toList hx ⟨z,rfl,hel.mono (Nat.zero_le _),rfl⟩ rfl ?_ ?_ ?_ ?_ hl h
 ·cases z.ownBlock<;>simp
 ·intro k hk
  have:=World.ownsRow.lt hel k (by simpa using hk)
  omega
 ·intro j u hj
  match j,hj with
  | 0,hj=>simp at hj;subst hj;exact hc
 ·intro u hu;simp at hu;subst hu;exact hz
def wholeB (g:GrD):Bool:=coreB g&&decide (g.2.1=1)&&decide ((g.2.2.length:Int)=g.1)
def mxB (a b:GrD):Bool:=inclS a b&& !decide (a=b)&& !wholeB b
def mxT (a:GrD):Bool:=coreB a&& !wholeB a
def maxB (L:List GrD) (a:GrD):Bool:=mxT a&&L.all fun b=> !mxB a b
def maxK (L:List GrD) (k:Nat):List Int:=((List.range k).filter fun i=>maxB L (L[i]?.getD (0,0,[]))).map fun (i:Nat)=>((i:Nat):Int)
def maxF (L:List GrD):List Int:=maxK L L.length
theorem maxK_succ (L:List GrD) (k:Nat) (h:k<L.length):maxK L (k+1)=if maxB L L[k]=true then maxK L k++ [(k:Int)] else maxK L k:=by
 unfold maxK
 rw[List.range_succ,List.filter_append,List.map_append]
 split
 ·rename_i h1;simp[h,h1]
 ·rename_i h1;simp[h,h1]
theorem maxK_len (L:List GrD) (k:Nat):(maxK L k).length≤k:=by
 unfold maxK
 rw[List.length_map]
 refine Nat.le_trans (List.length_filter_le _ _) ?_
 simp
theorem allMx_succ (a:GrD) (L:List GrD) (j:Nat) (h:j<L.length):((L.take (j+1)).all fun b=> !mxB a b)=(((L.take j).all fun b=> !mxB a b)&& !mxB a L[j]):=by
 rw[List.take_succ_eq_append_getElem h,List.all_append]
 simp
def incF (L:List GrD):List (List Bool):=L.map fun a=>L.map fun b=>inclS a b
set_option maxHeartbeats 1000000 in
theorem specIsWhole_any (v:Value) (g:GrD) (w:World) (h:ArgG w v g):
  Calls Tryz.prog 133 #[v] w fun e w'=>e= .returned (.bool (wholeB g))∧Below w.heap.size w w':=by
 have HG:=hDD h
 obtain⟨s,rfl,hi1,hi2,ha⟩:=h
 obtain⟨A,cap,rfl⟩:=ha.form
 obtain⟨g1,N,es⟩:=g
 simp only at*
 clear ha
 go_enter Tryz.func133,Tryz.ntmps133
 go_wp2_with fail
 obtain⟨W,hW⟩: ∃W,W=w.alloc (Obj.cells #[Value.int IntKind.i64 g1,Value.int IntKind.i64 N, .slice A es.length cap] 26):=⟨_,rfl⟩
 obtain⟨hsW,b1,hc1⟩:=gboxE hW
 rw[←hW]
 have BX:=hDD b1
 have HCL:=hDD hc1
 have HA:Hid (∀w',Below (w.heap.size+1) W w'→ArgG w' (.agg #[.int .i64 g1, .int .i64 N, .slice A es.length cap]) (g1,N,es)):=hDD fun w' hb=>HG.out.below (BX.out.trans (hb.mono (by omega)))
 clear hW b1 hc1
 refine(specIsSubgroup_any _ (g1,N,es) W (HA.out W ((Below.refl W.heap.size W).mono (by omega)))).mono ?_
 rintro e w2 ⟨rfl,b2⟩
 have hs2:=b2.size
 have B2:Hid (Below (w.heap.size+1) W w2):=hDD (b2.mono (by omega))
 clear b2
 obtain⟨q0,q1,q2⟩:=HCL.out w2 B2.out
 have HBF:Hid (Below w.heap.size w w2):=hDD (BX.out.trans (B2.out.mono (by omega)))
 rcases ec:coreB (g1,N,es) with _ | _
 ·have F:Hid (wholeB (g1,N,es)=false):=hDD (by unfold wholeB;rw[ec];rfl)
  clear ec
  go_wp2
  go_ret
  exact⟨ret_bool F.out.symm,HBF.out⟩
 ·have F:Hid (wholeB (g1,N,es)=((N==1)&&((es.length:Int)==g1))):=hDD (by unfold wholeB;rw[ec];simp only[Bool.true_and];rfl)
  clear ec
  rcases e1:(N==1) with _ | _
  ·rw[e1] at F
   go_wp2
   go_ret
   exact⟨ret_bool F.out.symm,HBF.out⟩
  ·rw[e1] at F
   rcases e2:((es.length:Int)==g1) with _ | _
   ·rw[e2] at F
    go_wp2
    go_ret
    exact⟨ret_bool F.out.symm,HBF.out⟩
   ·rw[e2] at F
    go_wp2
    go_ret
    exact⟨ret_bool F.out.symm,HBF.out⟩
set_option maxHeartbeats 1000000 in
theorem implIsWhole_any (v:Value) (g:GrD) (w:World) (h:ArgG w v g):
  Calls Tryz.prog 132 #[v] w fun e w'=>e= .returned (.bool (wholeB g))∧Below w.heap.size w w':=by
 have HG:=hDD h
 obtain⟨s,rfl,hi1,hi2,ha⟩:=h
 obtain⟨A,cap,rfl⟩:=ha.form
 obtain⟨g1,N,es⟩:=g
 simp only at*
 clear ha
 go_enter Tryz.func132,Tryz.ntmps132
 go_wp2_with fail
 obtain⟨W,hW⟩: ∃W,W=w.alloc (Obj.cells #[Value.int IntKind.i64 g1,Value.int IntKind.i64 N, .slice A es.length cap] 26):=⟨_,rfl⟩
 obtain⟨hsW,b1,hc1⟩:=gboxE hW
 rw[←hW]
 have BX:=hDD b1
 have HCL:=hDD hc1
 have HA:Hid (∀w',Below (w.heap.size+1) W w'→ArgG w' (.agg #[.int .i64 g1, .int .i64 N, .slice A es.length cap]) (g1,N,es)):=hDD fun w' hb=>HG.out.below (BX.out.trans (hb.mono (by omega)))
 clear hW b1 hc1
 refine(implIsCore_any _ (g1,N,es) W (HA.out W ((Below.refl W.heap.size W).mono (by omega)))).mono ?_
 rintro e w2 ⟨rfl,b2⟩
 have hs2:=b2.size
 have B2:Hid (Below (w.heap.size+1) W w2):=hDD (b2.mono (by omega))
 clear b2
 obtain⟨q0,q1,q2⟩:=HCL.out w2 B2.out
 have HBF:Hid (Below w.heap.size w w2):=hDD (BX.out.trans (B2.out.mono (by omega)))
 rcases ec:coreB (g1,N,es) with _ | _
 ·have F:Hid (wholeB (g1,N,es)=false):=hDD (by unfold wholeB;rw[ec];rfl)
  clear ec
  go_wp2
  go_ret
  exact⟨ret_bool F.out.symm,HBF.out⟩
 ·have F:Hid (wholeB (g1,N,es)=((N==1)&&((es.length:Int)==g1))):=hDD (by unfold wholeB;rw[ec];simp only[Bool.true_and];rfl)
  clear ec
  rcases e1:(N==1) with _ | _
  ·rw[e1] at F
   go_wp2
   go_ret
   exact⟨ret_bool F.out.symm,HBF.out⟩
  ·rw[e1] at F
   rcases e2:((es.length:Int)==g1) with _ | _
   ·rw[e2] at F
    go_wp2
    go_ret
    exact⟨ret_bool F.out.symm,HBF.out⟩
   ·rw[e2] at F
    go_wp2
    go_ret
    exact⟨ret_bool F.out.symm,HBF.out⟩
set_option maxHeartbeats 3000000 in
theorem specMaximalOnes_any (v:Value) (L:List GrD) (w:World) (h:ArgGS w v L) (hl:L.length≤1048576):
  Calls Tryz.prog 56 #[v] w fun e w'=> ∃r,e= .returned r∧OwI w' w.heap.size r (maxF L)∧Below w.heap.size w w':=by
 have H:=hDD h
 obtain⟨A,cap,rfl,hcap,hm,_⟩:=h
 unfold maxLen at hm
 go_enter Tryz.func56,Tryz.ntmps56
 go_wp2_with fail
 go_loopw [3,4] (fun out i wr=> ∃k:Nat,k≤L.length∧i= .int .i64 k∧OwI wr w.heap.size out (maxK L k)∧Below w.heap.size w wr) (fun _ i _=>L.length-(intOf i).toNat)
 case atStart=>exact⟨0,Nat.zero_le _,rfl,OwI_lit w [] I64s_nil (by simp) (Nat.le_refl _),(Below.refl _ _).alloc (Nat.le_refl _) _⟩
 case round=>
  obtain⟨k,hk,rfl,ho,hb⟩:=hrel
  have HO:=hDD ho
  have HBI:=hDD hb
  obtain⟨wi,rfl⟩: ∃wi:World,wi=wr:=⟨_,rfl⟩
  clear ho hb
  have hwi:=HBI.out.size
  have hmk:=maxK_len L k
  obtain⟨Ao,co,rfl,_⟩:=OwI.form HO.out
  by_cases hlt:k<L.length
  ·have HMK:=hDD (maxK_succ L k hlt)
   have hkI:(k:Int)<(L.length:Int):=by omega
   have HK64:Hid (I64 (k:Int)):=hDD (by unfold I64;omega)
   obtain⟨ba,offa,sa,rfl,hba,c0,c1,c2,haa⟩:=(H.out.below HBI.out).at hlt
   have HAA:=hDD haa
   have HMB0:Hid (maxB L L[k]=(mxT L[k]&&L.all fun b=> !mxB L[k] b)):=hDD rfl
   have HMT:Hid (mxT L[k]=(coreB L[k]&& !wholeB L[k])):=hDD rfl
   clear haa
   generalize maxB L L[k]=MB at*
   generalize L[k]=a at*
   have hbaj: ∀wj:World,wi.heap.size≤wj.heap.size→ba<wj.heap.size:=fun wj h=>by omega
   have HSUB:=hDD (fun W' (hb:Below wi.heap.size wi W')=>specIsSubgroup_any _ a W' (HAA.out.below hb))
   have HWHO:=hDD (fun W' (hb:Below wi.heap.size wi W')=>specIsWhole_any _ a W' (HAA.out.below hb))
   go_wp2_with fail
   refine(HSUB.out wi (Below.refl _ _)).mono ?_
   rintro e w2 ⟨rfl,b2⟩
   have hs2:=b2.size
   have B2:=hDD b2
   clear b2
   rcases ec:coreB a with _ | _
   ·have HMB:Hid (MB=false):=hDD (by rw[HMB0.out,HMT.out,ec];rfl)
    have B5:=B2
    clear ec
    go_wp2
    go_loopw [5,6] (fun t i wr=> ∃j:Nat,j≤L.length∧i= .int .i64 j∧t= .bool false∧Below wi.heap.size wi wr) (fun _ i _=>L.length-(intOf i).toNat)
    case atStart=>exact⟨0,Nat.zero_le _,rfl,rfl,B5.out⟩
    case round=>
     obtain⟨j,hj,rfl,rfl,hb⟩:=hrel
     have HBj:=hDD hb
     obtain⟨wj,rfl⟩: ∃wj:World,wj=wr:=⟨_,rfl⟩
     have hwj:=hb.size
     clear hb
     by_cases hlt2:j<L.length
     ·have hjI:(j:Int)<(L.length:Int):=by omega
      go_wp2_with fail
      (refine wp_region_quiet_bel (by kernel_rfl) (by kernel_rfl) ?_;(repeat(go_big_quiet_step (fail)));refine wpQuiet_nil ?_;intro wq hw';obtain⟨pq,hw''⟩:=hw';have bq:=pq.h;rw[←hw''] at bq;clear hw'' pq)
      have HQ:=hDD (HBj.out.trans (bq.mono (by omega)))
      clear bq
      go_wp2
      go_roundw
      case rel=>exact⟨j+1,by omega,by go_num,rfl,HQ.out⟩
      case measure=>simp[intOf];omega
     ·obtain rfl:j=L.length:=by omega
      have HO7:=hDD (HO.out.below HBj.out)
      have HB7:=hDD (HBI.out.trans (HBj.out.mono HBI.out.size))
      have HK2:Hid (maxK L (k+1)=maxK L k):=hDD (by rw[HMK.out,if_neg (by rw[HMB.out];decide)])
      go_wp2
      go_roundw
      case rel=>exact⟨k+1,by omega,by go_num,by rw[HK2.out];exact HO7.out,HB7.out⟩
      case measure=>simp[intOf];omega
   ·have x0:=(B2.out.cell (p:=⟨ba,offa+k*3,none⟩) hba).trans c0
    have x1:=(B2.out.cell (p:=⟨ba,offa+k*3+1,none⟩) hba).trans c1
    have x2:=(B2.out.cell (p:=⟨ba,offa+k*3+2,none⟩) hba).trans c2
    go_wp2_with fail
    refine(HWHO.out w2 B2.out).mono ?_
    rintro e w5 ⟨rfl,b5⟩
    have hs5:=b5.size
    have B5:=hDD (B2.out.trans (b5.mono (by omega)))
    clear b5 x0 x1 x2
    rcases ew0:wholeB a with _ | _
    ·have HMB:Hid (MB=L.all fun b=> !mxB a b):=hDD (by rw[HMB0.out,HMT.out,ec,ew0];rfl)
     clear ec ew0
     go_wp2
     go_loopw [5,6] (fun t i wr=> ∃j:Nat,j≤L.length∧i= .int .i64 j∧t= .bool ((L.take j).all fun b=> !mxB a b)∧Below wi.heap.size wi wr) (fun _ i _=>L.length-(intOf i).toNat)
     case atStart=>exact⟨0,Nat.zero_le _,rfl,by simp,B5.out⟩
     case round=>
      obtain⟨j,hj,rfl,rfl,hb⟩:=hrel
      have HBj:=hDD hb
      obtain⟨wj,rfl⟩: ∃wj:World,wj=wr:=⟨_,rfl⟩
      have hwj:=hb.size
      clear hb
      by_cases hlt2:j<L.length
      ·have HAL:=hDD (allMx_succ a L j hlt2)
       obtain⟨bb,offb,sb,hA2,hbb,d0,d1,d2,hab⟩:=((H.out.below HBI.out).below HBj.out).at hlt2
       obtain⟨rfl,rfl⟩:ba=bb∧offa=offb:=by simpa using hA2
       have z0:=(HBj.out.cell (p:=⟨ba,offa+k*3,none⟩) hba).trans c0
       have z1:=(HBj.out.cell (p:=⟨ba,offa+k*3+1,none⟩) hba).trans c1
       have z2:=(HBj.out.cell (p:=⟨ba,offa+k*3+2,none⟩) hba).trans c2
       have HIN:=hDD (fun W' (hb:Below wj.heap.size wj W')=>specIsInside_any _ _ a L[j] W' ((HAA.out.below HBj.out).below hb) (hab.below hb))
       have HEQ:=hDD (fun W' (hb:Below wj.heap.size wj W')=>specEqualGraphs_any _ _ a L[j] W' ((HAA.out.below HBj.out).below hb) (hab.below hb))
       have HWH:=hDD (fun W' (hb:Below wj.heap.size wj W')=>specIsWhole_any _ L[j] W' (hab.below hb))
       have HMX:Hid (mxB a L[j]=(inclS a L[j]&& !decide (a=L[j])&& !wholeB L[j])):=hDD rfl
       have hjI:(j:Int)<(L.length:Int):=by omega
       clear hA2 hab
       generalize mxB a L[j]=MX at*
       generalize inclS a L[j]=IN at*
       generalize decide (a=L[j])=EQ at*
       generalize wholeB L[j]=WH at*
       generalize L[j]=b at*
       obtain⟨b1,b2,fs⟩:=b
       simp only at*
       have f0:=BelW.cell z0 (hbaj _ hwj)
       have f1:=BelW.cell z1 (hbaj _ hwj)
       have f2:=BelW.cell z2 (hbaj _ hwj)
       have f3:=BelW.cell d0 hbb
       have f4:=BelW.cell d1 hbb
       have f5:=BelW.cell d2 hbb
       rcases et:((L.take j).all fun b=> !mxB a b) with _ | _
       ·rw[et] at HAL
        go_wp2_with fail
        (refine wp_region_quiet_bel (by kernel_rfl) (by kernel_rfl) ?_;(repeat(go_big_quiet_step (fail)));refine wpQuiet_nil ?_;intro wq hw';obtain⟨pq,hw''⟩:=hw';have bq:=pq.h;rw[←hw''] at bq;clear hw'' pq)
        have HQ:=hDD (HBj.out.trans (bq.mono (by omega)))
        clear f0 f1 f2 f3 f4 f5 bq z0 z1 z2 d0 d1 d2
        go_wp2
        go_roundw
        case rel=>exact⟨j+1,by omega,by go_num,by rw[HAL.out];rfl,HQ.out⟩
        case measure=>simp[intOf];omega
       ·rw[et] at HAL
        rcases ei:IN with _ | _
        ·rw[ei] at HIN HMX
         have HT:Hid (((L.take (j+1)).all fun b=> !mxB a b)=true):=hDD (by rw[HAL.out,HMX.out];rfl)
         go_wp2_with fail
         (refine wp_region_quiet_bel (by kernel_rfl) (by kernel_rfl) ?_;(repeat(go_big_quiet_step (first | (go_at_call 48;with_reducible exact Calls.bel_of (HIN.out _ (BelW.h _))))));refine wpQuiet_nil ?_;intro wq hw';obtain⟨pq,hw''⟩:=hw';have bq:=pq.h;rw[←hw''] at bq;clear hw'' pq)
         have HQ:=hDD (HBj.out.trans (bq.mono (by omega)))
         clear f0 f1 f2 f3 f4 f5 bq z0 z1 z2 d0 d1 d2
         go_wp2
         go_roundw
         case rel=>exact⟨j+1,by omega,by go_num,by rw[HT.out],HQ.out⟩
         case measure=>simp[intOf];omega
        ·rw[ei] at HIN HMX
         rcases ee:EQ with _ | _
         rotate_left
         ·rw[ee] at HEQ HMX
          have HT:Hid (((L.take (j+1)).all fun b=> !mxB a b)=true):=hDD (by rw[HAL.out,HMX.out];rfl)
          go_wp2_with fail
          (refine wp_region_quiet_bel (by kernel_rfl) (by kernel_rfl) ?_;(repeat(go_big_quiet_step (first | (go_at_call 48;with_reducible exact Calls.bel_of (HIN.out _ (BelW.h _))) | (go_at_call 47;with_reducible exact Calls.bel_of (HEQ.out _ (BelW.h _))))));refine wpQuiet_nil ?_;intro wq hw';obtain⟨pq,hw''⟩:=hw';have bq:=pq.h;rw[←hw''] at bq;clear hw'' pq)
          have HQ:=hDD (HBj.out.trans (bq.mono (by omega)))
          clear f0 f1 f2 f3 f4 f5 bq z0 z1 z2 d0 d1 d2
          go_wp2
          go_roundw
          case rel=>exact⟨j+1,by omega,by go_num,by rw[HT.out],HQ.out⟩
          case measure=>simp[intOf];omega
         ·rw[ee] at HEQ HMX
          rcases ew:WH with _ | _
          ·rw[ew] at HWH HMX
           have HT:Hid (((L.take (j+1)).all fun b=> !mxB a b)=false):=hDD (by rw[HAL.out,HMX.out];rfl)
           go_wp2_with fail
           (refine wp_region_quiet_bel (by kernel_rfl) (by kernel_rfl) ?_;(repeat(go_big_quiet_step (first | (go_at_call 48;with_reducible exact Calls.bel_of (HIN.out _ (BelW.h _))) | (go_at_call 47;with_reducible exact Calls.bel_of (HEQ.out _ (BelW.h _))) | (go_at_call 133;with_reducible exact Calls.bel_of (HWH.out _ (BelW.h _))))));refine wpQuiet_nil ?_;intro wq hw';obtain⟨pq,hw''⟩:=hw';have bq:=pq.h;rw[←hw''] at bq;clear hw'' pq)
           have HQ:=hDD (HBj.out.trans (bq.mono (by omega)))
           clear f0 f1 f2 f3 f4 f5 bq z0 z1 z2 d0 d1 d2
           go_wp2
           go_roundw
           case rel=>exact⟨j+1,by omega,by go_num,by rw[HT.out],HQ.out⟩
           case measure=>simp[intOf];omega
          ·rw[ew] at HWH HMX
           have HT:Hid (((L.take (j+1)).all fun b=> !mxB a b)=true):=hDD (by rw[HAL.out,HMX.out];rfl)
           go_wp2_with fail
           (refine wp_region_quiet_bel (by kernel_rfl) (by kernel_rfl) ?_;(repeat(go_big_quiet_step (first | (go_at_call 48;with_reducible exact Calls.bel_of (HIN.out _ (BelW.h _))) | (go_at_call 47;with_reducible exact Calls.bel_of (HEQ.out _ (BelW.h _))) | (go_at_call 133;with_reducible exact Calls.bel_of (HWH.out _ (BelW.h _))))));refine wpQuiet_nil ?_;intro wq hw';obtain⟨pq,hw''⟩:=hw';have bq:=pq.h;rw[←hw''] at bq;clear hw'' pq)
           have HQ:=hDD (HBj.out.trans (bq.mono (by omega)))
           clear f0 f1 f2 f3 f4 f5 bq z0 z1 z2 d0 d1 d2
           go_wp2
           go_roundw
           case rel=>exact⟨j+1,by omega,by go_num,by rw[HT.out],HQ.out⟩
           case measure=>simp[intOf];omega
      ·obtain rfl:j=L.length:=by omega
       rw[List.take_length]
       have HO7:=hDD (HO.out.below HBj.out)
       have HB7:=hDD (HBI.out.trans (HBj.out.mono HBI.out.size))
       rcases em:(L.all fun b=> !mxB a b) with _ | _
       ·have HK2:Hid (maxK L (k+1)=maxK L k):=hDD (by rw[HMK.out,if_neg (by rw[HMB.out,em];decide)])
        clear em
        go_wp2
        go_roundw
        case rel=>exact⟨k+1,by omega,by go_num,by rw[HK2.out];exact HO7.out,HB7.out⟩
        case measure=>simp[intOf];omega
       ·have HK2:Hid (maxK L (k+1)=maxK L k++ [(k:Int)]):=hDD (by rw[HMK.out,if_pos (by rw[HMB.out,em])])
        have hwj7:w.heap.size≤wj.heap.size:=HB7.out.size
        clear em
        generalize maxK L k=MK at*
        go_wp2_with (at_builtin;refine push_int rfl (.tmp 66) (.tmp 68) rfl _ _ _ (OwI.alloc HO7.out _) rfl _ _ rfl (cell_new1 _ _ _) HK64.out (by first | omega | (simp<;>omega)) (by first | omega | (simp<;>omega)) ?_;intro v9 wv9 o9 g9 p9)
        have O9:=hDD o9
        have B9:Hid (Below w.heap.size w wv9):=hDD ((HB7.out.alloc hwj7 (.cells #[.int .i64 k] 3)).grown g9 (by simp<;>omega) (fun c hc=>(HO7.out.1.lt c hc).1))
        clear o9 g9 p9
        go_roundw
        case rel=>exact⟨k+1,by omega,by go_num,by rw[HK2.out];exact O9.out,B9.out⟩
        case measure=>simp[intOf];omega
    ·have HMB:Hid (MB=false):=hDD (by rw[HMB0.out,HMT.out,ec,ew0];rfl)
     clear ec ew0
     go_wp2
     go_loopw [5,6] (fun t i wr=> ∃j:Nat,j≤L.length∧i= .int .i64 j∧t= .bool false∧Below wi.heap.size wi wr) (fun _ i _=>L.length-(intOf i).toNat)
     case atStart=>exact⟨0,Nat.zero_le _,rfl,rfl,B5.out⟩
     case round=>
      obtain⟨j,hj,rfl,rfl,hb⟩:=hrel
      have HBj:=hDD hb
      obtain⟨wj,rfl⟩: ∃wj:World,wj=wr:=⟨_,rfl⟩
      have hwj:=hb.size
      clear hb
      by_cases hlt2:j<L.length
      ·have hjI:(j:Int)<(L.length:Int):=by omega
       go_wp2_with fail
       (refine wp_region_quiet_bel (by kernel_rfl) (by kernel_rfl) ?_;(repeat(go_big_quiet_step (fail)));refine wpQuiet_nil ?_;intro wq hw';obtain⟨pq,hw''⟩:=hw';have bq:=pq.h;rw[←hw''] at bq;clear hw'' pq)
       have HQ:=hDD (HBj.out.trans (bq.mono (by omega)))
       clear bq
       go_wp2
       go_roundw
       case rel=>exact⟨j+1,by omega,by go_num,rfl,HQ.out⟩
       case measure=>simp[intOf];omega
      ·obtain rfl:j=L.length:=by omega
       have HO7:=hDD (HO.out.below HBj.out)
       have HB7:=hDD (HBI.out.trans (HBj.out.mono HBI.out.size))
       have HK2:Hid (maxK L (k+1)=maxK L k):=hDD (by rw[HMK.out,if_neg (by rw[HMB.out];decide)])
       go_wp2
       go_roundw
       case rel=>exact⟨k+1,by omega,by go_num,by rw[HK2.out];exact HO7.out,HB7.out⟩
       case measure=>simp[intOf];omega
  ·obtain rfl:k=L.length:=by omega
   have F:Hid (maxF L=maxK L L.length):=hDD rfl
   go_wp2
   go_ret
   exact⟨_,rfl,by rw[F.out];exact HO.out,HBI.out⟩
set_option maxHeartbeats 3000000 in
theorem implMaximalOnes_any (v:Value) (L:List GrD) (w:World) (h:ArgGS w v L) (hl:L.length≤1048576):
  Calls Tryz.prog 55 #[v] w fun e w'=> ∃r,e= .returned r∧OwI w' w.heap.size r (maxF L)∧Below w.heap.size w w':=by
 have H:=hDD h
 obtain⟨A,cap,rfl,hcap,hm,_⟩:=h
 unfold maxLen at hm
 go_enter Tryz.func55,Tryz.ntmps55
 go_wp2_with fail
 go_loopw [3,12] (fun out i wr=> ∃k:Nat,k≤L.length∧i= .int .i64 k∧OwI wr w.heap.size out (maxK L k)∧Below w.heap.size w wr) (fun _ i _=>L.length-(intOf i).toNat)
 case atStart=>exact⟨0,Nat.zero_le _,rfl,OwI_lit w [] I64s_nil (by simp) (Nat.le_refl _),(Below.refl _ _).alloc (Nat.le_refl _) _⟩
 case round=>
  obtain⟨k,hk,rfl,ho,hb⟩:=hrel
  have HO:=hDD ho
  have HBI:=hDD hb
  obtain⟨wi,rfl⟩: ∃wi:World,wi=wr:=⟨_,rfl⟩
  clear ho hb
  have hwi:=HBI.out.size
  have hmk:=maxK_len L k
  obtain⟨Ao,co,rfl,_⟩:=OwI.form HO.out
  by_cases hlt:k<L.length
  ·have HMK:=hDD (maxK_succ L k hlt)
   have hkI:(k:Int)<(L.length:Int):=by omega
   have HK64:Hid (I64 (k:Int)):=hDD (by unfold I64;omega)
   obtain⟨ba,offa,sa,rfl,hba,c0,c1,c2,haa⟩:=(H.out.below HBI.out).at hlt
   obtain⟨Aa,ca,rfl,_⟩:=haa.inner
   have HAA:=hDD haa
   have HMB0:Hid (maxB L L[k]=(mxT L[k]&&L.all fun b=> !mxB L[k] b)):=hDD rfl
   have HMT:Hid (mxT L[k]=(coreB L[k]&& !wholeB L[k])):=hDD rfl
   clear haa
   generalize maxB L L[k]=MB at*
   generalize L[k]=a at*
   have HSUB:=hDD (fun W' (hb:Below wi.heap.size wi W')=>implIsCore_any _ a W' (HAA.out.below hb))
   have HWHO:=hDD (fun W' (hb:Below wi.heap.size wi W')=>implIsWhole_any _ a W' (HAA.out.below hb))
   obtain⟨WA,hWA⟩: ∃WA,WA=wi.alloc (Obj.cells #[Value.int IntKind.i64 a.1,Value.int IntKind.i64 a.2.1, .slice Aa a.2.2.length ca] 26):=⟨_,rfl⟩
   obtain⟨hsA,bA,hcA⟩:=gboxE hWA
   have HCA:=hDD hcA
   have HBA0:=hDD bA
   have HBA:Hid (Below w.heap.size w WA):=hDD (HBI.out.trans (bA.mono (by omega)))
   have hAs:wi.heap.size+1≤WA.heap.size:=by omega
   go_wp2_with fail
   rw[←hWA]
   clear hWA bA hcA c0 c1 c2
   refine(HSUB.out WA HBA0.out).mono ?_
   rintro e w2 ⟨rfl,b2⟩
   have hs2:=b2.size
   have B2:=hDD b2
   clear b2 hsA
   rcases ec:coreB a with _ | _
   ·have HMB:Hid (MB=false):=hDD (by rw[HMB0.out,HMT.out,ec];rfl)
    have B5:=B2
    clear ec
    go_wp2
    go_loopw [6,26] (fun t i wr=> ∃j:Nat,j≤L.length∧i= .int .i64 j∧t= .bool false∧Below WA.heap.size WA wr) (fun _ i _=>L.length-(intOf i).toNat)
    case atStart=>exact⟨0,Nat.zero_le _,rfl,rfl,B5.out⟩
    case round=>
     obtain⟨j,hj,rfl,rfl,hb⟩:=hrel
     have HBj:=hDD hb
     obtain⟨wj,rfl⟩: ∃wj:World,wj=wr:=⟨_,rfl⟩
     have hwj:=hb.size
     clear hb
     by_cases hlt2:j<L.length
     ·obtain⟨bb,offb,sb,hA2,hbb,d0,d1,d2,hab⟩:=((H.out.below HBA.out).below HBj.out).at hlt2
      obtain⟨rfl,rfl⟩:ba=bb∧offa=offb:=by simpa using hA2
      obtain⟨Ab,cb,rfl,_⟩:=hab.inner
      have hjI:(j:Int)<(L.length:Int):=by omega
      clear hA2 hab
      generalize L[j]=b at*
      obtain⟨b1,b2,fs⟩:=b
      simp only at*
      have HBB:Hid (Below WA.heap.size WA (wj.alloc (Obj.cells #[Value.int IntKind.i64 b1,Value.int IntKind.i64 b2, .slice Ab fs.length cb] 26))):=hDD (HBj.out.alloc hwj _)
      go_wp2
      go_roundw
      case rel=>exact⟨j+1,by omega,by go_num,rfl,HBB.out⟩
      case measure=>simp[intOf];omega
     ·obtain rfl:j=L.length:=by omega
      have HO7:=hDD ((HO.out.below HBA0.out).below HBj.out)
      have HB7:=hDD (HBA.out.trans (HBj.out.mono HBA.out.size))
      have HK2:Hid (maxK L (k+1)=maxK L k):=hDD (by rw[HMK.out,if_neg (by rw[HMB.out];decide)])
      go_wp2
      go_roundw
      case rel=>exact⟨k+1,by omega,by go_num,by rw[HK2.out];exact HO7.out,HB7.out⟩
      case measure=>simp[intOf];omega
   ·obtain⟨x0,x1,x2⟩:=HCA.out w2 (B2.out.mono (by omega))
    go_wp2_with fail
    refine(HWHO.out w2 (HBA0.out.trans (B2.out.mono (by omega)))).mono ?_
    rintro e w5 ⟨rfl,b5⟩
    have hs5:=b5.size
    have B5:=hDD (B2.out.trans (b5.mono (by omega)))
    clear b5 x0 x1 x2
    rcases ew0:wholeB a with _ | _
    ·have HMB:Hid (MB=L.all fun b=> !mxB a b):=hDD (by rw[HMB0.out,HMT.out,ec,ew0];rfl)
     clear ec ew0
     go_wp2
     go_loopw [6,26] (fun t i wr=> ∃j:Nat,j≤L.length∧i= .int .i64 j∧t= .bool ((L.take j).all fun b=> !mxB a b)∧Below WA.heap.size WA wr) (fun _ i _=>L.length-(intOf i).toNat)
     case atStart=>exact⟨0,Nat.zero_le _,rfl,by simp,B5.out⟩
     case round=>
      obtain⟨j,hj,rfl,rfl,hb⟩:=hrel
      have HBj:=hDD hb
      obtain⟨wj,rfl⟩: ∃wj:World,wj=wr:=⟨_,rfl⟩
      have hwj:=hb.size
      clear hb
      by_cases hlt2:j<L.length
      ·have HAL:=hDD (allMx_succ a L j hlt2)
       obtain⟨bb,offb,sb,hA2,hbb,d0,d1,d2,hab⟩:=((H.out.below HBA.out).below HBj.out).at hlt2
       obtain⟨rfl,rfl⟩:ba=bb∧offa=offb:=by simpa using hA2
       obtain⟨Ab,cb,rfl,_⟩:=hab.inner
       have HAB:=hDD hab
       have HIN:=hDD (fun W' (h1:ArgG W' (.agg #[.int .i64 a.1, .int .i64 a.2.1, .slice Aa a.2.2.length ca]) a) (h2:ArgG W' (.agg #[.int .i64 L[j].1, .int .i64 L[j].2.1, .slice Ab L[j].2.2.length cb]) L[j])=>implIsInside_any _ _ a L[j] W' h1 h2)
       have HEQ:=hDD (fun W' (h1:ArgG W' (.agg #[.int .i64 a.1, .int .i64 a.2.1, .slice Aa a.2.2.length ca]) a) (h2:ArgG W' (.agg #[.int .i64 L[j].1, .int .i64 L[j].2.1, .slice Ab L[j].2.2.length cb]) L[j])=>implEqualGraphs_any _ _ a L[j] W' h1 h2)
       have HWH:=hDD (fun W' (h2:ArgG W' (.agg #[.int .i64 L[j].1, .int .i64 L[j].2.1, .slice Ab L[j].2.2.length cb]) L[j])=>implIsWhole_any _ L[j] W' h2)
       have HMX:Hid (mxB a L[j]=(inclS a L[j]&& !decide (a=L[j])&& !wholeB L[j])):=hDD rfl
       have hjI:(j:Int)<(L.length:Int):=by omega
       clear hA2 hab
       generalize mxB a L[j]=MX at*
       generalize inclS a L[j]=IN at*
       generalize decide (a=L[j])=EQ at*
       generalize wholeB L[j]=WH at*
       generalize L[j]=b at*
       obtain⟨b1,b2,fs⟩:=b
       simp only at*
       obtain⟨WB,hWB⟩: ∃WB,WB=wj.alloc (Obj.cells #[Value.int IntKind.i64 b1,Value.int IntKind.i64 b2, .slice Ab fs.length cb] 26):=⟨_,rfl⟩
       obtain⟨hsB,bB,hcB⟩:=gboxE hWB
       have HCB:=hDD hcB
       have HBB:Hid (Below WA.heap.size WA WB):=hDD (HBj.out.trans (bB.mono (by omega)))
       have HABB:=hDD (HAB.out.below bB)
       have HWB:=hDD hWB
       have hBs:wj.heap.size+1≤WB.heap.size:=by omega
       clear bB hcB hWB hsB
       rcases et:((L.take j).all fun b=> !mxB a b) with _ | _
       ·rw[et] at HAL
        go_wp2
        rw[←HWB.out]
        go_roundw
        case rel=>exact⟨j+1,by omega,by go_num,by rw[HAL.out];rfl,HBB.out⟩
        case measure=>simp[intOf];omega
       ·rw[et] at HAL
        obtain⟨y0,y1,y2⟩:=HCA.out wj (HBj.out.mono (by omega))
        have hwij:wi.heap.size<wj.heap.size:=by omega
        go_wp2_with fail
        rw[←HWB.out]
        refine(HEQ.out WB (HAA.out.below (HBA0.out.trans (HBB.out.mono (by omega)))) HABB.out).mono ?_
        rintro e w6 ⟨rfl,b6⟩
        have hs6:=b6.size
        have HB6:=hDD (HBB.out.trans (b6.mono (by omega)))
        have HAB6:=hDD (HABB.out.below b6)
        obtain⟨z0,z1,z2⟩:=HCB.out w6 (b6.mono (by omega))
        have BB6:Hid (Below (wj.heap.size+1) WB w6):=hDD (b6.mono (by omega))
        clear b6 y0 y1 y2 d0 d1 d2
        obtain⟨y0,y1,y2⟩:=HCA.out w6 (HB6.out.mono (by omega))
        rcases ee:EQ with _ | _
        rotate_left
        ·rw[ee] at HMX
         have HT:Hid (((L.take (j+1)).all fun b=> !mxB a b)=true):=hDD (by rw[HAL.out,HMX.out];simp)
         go_wp2
         go_roundw
         case rel=>exact⟨j+1,by omega,by go_num,by rw[HT.out],HB6.out⟩
         case measure=>simp[intOf];omega
        ·rw[ee] at HMX
         go_wp2_with fail
         refine(HWH.out w6 HAB6.out).mono ?_
         rintro e w7 ⟨rfl,b7⟩
         have hs7:=b7.size
         have HB7:=hDD (HB6.out.trans (b7.mono (by omega)))
         have HAB7:=hDD (HAB6.out.below b7)
         have BB7:Hid (Below (wj.heap.size+1) WB w7):=hDD (BB6.out.trans (b7.mono (by omega)))
         clear b7 y0 y1 y2 z0 z1 z2
         obtain⟨y0,y1,y2⟩:=HCA.out w7 (HB7.out.mono (by omega))
         obtain⟨z0,z1,z2⟩:=HCB.out w7 BB7.out
         rcases ew:WH with _ | _
         rotate_left
         ·rw[ew] at HMX
          have HT:Hid (((L.take (j+1)).all fun b=> !mxB a b)=true):=hDD (by rw[HAL.out,HMX.out];simp)
          go_wp2
          go_roundw
          case rel=>exact⟨j+1,by omega,by go_num,by rw[HT.out],HB7.out⟩
          case measure=>simp[intOf];omega
         ·rw[ew] at HMX
          go_wp2_with fail
          refine(HIN.out w7 (HAA.out.below (HBA0.out.trans (HB7.out.mono (by omega)))) HAB7.out).mono ?_
          rintro e w8 ⟨rfl,b8⟩
          have HB8:=hDD (HB7.out.trans (b8.mono (by omega)))
          have HT:Hid (((L.take (j+1)).all fun b=> !mxB a b)= !IN):=hDD (by rw[HAL.out,HMX.out];simp)
          clear b8 y0 y1 y2 z0 z1 z2
          rcases ei:IN with _ | _
          ·rw[ei] at HT
           go_wp2
           go_roundw
           case rel=>exact⟨j+1,by omega,by go_num,by rw[HT.out];rfl,HB8.out⟩
           case measure=>simp[intOf];omega
          ·rw[ei] at HT
           go_wp2
           go_roundw
           case rel=>exact⟨j+1,by omega,by go_num,by rw[HT.out];rfl,HB8.out⟩
           case measure=>simp[intOf];omega
      ·obtain rfl:j=L.length:=by omega
       rw[List.take_length]
       have HO7:=hDD ((HO.out.below HBA0.out).below HBj.out)
       have HB7:=hDD (HBA.out.trans (HBj.out.mono HBA.out.size))
       rcases em:(L.all fun b=> !mxB a b) with _ | _
       ·have HK2:Hid (maxK L (k+1)=maxK L k):=hDD (by rw[HMK.out,if_neg (by rw[HMB.out,em];decide)])
        clear em
        go_wp2
        go_roundw
        case rel=>exact⟨k+1,by omega,by go_num,by rw[HK2.out];exact HO7.out,HB7.out⟩
        case measure=>simp[intOf];omega
       ·have HK2:Hid (maxK L (k+1)=maxK L k++ [(k:Int)]):=hDD (by rw[HMK.out,if_pos (by rw[HMB.out,em])])
        have hwj7:w.heap.size≤wj.heap.size:=HB7.out.size
        clear em
        generalize maxK L k=MK at*
        go_wp2_with (at_builtin;refine push_int rfl (.tmp 48) (.tmp 50) rfl _ _ _ (OwI.alloc HO7.out _) rfl _ _ rfl (cell_new1 _ _ _) HK64.out (by first | omega | (simp<;>omega)) (by first | omega | (simp<;>omega)) ?_;intro v9 wv9 o9 g9 p9)
        have O9:=hDD o9
        have B9:Hid (Below w.heap.size w wv9):=hDD ((HB7.out.alloc hwj7 (.cells #[.int .i64 k] 3)).grown g9 (by simp<;>omega) (fun c hc=>(HO7.out.1.lt c hc).1))
        clear o9 g9 p9
        go_roundw
        case rel=>exact⟨k+1,by omega,by go_num,by rw[HK2.out];exact O9.out,B9.out⟩
        case measure=>simp[intOf];omega
    ·have HMB:Hid (MB=false):=hDD (by rw[HMB0.out,HMT.out,ec,ew0];rfl)
     clear ec ew0
     go_wp2
     go_loopw [6,26] (fun t i wr=> ∃j:Nat,j≤L.length∧i= .int .i64 j∧t= .bool false∧Below WA.heap.size WA wr) (fun _ i _=>L.length-(intOf i).toNat)
     case atStart=>exact⟨0,Nat.zero_le _,rfl,rfl,B5.out⟩
     case round=>
      obtain⟨j,hj,rfl,rfl,hb⟩:=hrel
      have HBj:=hDD hb
      obtain⟨wj,rfl⟩: ∃wj:World,wj=wr:=⟨_,rfl⟩
      have hwj:=hb.size
      clear hb
      by_cases hlt2:j<L.length
      ·obtain⟨bb,offb,sb,hA2,hbb,d0,d1,d2,hab⟩:=((H.out.below HBA.out).below HBj.out).at hlt2
       obtain⟨rfl,rfl⟩:ba=bb∧offa=offb:=by simpa using hA2
       obtain⟨Ab,cb,rfl,_⟩:=hab.inner
       have hjI:(j:Int)<(L.length:Int):=by omega
       clear hA2 hab
       generalize L[j]=b at*
       obtain⟨b1,b2,fs⟩:=b
       simp only at*
       have HBB:Hid (Below WA.heap.size WA (wj.alloc (Obj.cells #[Value.int IntKind.i64 b1,Value.int IntKind.i64 b2, .slice Ab fs.length cb] 26))):=hDD (HBj.out.alloc hwj _)
       go_wp2
       go_roundw
       case rel=>exact⟨j+1,by omega,by go_num,rfl,HBB.out⟩
       case measure=>simp[intOf];omega
      ·obtain rfl:j=L.length:=by omega
       have HO7:=hDD ((HO.out.below HBA0.out).below HBj.out)
       have HB7:=hDD (HBA.out.trans (HBj.out.mono HBA.out.size))
       have HK2:Hid (maxK L (k+1)=maxK L k):=hDD (by rw[HMK.out,if_neg (by rw[HMB.out];decide)])
       go_wp2
       go_roundw
       case rel=>exact⟨k+1,by omega,by go_num,by rw[HK2.out];exact HO7.out,HB7.out⟩
       case measure=>simp[intOf];omega
  ·obtain rfl:k=L.length:=by omega
   have F:Hid (maxF L=maxK L L.length):=hDD rfl
   go_wp2
   go_ret
   exact⟨_,rfl,by rw[F.out];exact HO.out,HBI.out⟩
def incR (L:List GrD) (a:GrD):List Bool:=L.map fun b=>inclS a b
theorem incR_take (L:List GrD) (a:GrD) (j:Nat) (h:j<L.length):(incR L a).take (j+1)=(incR L a).take j++ [inclS a L[j]]:=by
 rw[List.take_succ_eq_append_getElem (by simpa[incR] using h)]
 simp[incR]
theorem incF_take (L:List GrD) (k:Nat) (h:k<L.length):(incF L).take (k+1)=(incF L).take k++ [incR L L[k]]:=by
 rw[List.take_succ_eq_append_getElem (by simpa[incF] using h)]
 simp[incF,incR]
theorem wp_push_bool {w:World} {o:Oper} {a:Act} {K:Act→World→Prop} {Q:Exit→Act→World→Prop} (s x:Operand)
  (ho:o.op= .call {callee:= .builtin .append,args:= #[s,x],argTypes:= #[64,64]})
  (base:Nat) (v:Value) (bs:List Bool) (hown:OwB w base v bs) (hs:a.eval s=v) (b:Nat) (z:Bool) (hx:a.eval x= .slice (some ⟨b,0,none⟩) 1 1)
  (hc:w.cell? ⟨b,0,none⟩=some (.bool z)) (hl:bs.length≤1073741824) (hbase:base≤w.heap.size)
  (h: ∀v' w',OwB w' base v' (bs++ [z])→w.grownBy w' v.ownBlock→K (a.put o.dst v') w'):
  o.wp Tryz.prog a w K Q:=by
 obtain⟨i0,hi0,hz0,hz1,hz2⟩:=info_parts bool_info
 obtain⟨v',w',hrun,h1,h2,_,_⟩:=run_append_own_at (P:=Tryz.prog) w base 64 o.type 4 i0 _ 1 1 Tryz.underlying64 hi0 hz0 hz1 hz2 rfl (by decide) v bs.length (bools bs) hown ⟨b,0,none⟩ 1 1 [.bool z] rfl
  (fun j u hj=>by
   match j,hj with
   | 0,hj=>simp at hj;subst hj;rw[Addr.add_lit];exact hc) (by intro u hu;simp at hu;subst hu;rfl) (by unfold maxLen;omega) (by omega) hbase
 unfold Oper.wp execOp
 simp only[ho,resolve,invoke,builtin,Sem.run_bind,Sem.run_pure,Result.andThen_ok,List.map_toArray,List.map_cons,List.map_nil,hs,hx,hrun]
 refine h v' w' ?_ h2
 unfold OwB
 rw[List.length_append]
 have e1:bools (bs++ [z])=bools bs++ [.bool z]:=by simp[bools]
 rw[e1]
 exact h1
theorem step_push_bool {w:World} {ops:Array Oper} {o:Oper} {a:Act} {K:Act→World→Prop} {Q:Exit→Act→World→Prop} {E:Prop} (hgd:o.guard=none) (s x:Operand)
  (ho:o.op= .call {callee:= .builtin .append,args:= #[s,x],argTypes:= #[64,64]})
  (base:Nat) (v:Value) (bs:List Bool) (hown:OwB w base v bs) (hs:a.eval s=v) (b:Nat) (z:Bool) (hx:a.eval x= .slice (some ⟨b,0,none⟩) 1 1)
  (hc:w.cell? ⟨b,0,none⟩=some (.bool z)) (hl:bs.length≤1073741824) (hbase:base≤w.heap.size)
  (h: ∀v' w',OwB w' base v' (bs++ [z])→w.grownBy w' v.ownBlock→K (a.put o.dst v') w'):
  if Region.wanted o (yielded ops a.tmps)=true then Oper.wp Tryz.prog o a w K Q else E:=by
 have hw:Region.wanted o (yielded ops a.tmps)=true:=by simp[Region.wanted,hgd]
 rw[if_pos hw]
 exact wp_push_bool s x ho base v bs hown hs b z hx hc hl hbase h
set_option maxHeartbeats 3000000 in
theorem specInclusionTable_any (v:Value) (L:List GrD) (w:World) (h:ArgGS w v L) (hl:L.length≤1048576):
  Calls Tryz.prog 51 #[v] w fun e w'=> ∃r,e= .returned r∧OwBB w.heap.size w'.heap.size r (incF L) w'∧Below w.heap.size w w':=by
 have H:=hDD h
 obtain⟨A,cap,rfl,hcap,hm,_⟩:=h
 unfold maxLen at hm
 go_enter Tryz.func51,Tryz.ntmps51
 go_wp2_with fail
 go_loopw [3,4] (fun out i wr=> ∃k:Nat,k≤L.length∧i= .int .i64 k∧OwBB w.heap.size wr.heap.size out ((incF L).take k) wr∧Below w.heap.size w wr) (fun _ i _=>L.length-(intOf i).toNat)
 case atStart=>exact⟨0,Nat.zero_le _,rfl,by have:=OwBB_lit w w.heap.size rfl (Nat.le_refl _);simpa using this,(Below.refl _ _).alloc (Nat.le_refl _) _⟩
 case round=>
  obtain⟨k,hk,rfl,ho,hb⟩:=hrel
  have HO:=hDD ho
  have HBI:=hDD hb
  obtain⟨wi,rfl⟩: ∃wi:World,wi=wr:=⟨_,rfl⟩
  obtain⟨Ao,co,rfl,_⟩:=OwnL.len ho
  clear ho hb
  have hwi:=HBI.out.size
  by_cases hlt:k<L.length
  ·have HTK:=hDD (incF_take L k hlt)
   have hol:((incF L).take k).length≤1048576:=by simp[incF];omega
   generalize (incF L).take k=T0 at*
   have hkI:(k:Int)<(L.length:Int):=by omega
   obtain⟨ba,offa,sa,rfl,hba,c0,c1,c2,haa⟩:=(H.out.below HBI.out).at hlt
   have HAA:=hDD haa
   clear haa
   generalize L[k]=a at*
   have hRL:(incR L a).length=L.length:=by simp[incR]
   go_wp2
   go_loopw [5,6] (fun row i wr=> ∃j:Nat,j≤L.length∧i= .int .i64 j∧OwB wr wi.heap.size row ((incR L a).take j)∧Below wi.heap.size wi wr) (fun _ i _=>L.length-(intOf i).toNat)
   case atStart=>exact⟨0,Nat.zero_le _,rfl,OwB_litN wi wi.heap.size rfl (Nat.le_refl _),(Below.refl _ _).alloc (Nat.le_refl _) _⟩
   case round=>
    obtain⟨j,hj,rfl,hor,hb⟩:=hrel
    have HBj:=hDD hb
    have HOR:=hDD hor
    obtain⟨wj,rfl⟩: ∃wj:World,wj=wr:=⟨_,rfl⟩
    have hwj:=hb.size
    obtain⟨Ar,cr,rfl,_⟩:=OwB.form hor
    clear hb hor
    by_cases hlt2:j<L.length
    ·have HTJ:=hDD (incR_take L a j hlt2)
     obtain⟨bb,offb,sb,hA2,hbb,d0,d1,d2,hab⟩:=(H.out.below HBI.out).at hlt2
     obtain⟨rfl,rfl⟩:ba=bb∧offa=offb:=by simpa using hA2
     have HIN:=hDD (fun W' (hb:Below wi.heap.size wi W')=>specIsInside_any _ _ a L[j] W' (HAA.out.below hb) (hab.below hb))
     have hjI:(j:Int)<(L.length:Int):=by omega
     have hrl:((incR L a).take j).length≤1048576:=by simp;omega
     clear hA2 hab
     generalize inclS a L[j]=IN at*
     generalize (incR L a).take j=R at*
     generalize L[j]=b at*
     obtain⟨b1,b2,fs⟩:=b
     simp only at*
     have f0:=(HBj.out.cell (p:=⟨ba,offa+k*3,none⟩) hba).trans c0
     have f1:=(HBj.out.cell (p:=⟨ba,offa+k*3+1,none⟩) hba).trans c1
     have f2:=(HBj.out.cell (p:=⟨ba,offa+k*3+2,none⟩) hba).trans c2
     have f3:=(HBj.out.cell (p:=⟨ba,offa+j*3,none⟩) hba).trans d0
     have f4:=(HBj.out.cell (p:=⟨ba,offa+j*3+1,none⟩) hba).trans d1
     have f5:=(HBj.out.cell (p:=⟨ba,offa+j*3+2,none⟩) hba).trans d2
     have HBD:Hid (Below wj.heap.size wj wj.drew):=hDD (Below.refl wj.heap.size wj).drew
     go_wp2_with fail
     go_region_held3 (fun w'=>w'.cell? ⟨ba,offa+k*3,none⟩=some (.int .i64 a.1)∧w'.cell? ⟨ba,offa+k*3+1,none⟩=some (.int .i64 a.2.1)∧w'.cell? ⟨ba,offa+k*3+2,none⟩=some sa∧w'.cell? ⟨ba,offa+j*3,none⟩=some (.int .i64 b1)∧w'.cell? ⟨ba,offa+j*3+1,none⟩=some (.int .i64 b2)∧w'.cell? ⟨ba,offa+j*3+2,none⟩=some sb)
      (first | go_keep | exact⟨s0,s1,s2,s3,s4,s5⟩)
      (first
       | (go_at_call 48;with_reducible refine(HIN.out _ (HBj.out.trans (HBD.out.mono (by omega)))).mono ?_;rintro e w9 ⟨rfl,b9⟩;have HB9:Hid (Below wj.heap.size wj w9):=hDD (HBD.out.trans (b9.mono (Nat.le_refl _)));have HBI9:Hid (Below wi.heap.size wi w9):=hDD (HBj.out.trans (HB9.out.mono hwj));have hs9:=HB9.out.size;have s0:=(HBI9.out.cell (p:=⟨ba,offa+k*3,none⟩) hba).trans c0;have s1:=(HBI9.out.cell (p:=⟨ba,offa+k*3+1,none⟩) hba).trans c1;have s2:=(HBI9.out.cell (p:=⟨ba,offa+k*3+2,none⟩) hba).trans c2;have s3:=(HBI9.out.cell (p:=⟨ba,offa+j*3,none⟩) hba).trans d0;have s4:=(HBI9.out.cell (p:=⟨ba,offa+j*3+1,none⟩) hba).trans d1;have s5:=(HBI9.out.cell (p:=⟨ba,offa+j*3+2,none⟩) hba).trans d2;clear b9)
       | (refine step_push_bool rfl (.tmp 21) (.tmp 31) rfl wi.heap.size _ R ((HOR.out.below HB9.out).alloc _) rfl w9.heap.size IN rfl (cell_new1 _ _ _) (by omega) (by simp;omega) ?_;intro v11 w11 o11 g11;have O11:=hDD o11;have B11:Hid (Below wi.heap.size wi w11):=hDD ((HBI9.out.alloc (by omega) (.cells #[.bool IN] 4)).grown g11 (by simp;omega) (fun c hc=>(World.ownsRow.lt HOR.out c hc).1));have s0:=(B11.out.cell (p:=⟨ba,offa+k*3,none⟩) hba).trans c0;have s1:=(B11.out.cell (p:=⟨ba,offa+k*3+1,none⟩) hba).trans c1;have s2:=(B11.out.cell (p:=⟨ba,offa+k*3+2,none⟩) hba).trans c2;have s3:=(B11.out.cell (p:=⟨ba,offa+j*3,none⟩) hba).trans d0;have s4:=(B11.out.cell (p:=⟨ba,offa+j*3+1,none⟩) hba).trans d1;have s5:=(B11.out.cell (p:=⟨ba,offa+j*3+2,none⟩) hba).trans d2;clear o11 g11))
     go_wp2
     go_roundw
     case rel=>exact⟨j+1,by omega,by go_num,by rw[HTJ.out];exact O11.out,B11.out⟩
     case measure=>simp[intOf];omega
    ·obtain rfl:j=L.length:=by omega
     have HRF:Hid ((incR L a).take L.length=incR L a):=hDD (by rw[←hRL,List.take_length])
     have HB7:Hid (Below w.heap.size w wj):=hDD (HBI.out.trans (HBj.out.mono hwi))
     rw[←HRF.out] at HTK
     generalize (incR L a).take L.length=R at*
     have hbo: ∀c,(Value.slice Ao T0.length co).ownBlock=some c→w.heap.size≤c:=fun c hc=>(OwnL.lt HO.out hc).1
     go_wp2_with (at_builtin;refine push_bools rfl (.tmp 33) (.tmp 35) rfl HO.out hwi (HBj.out.alloc hwj _) rfl _ _ R rfl (HOR.out.alloc _) (Nat.le_refl _) (cell_new1 _ _ _) rfl (by omega) ?_;intro v9 w9 o9 g9)
     have O9:=hDD o9
     have B9:Hid (Below w.heap.size w w9):=hDD ((HB7.out.alloc (by omega) _).grown g9 (by simp;omega) hbo)
     clear o9 g9
     go_roundw
     case rel=>exact⟨k+1,by omega,by go_num,by rw[HTK.out];exact O9.out,B9.out⟩
     case measure=>simp[intOf];omega
  ·obtain rfl:k=L.length:=by omega
   have F:Hid ((incF L).take L.length=incF L):=hDD (List.take_of_length_le (by simp[incF]))
   generalize (incF L).take L.length=T0 at*
   go_wp2
   go_ret
   exact⟨_,rfl,by rw[←F.out];exact HO.out,HBI.out⟩
set_option maxHeartbeats 3000000 in
theorem implInclusionTable_any (v:Value) (L:List GrD) (w:World) (h:ArgGS w v L) (hl:L.length≤1048576):
  Calls Tryz.prog 50 #[v] w fun e w'=> ∃r,e= .returned r∧OwBB w.heap.size w'.heap.size r (incF L) w'∧Below w.heap.size w w':=by
 have H:=hDD h
 obtain⟨A,cap,rfl,hcap,hm,_⟩:=h
 unfold maxLen at hm
 go_enter Tryz.func50,Tryz.ntmps50
 go_wp2_with fail
 go_loopw [3,12] (fun out i wr=> ∃k:Nat,k≤L.length∧i= .int .i64 k∧OwBB w.heap.size wr.heap.size out ((incF L).take k) wr∧Below w.heap.size w wr) (fun _ i _=>L.length-(intOf i).toNat)
 case atStart=>exact⟨0,Nat.zero_le _,rfl,by have:=OwBB_lit w w.heap.size rfl (Nat.le_refl _);simpa using this,(Below.refl _ _).alloc (Nat.le_refl _) _⟩
 case round=>
  obtain⟨k,hk,rfl,ho,hb⟩:=hrel
  have HO:=hDD ho
  have HBI:=hDD hb
  obtain⟨wi,rfl⟩: ∃wi:World,wi=wr:=⟨_,rfl⟩
  obtain⟨Ao,co,rfl,_⟩:=OwnL.len ho
  clear ho hb
  have hwi:=HBI.out.size
  by_cases hlt:k<L.length
  ·have HTK:=hDD (incF_take L k hlt)
   have hol:((incF L).take k).length≤1048576:=by simp[incF];omega
   generalize (incF L).take k=T0 at*
   have hkI:(k:Int)<(L.length:Int):=by omega
   obtain⟨ba,offa,sa,rfl,hba,c0,c1,c2,haa⟩:=(H.out.below HBI.out).at hlt
   obtain⟨Aa,ca,rfl,_⟩:=haa.inner
   have HAA:=hDD haa
   clear haa
   generalize L[k]=a at*
   have hRL:(incR L a).length=L.length:=by simp[incR]
   obtain⟨WA,hWA⟩: ∃WA,WA=wi.alloc (Obj.cells #[Value.int IntKind.i64 a.1,Value.int IntKind.i64 a.2.1, .slice Aa a.2.2.length ca] 26):=⟨_,rfl⟩
   obtain⟨hsA,bA,hcA⟩:=gboxE hWA
   have HCA:=hDD hcA
   have HBA0:=hDD bA
   have HBA:Hid (Below w.heap.size w WA):=hDD (HBI.out.trans (bA.mono (by omega)))
   have HWA:=hDD hWA
   have hAs:wi.heap.size+1≤WA.heap.size:=by omega
   have hA0:Below (wi.heap.size+1) WA (WA.alloc (.cells #[] 4)):=(Below.refl _ _).alloc (by omega) _
   go_wp2
   rw[←HWA.out]
   clear hWA bA hcA c0 c1 c2 hA0
   go_loopw [6,19] (fun row i wr=> ∃j:Nat,j≤L.length∧i= .int .i64 j∧OwB wr WA.heap.size row ((incR L a).take j)∧Below WA.heap.size WA wr) (fun _ i _=>L.length-(intOf i).toNat)
   case atStart=>exact⟨0,Nat.zero_le _,rfl,by first | exact OwB_litN WA _ rfl (Nat.le_refl _) | exact OwB_litN WA (wi.heap.size+1) hsA (by omega),(Below.refl _ _).alloc (Nat.le_refl _) _⟩
   case round=>
    obtain⟨j,hj,rfl,hor,hb⟩:=hrel
    have HBj:=hDD hb
    have HOR:=hDD hor
    obtain⟨wj,rfl⟩: ∃wj:World,wj=wr:=⟨_,rfl⟩
    have hwj:=hb.size
    obtain⟨Ar,cr,rfl,_⟩:=OwB.form hor
    clear hb hor
    by_cases hlt2:j<L.length
    ·have HTJ:=hDD (incR_take L a j hlt2)
     obtain⟨bb,offb,sb,hA2,hbb,d0,d1,d2,hab⟩:=((H.out.below HBA.out).below HBj.out).at hlt2
     obtain⟨rfl,rfl⟩:ba=bb∧offa=offb:=by simpa using hA2
     obtain⟨Ab,cb,rfl,_⟩:=hab.inner
     have HAB:=hDD hab
     have HIN:=hDD (fun W' (h1:ArgG W' (.agg #[.int .i64 a.1, .int .i64 a.2.1, .slice Aa a.2.2.length ca]) a) (h2:ArgG W' (.agg #[.int .i64 L[j].1, .int .i64 L[j].2.1, .slice Ab L[j].2.2.length cb]) L[j])=>implIsInside_any _ _ a L[j] W' h1 h2)
     have hjI:(j:Int)<(L.length:Int):=by omega
     have hrl:((incR L a).take j).length≤1048576:=by simp;omega
     clear hA2 hab
     generalize inclS a L[j]=IN at*
     generalize (incR L a).take j=R at*
     generalize L[j]=b at*
     obtain⟨b1,b2,fs⟩:=b
     simp only at*
     obtain⟨WB,hWB⟩: ∃WB,WB=wj.alloc (Obj.cells #[Value.int IntKind.i64 b1,Value.int IntKind.i64 b2, .slice Ab fs.length cb] 26):=⟨_,rfl⟩
     obtain⟨hsB,bB,hcB⟩:=gboxE hWB
     have HBB:Hid (Below WA.heap.size WA WB):=hDD (HBj.out.trans (bB.mono (by omega)))
     have HABB:=hDD (HAB.out.below bB)
     have HORB:=hDD (HOR.out.below bB)
     have HWB:=hDD hWB
     have hBs:wj.heap.size+1≤WB.heap.size:=by omega
     clear bB hcB hWB hsB
     obtain⟨y0,y1,y2⟩:=HCA.out wj (HBj.out.mono (by omega))
     have hwij:wi.heap.size<wj.heap.size:=by omega
     go_wp2_with fail
     rw[←HWB.out]
     refine(HIN.out WB (HAA.out.below (HBA0.out.trans (HBB.out.mono (by omega)))) HABB.out).mono ?_
     rintro e w6 ⟨rfl,b6⟩
     have hs6:=b6.size
     have HB6:=hDD (HBB.out.trans (b6.mono (by omega)))
     have HOR6:=hDD (HORB.out.below b6)
     clear b6 y0 y1 y2 d0 d1 d2
     go_wp2_with (at_builtin;refine push_bool rfl (.tmp 23) (.tmp 27) rfl WA.heap.size _ R (HOR6.out.alloc _) rfl _ IN rfl (cell_new1 _ _ _) (by omega) (by simp;omega) ?_;intro v9 w9 o9 g9)
     have O9:=hDD o9
     have B9:Hid (Below WA.heap.size WA w9):=hDD ((HB6.out.alloc (by omega) _).grown g9 (by simp;omega) (fun c hc=>(World.ownsRow.lt HOR.out c hc).1))
     clear o9 g9
     go_roundw
     case rel=>exact⟨j+1,by omega,by go_num,by rw[HTJ.out];exact O9.out,B9.out⟩
     case measure=>simp[intOf];omega
    ·obtain rfl:j=L.length:=by omega
     have HRF:Hid ((incR L a).take L.length=incR L a):=hDD (by rw[←hRL,List.take_length])
     have HBW:Hid (Below wi.heap.size wi wj):=hDD (HBA0.out.trans (HBj.out.mono (by omega)))
     have HB7:Hid (Below w.heap.size w wj):=hDD (HBI.out.trans (HBW.out.mono hwi))
     rw[←HRF.out] at HTK
     generalize (incR L a).take L.length=R at*
     have hbo: ∀c,(Value.slice Ao T0.length co).ownBlock=some c→w.heap.size≤c:=fun c hc=>(OwnL.lt HO.out hc).1
     go_wp2_with (at_builtin;refine push_bools rfl (.tmp 30) (.tmp 32) rfl HO.out hwi (HBW.out.alloc (by omega) _) rfl _ _ R rfl (HOR.out.alloc _) (by omega) (cell_new1 _ _ _) rfl (by omega) ?_;intro v9 w9 o9 g9)
     have O9:=hDD o9
     have B9:Hid (Below w.heap.size w w9):=hDD ((HB7.out.alloc (by omega) _).grown g9 (by simp;omega) hbo)
     clear o9 g9
     go_roundw
     case rel=>exact⟨k+1,by omega,by go_num,by rw[HTK.out];exact O9.out,B9.out⟩
     case measure=>simp[intOf];omega
  ·obtain rfl:k=L.length:=by omega
   have F:Hid ((incF L).take L.length=incF L):=hDD (List.take_of_length_le (by simp[incF]))
   generalize (incF L).take L.length=T0 at*
   go_wp2
   go_ret
   exact⟨_,rfl,by rw[←F.out];exact HO.out,HBI.out⟩
end Go.Proofs.YtnjpoljbagfdnaaGreat
namespace Go.Proofs.YtnjpoljbagfdnaaGreat
set_option maxRecDepth 20000
set_option linter.unusedVariables false
set_option linter.unusedSimpArgs false
open Go.RowKit
end Go.Proofs.YtnjpoljbagfdnaaGreat
namespace Go.Proofs.YtnjpoljbagfdnaaGreat
set_option maxRecDepth 20000
set_option linter.unusedVariables false
set_option linter.unusedSimpArgs false
open Go.RowKit
def gdB2 (l:List Oper) (L:List Sg) (G:List Nat):Bool:=(List.range l.length).all fun i=>match l[i]? with
 | none=>true
 | some o=>match o.guard with
   | none=> !G.contains i
   | some (j,want)=>reachB l l.length i j&&(match (l[j]?).bind (·.dst) with | some _=>true | none=>false)&&(match sgA L j with | .val (.bool b)=>(b==want)== !G.contains i | .val (.tuple _)=>G.contains i | _=>false)
section
variable {P:Program} {I Hs:World→Prop} {D:List Nat} {J:Nat→World→Prop} {l:List Oper} {L:List Sg} {T:List (Option (World→World→Prop))} {w:World} {a:Act} {Q:Exit→Act→World→Prop} {G:List Nat}
theorem gen_anyG2 (hB:freG l=true) (hgB:gdB2 l L G=true) (hGo:GOff L T G) (hsz: ∀(i:Nat) (o:Oper),l[i]? =some o→ ∀t,o.dst=some t→t<a.tmps.size)
  (hIT: ∀t,some t∈T→ ∀W W',I W→t W W'→I W') (hHT:ItD I Hs D T 0 T) (hst:Stb I L T (clG l L T)) (h: ∀vs,ObwG G P (JH I Hs l D) l L T vs Q l L 0 a): ∀(fuel:Nat) (listed:Array Bool) (vs:Nat→Value) (W:World),
  ((List.range l.length).filter fun j=> !listed.getD j false).length=fuel→Cl l.toArray listed→I W→((∀d∈D,listed.getD d false=false)→Hs W)→(∀j,j<l.length→(sgA L j).pick (vs j)=vs j)→(∀j,listed.getD j false=true→(sgA L j).R (maskV l j vs) W (vs j))→
  wpAny P .any l.toArray Q fuel listed (actV (fun j=>listed.getD j false) vs l 0 a) W:=by
 have hI: ∀k W W',I W→tnA T k W W'→I W':=fun k W W' hi ht=>by
  unfold tnA at ht
  cases e:T.getD k none with
  | none=>rw[e] at ht;rw[show W'=W from ht];exact hi
  | some t=>
    rw[e] at ht
    refine hIT t ?_ W W' hi ht
    rw[List.getD_eq_getElem?_getD] at e
    cases e2:T[k]? with
    | none=>rw[e2] at e;cases e
    | some q=>rw[e2] at e;simp only[Option.getD_some] at e;subst e;exact List.mem_of_getElem? e2
 have hH: ∀k W W',I W→k∉D→Hs W→tnA T k W W'→Hs W':=fun k W W' hi hk hs ht=>by
  unfold tnA at ht
  cases e:T.getD k none with
  | none=>rw[e] at ht;rw[show W'=W from ht];exact hs
  | some t=>
    rw[e] at ht
    rw[List.getD_eq_getElem?_getD] at e
    cases e2:T[k]? with
    | none=>rw[e2] at e;cases e
    | some q=>
      rw[e2] at e;simp only[Option.getD_some] at e;subst e
      rcases hHT.at k t e2 with h | h
      ·rw[Nat.zero_add] at h;exact absurd h hk
      ·exact h W W' hi hs ht
 have all: ∀(listed:Array Bool) (vs:Nat→Value) (W:World),Cl l.toArray listed→I W→((∀d∈D,listed.getD d false=false)→Hs W)→(∀j,j<l.length→(sgA L j).pick (vs j)=vs j)→(∀j,listed.getD j false=true→(sgA L j).R (maskV l j vs) W (vs j))→(∀j,j<l.length→listed.getD j false=true)→Q .normal (actV (fun j=>listed.getD j false) vs l 0 a) W:=fun listed vs W hc hb hd hp hr hl=>by
  have:=(obwG_at hp l L 0 a (fun j=>by rw[Nat.zero_add]) (fun j=>by rw[Nat.zero_add];rfl) (h vs)).2 W (hDD ⟨hb,fun ok=>hd fun d hd'=>by
   have h1:=List.all_eq_true.1 ok d hd'
   simp only[Bool.or_eq_true,beq_iff_eq] at h1
   rcases h1 with h1 | h1
   ·rw[Array.getD_eq_getD_getElem?,Array.getElem?_eq_none (by rw[hc.1,h1];simp)];rfl
   ·have h2:=reach_ltG hB _ _ _ h1
    rw[Array.getD_eq_getD_getElem?,Array.getElem?_eq_none (by rw[hc.1];simp;omega)];rfl⟩) (hDD fun j hj=>hr j (hl j hj))
  rwa [actV_congr (S':=fun _=>true) (vs':=vs) l 0 a fun j hj=>by rw[Nat.zero_add];exact⟨hl j hj,fun _=>rfl⟩]
 have none_ready: ∀(listed:Array Bool),Cl l.toArray listed→Region.ready .any l.toArray listed= []→ ∀j,j<l.length→listed.getD j false=true:=fun listed hc hr j=>by
  induction j using Nat.strongRecOn with
  | _ j ih=>
    intro hj
    by_cases q:listed.getD j false=true
    ·exact q
    ·exfalso
     have:j∈Region.ready .any l.toArray listed:=by
      rw[mem_ready]
      refine⟨by rw[getD_tf (by rw[hc.1];simpa using hj)];simpa using q,l[j],by simp[hj],fun e he hb=> ?_⟩
      have:=((freG_parts hB).2 j l[j] (List.getElem?_eq_getElem hj)).1 e he hb
      exact ih e.on this (by omega)
     rw[hr] at this
     cases this
 intro fuel
 induction fuel with
 | zero=>
   intro listed vs W hf hc hb hd hp hr
   have hl: ∀j,j<l.length→listed.getD j false=true:=fun j hj=>by
    have:=List.filter_eq_nil_iff.1 (List.eq_nil_of_length_eq_zero hf) j (List.mem_range.2 hj)
    simpa using this
   refine⟨?_,all listed vs W hc hb hd hp hr hl⟩
   cases hq:Region.ready .any l.toArray listed with
   | nil=>rfl
   | cons i r=>
     obtain⟨h1,o,ho,_⟩:=mem_ready.1 (show i∈Region.ready .any l.toArray listed by rw[hq];simp)
     have hi:i<l.length:=by simpa using (Array.getElem?_eq_some_iff.1 ho).1
     rw[getD_tf (by rw[hc.1];simpa using hi),hl i hi] at h1
     cases h1
 | succ fuel ih=>
   intro listed vs W hf hc hb hd hp hr
   refine⟨fun h0=>all listed vs W hc hb hd hp hr (none_ready listed hc h0),fun i hi=> ?_⟩
   obtain⟨h1,o,ho,hdeps⟩:=mem_ready.1 hi
   have ho':l[i]? =some o:=by simpa using ho
   have hil:i<l.length:=(List.getElem?_eq_some_iff.1 ho').1
   have his:i<listed.size:=by rw[hc.1];simpa using hil
   have hif:listed.getD i false=false:=by rw[←getD_tf his];exact h1
   obtain⟨_,hdst,hlook⟩:=(freG_parts hB).2 i o ho'
   have hsel:=fun (cs:Array SelectCase) (b:Bool)=>Region.noSelect_spec (freG_parts hB).1 i o cs b ho
   have hob0:=(obwG_at hp l L 0 a (fun j=>by rw[Nat.zero_add]) (fun j=>by rw[Nat.zero_add];rfl) (h vs)).1 i o ho'
   rw[Nat.zero_add] at hob0
   have hlst: ∀j,reachB l l.length i j=true→listed.getD j false=true:=fun j hj=>reach_listed hc l.length i j (fun o2 ho2 e he hb=>by rw[ho'] at ho2;injection ho2 with ho2;subst ho2;exact hdeps e he hb) hj
   have hno: ∀j,listed.getD j false=true→reachB l l.length j i=false:=fun j hj=>by
    cases q:reachB l l.length j i with
    | false=>rfl
    | true=>
      have:=reach_listed hc l.length j i (fun o2 ho2 e he hb=>hc.2 j o2 (by simpa using ho2) hj e he hb) q
      rw[hif] at this
      cases this
   have hwant:Region.wanted o (yielded l.toArray (actV (fun j=>listed.getD j false) vs l 0 a).tmps)= !G.contains i:=by
    have h1:=List.all_eq_true.1 hgB i (List.mem_range.2 hil)
    rw[ho'] at h1
    cases hq:o.guard with
    | none=>
      simp only[hq] at h1
      rw[wanted_none hq,h1]
    | some p=>
      obtain⟨j,want⟩:=p
      simp only[hq,Bool.and_eq_true] at h1
      obtain⟨⟨h2,h3⟩,h4⟩:=h1
      have hjl:=hlst j h2
      cases hlj:l[j]? with
      | none=>rw[hlj] at h3;cases h3
      | some oj=>
        cases hdj:oj.dst with
        | none=>rw[hlj] at h3;simp only[Option.bind_some,hdj] at h3;cases h3
        | some d=>
          have hrj:=hr j hjl
          have hjn:j<l.length:=(List.getElem?_eq_some_iff.1 hlj).1
          have hy:yielded l.toArray (actV (fun j=>listed.getD j false) vs l 0 a).tmps j=(match vs j with | .bool b=>some b | _=>none):=by
           have hg:=actV_get (S:=fun j=>listed.getD j false) (vs:=vs) (d:=d) l 0 a j oj hlj hdj (by rw[Nat.zero_add];exact hjl) (fun m o2 hm hmj=>((freG_parts hB).2 j oj hlj).2.1 m o2 hm (fun e=>hmj e.symm) d hdj) (hsz j oj hlj d hdj)
           rw[Nat.zero_add] at hg
           unfold yielded
           simp only[List.getElem?_toArray,hlj,Option.bind_some,hdj,hg]
           cases vs j<;>rfl
          cases hsj:sgA L j with
          | pur q=>rw[hsj] at h4;cases h4
          | mem q=>rw[hsj] at h4;cases h4
          | val c=>
            rw[hsj] at h4 hrj
            have hvj:vs j=c:=hrj
            cases c with
            | bool b=>
              unfold Region.wanted
              rw[hq]
              simp only[hy,hvj]
              simp only[beq_iff_eq] at h4
              rw[←h4]
              cases b<;>cases want<;>rfl
            | tuple _=>
              unfold Region.wanted
              rw[hq]
              simp only[hy,hvj]
              simp only at h4
              rw[h4]
              rfl
            | _=>cases h4
   have tail: ∀v W',tnA T i W W'→(sgA L i).R (maskV l i vs) W' v→wpAny P .any l.toArray Q fuel (listed.setIfInBounds i true) ((actV (fun j=>listed.getD j false) vs l 0 a).put o.dst v) W':=fun v W' hbv hv=>by
    have e:=actV_set (S:=fun j=>listed.getD j false) (vs:=vs) (v:=v) l 0 a i o ho' (by rw[Nat.zero_add];exact hif) fun j o2 hj hij d hd=>hdst j o2 hj hij d hd
    rw[Nat.zero_add] at e
    rw[e]
    rw[actV_congr (S':=fun j=>(listed.setIfInBounds i true).getD j false) (vs':=fun j=>if j=i then v else vs j) l 0 a fun j hj=>⟨by
     rw[Nat.zero_add]
     by_cases q:j=i
     ·subst q;simp[his]
     ·rw[decide_eq_false q,Bool.or_false,getD_set_ne false (fun e=>q e.symm)],fun _=>rfl⟩]
    have hset: ∀j,(listed.setIfInBounds i true).getD j false=true→j≠i→listed.getD j false=true:=fun j hj q=>by
     rwa [getD_set_ne false (fun e=>q e.symm)] at hj
    have hmask: ∀j,reachB l l.length j i=false→maskV l j (fun m=>if m=i then v else vs m)=maskV l j vs:=fun j hj=>by
     funext m
     unfold maskV
     by_cases q:m=i
     ·subst q;rw[if_neg (by simp[hj]),if_neg (by simp[hj])]
     ·simp only[if_neg q]
    have hii:reachB l l.length i i=false:=by
     cases q:reachB l l.length i i with
     | false=>rfl
     | true=>have:=reach_ltG hB _ _ _ q;omega
    have hI':I W':=hI i W W' hb hbv
    refine ih (listed.setIfInBounds i true) _ W' ?_ (hc.set hi) hI' (fun hd'=> ?_) (fun j hj=> ?_) (fun j hj=> ?_)
    ·have:=nlisted_set his hif l.length hil
     omega
    ·have hni:i∉D:=fun hm=>by have:=hd' i hm;simp[his] at this
     exact hH i W W' hb hni (hd fun d hdm=>by
      have hne:i≠d:=fun e=>hni (e▸hdm)
      have:=hd' d hdm
      rwa [getD_set_ne false hne] at this) hbv
    ·by_cases q:j=i
     ·subst q;simp only[if_true];exact Sg.pick_of _ _ hv
     ·simp only[if_neg q];exact hp j hj
    ·by_cases q:j=i
     ·subst q;simp only[if_true];rw[hmask _ hii];exact hv
     ·simp only[if_neg q]
      have hjl:=hset j hj q
      rw[hmask j (hno j hjl)]
      have hjn:j<l.length:=by
       by_cases q:j<l.length
       ·exact q
       ·rw[Array.getD_eq_getD_getElem?,Array.getElem?_eq_none (by rw[hc.1];simpa using q)] at hjl
        cases hjl
      have hold:=hr j hjl
      cases hs:sgA L j with
      | val c=>rw[hs] at hold;exact hold
      | pur p=>rw[hs] at hold;exact hold
      | mem p=>
        cases ht:T.getD i none with
        | none=>
          have:W'=W:=by unfold tnA at hbv;rw[ht] at hbv;exact hbv
          rw[this,←hs];exact hold
        | some t=>
          rw[←hs]
          refine hst.at (j,i) ?_ _ W W' _ hb hI' hbv hold
          unfold clG
          refine List.mem_flatMap.2 ⟨j,List.mem_range.2 hjn,List.mem_filterMap.2 ⟨i,List.mem_range.2 hil,?_⟩⟩
          rw[if_pos]
          simp only[hs,ht,Sg.isMem,Option.isSome_some,hno j hjl,Bool.not_false,Bool.and_true,Bool.true_and]
          simpa using q
   unfold wpOp
   simp only[ho]
   cases hGi:G.contains i with
   | true=>
     rw[hGi] at hwant
     rw[if_neg (by rw[hwant];decide)]
     obtain⟨hu,ht⟩:=hGo.at i hGi
     refine tail undef W ?_ ?_
     ·unfold tnA;rw[ht]
     ·rw[hu];rfl
   | false=>
   have hob:=hob0 hGi
   have hwp:=hob W (fun c W'=> ∃v,c=(actV (fun j=>decide (j<i)) vs l 0 a).put o.dst v∧(tnA T i W W'∧(sgA L i).R (maskV l i vs) W' v)) (fun e _ _=>e= .outgrown∧False) (hDD ⟨hb,fun ok=>hd fun d hd'=>by
    have h1:=List.all_eq_true.1 ok d hd'
    simp only[Bool.or_eq_true,beq_iff_eq] at h1
    rcases h1 with h1 | h1
    ·rw[h1];exact hif
    ·cases q:listed.getD d false with
     | false=>rfl
     | true=>have:=hno d q;rw[h1] at this;cases this⟩) (hDD fun j hj=>hr j (hlst j hj)) (hDD fun v W' hbv hv=>⟨v,rfl,hbv,hv⟩)
   rw[hGi] at hwant
   rw[if_pos (by rw[hwant];rfl)]
   refine .inl (wp_swap ?_ hwp (fun t ht=> ?_) fun v W' ⟨hbv,hv⟩=>tail v W' hbv hv)
   ·refine execOp_congr o (fun cs b e=>hsel cs b e) fun x hx=> ?_
    cases x with
    | tmp t=>
      refine actV_eval l 0 a a rfl rfl fun k o' hk hd=> ?_
      rw[Nat.zero_add]
      have ht:t∈o.looksAt l.toArray:=List.mem_append_left _ (List.mem_filterMap.2 ⟨.tmp t,by simpa using hx,rfl⟩)
      rcases hlook k o' t hk hd ht with q | q
      ·rw[hlst k q,decide_eq_true (reach_ltG hB _ _ _ q)]
      ·have hki:=reach_ltG hB _ _ _ q
       rw[decide_eq_false (by omega)]
       cases hkl:listed.getD k false with
       | false=>rfl
       | true=>
         exfalso
         have:=hno k hkl
         rw[q] at this
         cases this
    | const v=>rfl
    | global g=>rfl
    | func f=>rfl
   ·have: ∀(S:Nat→Bool) (r:List Oper) (k:Nat) (b:Act),(actV S vs r k b).tmps.size=b.tmps.size:=by
     intro S r
     induction r with
     | nil=>intros;rfl
     | cons o r ih=>intro k b;unfold actV;rw[ih];split;exact put_size _ _ _;rfl
    rw[this]
    exact hsz i o ho' t ht
theorem wp_region_genG2 {id:Nat} (G:List Nat) (L:List Sg) (T:List (Option (World→World→Prop))) (I Hs:World→Prop) (D:List Nat) (X:List (Nat×Nat)) (hm:P.follows .mixedOrders=true) (hB:freG l=true) (hgB:gdB2 l L G=true) (hGo:GOff L T G) (hX:clG l L T=X) (hsz:(l.all fun o=>match o.dst with | some t=>decide (t<a.tmps.size) | none=>true)=true)
  (hI0:I w.drew) (hH0:Hs w.drew) (hIT:Its I T) (hHT:ItD I Hs D T 0 T) (hst:Stb I L T X)
  (h: ∀vs,ObwG G P (JH I Hs l D) l L T vs Q l L 0 a):(Code.region id l.toArray true).wp P Q a w:=by
 refine wp_region_any hm ?_
 subst hX
 have hv: ∀j,j<l.length→(sgA L j).pick ((sgA L j).pick undef)=(sgA L j).pick undef:=fun j _=>by cases sgA L j<;>rfl
 have h0: ∀j,(Array.replicate l.toArray.size false).getD j false=false:=fun j=>by
  simp only[Array.getD_eq_getD_getElem?,Array.getElem?_replicate]
  split<;>rfl
 have:=gen_anyG2 (P:=P) (Q:=Q) (G:=G) hB hgB hGo (fun i o ho t ht=>by
  have:=List.all_eq_true.1 hsz o (List.mem_of_getElem? ho)
  rw[ht] at this
  simpa using this) hIT.at hHT hst h l.toArray.size (Array.replicate l.toArray.size false) (fun j=>(sgA L j).pick undef) w.drew (by
   have:(List.range l.length).filter (fun j=> !(Array.replicate l.toArray.size false).getD j false)=List.range l.length:=List.filter_eq_self.2 fun j _=>by rw[h0];rfl
   rw[this];simp) ⟨by simp,fun j o _ hj=>by rw[h0] at hj;cases hj⟩ hI0 (fun _=>hH0) hv (fun j hj=>by rw[h0] at hj;cases hj)
 have e:actV (fun j=>(Array.replicate l.toArray.size false).getD j false) (fun j=>(sgA L j).pick undef) l 0 a=a:=by
  have: ∀(r:List Oper) (k:Nat) (b:Act),actV (fun j=>(Array.replicate l.toArray.size false).getD j false) (fun j=>(sgA L j).pick undef) r k b=b:=by
   intro r
   induction r with
   | nil=>intros;rfl
   | cons o r ih=>intro k b;unfold actV;rw[h0];exact ih _ _
  exact this l 0 a
 rw[e] at this
 exact this
end
end Go.Proofs.YtnjpoljbagfdnaaGreat
namespace Go.Proofs.YtnjpoljbagfdnaaGreat
set_option maxRecDepth 20000
set_option linter.unusedVariables false
set_option linter.unusedSimpArgs false
open Go.RowKit
set_option maxHeartbeats 2000000 in
theorem sameGraphs_any (v u:Value) (ds:List GrD) (w:World) (h:ArgGS w v ds) (h':ArgGS w u ds):
  Calls Tryz.prog 41 #[v,u] w fun e w'=>e= .returned (.bool true)∧Below w.heap.size w w':=by
 have H:=hDD h
 have H':=hDD h'
 obtain⟨A',cap',rfl⟩:=h'.form
 obtain⟨A,cap,rfl,hcap,hm,_⟩:=h
 unfold maxLen at hm
 clear h'
 go_enter Tryz.func41,Tryz.ntmps41
 go_wp2
 go_loopw [5] (fun i wr=> ∃k:Nat,k≤ds.length∧i= .int .i64 k∧Below w.heap.size w wr) (fun i _=>ds.length-(intOf i).toNat)
 case atStart=>exact⟨0,Nat.zero_le _,rfl,Below.refl _ _⟩
 case round=>
  obtain⟨k,hk,rfl,hB⟩:=hrel
  have HB:=hDD hB
  have hsz:=hB.size
  clear hB
  by_cases hlt:k<ds.length
  ·have hkI:(k:Int)<(ds.length:Int):=by omega
   obtain⟨b,off,s,rfl,hb,c0,c1,c2,hax⟩:=(H.out.below HB.out).at hlt
   obtain⟨b',off',s',rfl,hb',c0',c1',c2',hax'⟩:=(H'.out.below HB.out).at hlt
   have HX:=hDD hax
   have HX':=hDD hax'
   generalize ds[k]=d at*
   obtain⟨x,y,z⟩:=d
   simp only at c0 c1 c0' c1' HX HX'
   have HEQ:=hDD (fun W (h:ArgG W (.agg #[.int .i64 x, .int .i64 y,s]) (x,y,z)) (h':ArgG W (.agg #[.int .i64 x, .int .i64 y,s']) (x,y,z))=>specEqualGraphs_any _ _ (x,y,z) (x,y,z) W h h')
   rw[decide_eq_true rfl] at HEQ
   clear hax hax'
   go_wp2_with fail
   refine wp_region_gen [.val (.slice (some ⟨b,off,none⟩) ds.length cap), .val (.int .i64 k), .val (.pointer (some ⟨b,off+k*3,none⟩)), .val (.agg #[.int .i64 x, .int .i64 y,s]), .val (.slice (some ⟨b',off',none⟩) ds.length cap'), .val (.int .i64 k), .val (.pointer (some ⟨b',off'+k*3,none⟩)), .val (.agg #[.int .i64 x, .int .i64 y,s']), .val (.bool true), .val (.bool false)]
    [none,none,none,none,none,none,none,none,some (fun W W'=>Below W.heap.size W W'),none] (fun W'=>Below wr.heap.size wr W') [] (by kernel_rfl) (by kernel_rfl) (by rfl) (by rfl) (Below.refl _ _).drew ⟨fun _ _ h t=>h.trans (t.mono h.size),trivial⟩ trivial (fun vs=> ?_)
   refine⟨fun W' K' Q0 hI hD hK=> ?_,?_⟩
   ·skip
    go_simp
    exact hK.out _ _ rfl rfl
   simp only[Act.put,List.setIfInBounds_toArray,List.set_cons_zero,List.set_cons_succ,Sg.pick,Nat.reduceAdd]
   refine⟨fun W' K' Q0 hI hD hK=> ?_,?_⟩
   ·skip
    go_simp
    exact hK.out _ _ rfl rfl
   simp only[Act.put,List.setIfInBounds_toArray,List.set_cons_zero,List.set_cons_succ,Sg.pick,Nat.reduceAdd]
   refine⟨fun W' K' Q0 hI hD hK=> ?_,?_⟩
   ·skip
    go_simp
    exact hK.out _ _ rfl rfl
   simp only[Act.put,List.setIfInBounds_toArray,List.set_cons_zero,List.set_cons_succ,Sg.pick,Nat.reduceAdd]
   refine⟨fun W' K' Q0 hI hD hK=> ?_,?_⟩
   ·have z0:=(hI.out.cell (p:=⟨b,off+k*3,none⟩) hb).trans c0
    have z1:=(hI.out.cell (p:=⟨b,off+k*3+1,none⟩) hb).trans c1
    have z2:=(hI.out.cell (p:=⟨b,off+k*3+2,none⟩) hb).trans c2
    go_simp
    exact hK.out _ _ rfl rfl
   simp only[Act.put,List.setIfInBounds_toArray,List.set_cons_zero,List.set_cons_succ,Sg.pick,Nat.reduceAdd]
   refine⟨fun W' K' Q0 hI hD hK=> ?_,?_⟩
   ·skip
    go_simp
    exact hK.out _ _ rfl rfl
   simp only[Act.put,List.setIfInBounds_toArray,List.set_cons_zero,List.set_cons_succ,Sg.pick,Nat.reduceAdd]
   refine⟨fun W' K' Q0 hI hD hK=> ?_,?_⟩
   ·skip
    go_simp
    exact hK.out _ _ rfl rfl
   simp only[Act.put,List.setIfInBounds_toArray,List.set_cons_zero,List.set_cons_succ,Sg.pick,Nat.reduceAdd]
   refine⟨fun W' K' Q0 hI hD hK=> ?_,?_⟩
   ·skip
    go_simp
    exact hK.out _ _ rfl rfl
   simp only[Act.put,List.setIfInBounds_toArray,List.set_cons_zero,List.set_cons_succ,Sg.pick,Nat.reduceAdd]
   refine⟨fun W' K' Q0 hI hD hK=> ?_,?_⟩
   ·have z0:=(hI.out.cell (p:=⟨b',off'+k*3,none⟩) hb').trans c0'
    have z1:=(hI.out.cell (p:=⟨b',off'+k*3+1,none⟩) hb').trans c1'
    have z2:=(hI.out.cell (p:=⟨b',off'+k*3+2,none⟩) hb').trans c2'
    go_simp
    exact hK.out _ _ rfl rfl
   simp only[Act.put,List.setIfInBounds_toArray,List.set_cons_zero,List.set_cons_succ,Sg.pick,Nat.reduceAdd]
   refine⟨fun W' K' Q0 hI hD hK=> ?_,?_⟩
   ·skip
    go_simp
    refine(HEQ.out _ (HX.out.below hI.out) (HX'.out.below hI.out)).mono ?_;rintro e w' ⟨rfl,b⟩;exact hK.out _ _ b rfl
   simp only[Act.put,List.setIfInBounds_toArray,List.set_cons_zero,List.set_cons_succ,Sg.pick,Nat.reduceAdd]
   refine⟨fun W' K' Q0 hI hD hK=> ?_,?_⟩
   ·skip
    go_simp
    exact hK.out _ _ rfl rfl
   simp only[Act.put,List.setIfInBounds_toArray,List.set_cons_zero,List.set_cons_succ,Sg.pick,Nat.reduceAdd]
   intro W9 hI9 hD9
   have I9:=hDD (HB.out.trans (hI9.out.mono hsz))
   clear hI9 hD9
   go_wp2
   go_roundw
   case rel=>exact⟨k+1,by omega,by go_num,I9.out⟩
   case measure=>(simp[intOf];omega)
  ·obtain rfl:k=ds.length:=by omega
   go_wp2
   go_ret
   exact⟨rfl,HB.out⟩
end Go.Proofs.YtnjpoljbagfdnaaGreat
namespace Go.Proofs.YtnjpoljbagfdnaaGreat
set_option maxRecDepth 20000
set_option linter.unusedVariables false
set_option linter.unusedSimpArgs false
open Go.ChangeShapes Go.WideShapes Go.ChangeAt Go.RowKit
theorem open_argB {H:Type} {enc:TypeId×Value→H} {W:World} {base:Nat} {spare:Nat→Bool} {held:Bool} {v:Value} {d:DataW H} {p:List MemPlace}
  (hv:Value.okWide Tryz.prog W .any base 22 v) (h:DataW.Trod enc Tryz.prog W 0 spare held 22 v d p): ∃xs,ArgC W v xs:=by
 obtain⟨a,len,cap,rfl⟩:=okWide_slice Tryz.underlying22 hv
 obtain⟨fuel,hf⟩:=h
 have hf:DataW.trod enc Tryz.prog W 0 spare held fuel 22 [.slice a len cap]=some (d,p):=by simpa[Value.cells] using hf
 rcases open_ints Tryz.underlying22 Tryz.underlying5 (by kernel_rfl) hf with ⟨hcs,_⟩ | ⟨x,l,c,zs,hcs,_,hl,hm,hz,_,hcell,hwz⟩
 ·simp at hcs
  obtain⟨rfl,rfl,rfl⟩:=hcs
  exact⟨[],none,0,rfl,by simp,by simp[maxLen],by simp,by simp⟩
 ·simp at hcs
  obtain⟨rfl,rfl,rfl⟩:=hcs
  have hlz:len≤zs.length:=by rw[hz];split<;>omega
  have hlen:(zs.take len).length=len:=by simp;omega
  refine⟨zs.take len,_,cap,by rw[hlen],by omega,hm,fun n hn=> ?_,fun h0=> ?_⟩
  ·have:=hwz n (List.mem_of_mem_take hn)
   simpa[Lit.wf,IntKind.min,IntKind.max,IntKind.signed,IntKind.bits] using this
  ·obtain⟨b,off,sp⟩:=x
   have hsp:sp=none:=by simpa[Addr.add] using World.cell?_spot (hcell 0 (by omega))
   subst hsp
   refine⟨b,off,rfl,fun i hi=> ?_⟩
   have:=hcell i (by omega)
   rw[Addr.add_lit] at this
   rw[this]
   simp[List.getD,show i<zs.length by omega]
end Go.Proofs.YtnjpoljbagfdnaaGreat
