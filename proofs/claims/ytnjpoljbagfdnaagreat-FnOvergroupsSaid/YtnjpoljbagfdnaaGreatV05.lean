/- Parts of the proof: FoldU, CoreGS, CoreI, FoldI, MerI. -/
import Derived.Test.YtnjpoljbagfdnaaGreatV04
import Derived.Test.YtnjpoljbagfdnaaGreatV03
namespace Go.Proofs.YtnjpoljbagfdnaaGreat
set_option maxRecDepth 20000
set_option linter.unusedVariables false
set_option linter.unusedSimpArgs false
open Go.RowKit
def foC (f:FoD):List Value:= [.int .i64 f.1, .int .i64 f.2]
def foCs (l:List FoD):List Value:=(l.map foC).flatten
theorem foCs_snoc (l:List FoD) (f:FoD):foCs (l++ [f])=foCs l++foC f:=by simp[foCs]
def OwFo (w:World) (base:Nat) (v:Value) (l:List FoD):Prop:=w.ownsRow base 106 2 v l.length (foCs l)
section
variable {w w':World} {base:Nat} {v:Value} {l:List FoD}
theorem OwFo.below (h:OwFo w base v l) (hb:Below w.heap.size w w'):OwFo w' base v l:=ownsRow_below h hb
theorem OwFo.alloc (h:OwFo w base v l) (o:Obj):OwFo (w.alloc o) base v l:=World.ownsRow.alloc h o
theorem OwFo.mono {base':Nat} (h:OwFo w base v l) (hb:base'≤base):OwFo w base' v l:=by
 refine⟨h.1,?_⟩
 rcases h.2 with h0 | ⟨g,cap,cur,hv,hg,r⟩
 ·exact .inl h0
 ·exact .inr ⟨g,cap,cur,hv,Nat.le_trans hb hg,r⟩
theorem OwFo.form (h:OwFo w base v l): ∃A cap,v= .slice A l.length cap∧l.length≤cap∧cap≤maxLen∧(A=none→cap=0)∧(0<l.length→ ∃g,A=some ⟨g,0,none⟩∧base≤g∧g<w.heap.size):=owns_form h
end
theorem fold_info:(Tryz.prog.info? 106).map (fun i=>(i.zero,i.size,i.bytes))=some (some (.agg #[.int .i64 0, .int .i64 0]),2,16):=by kernel_rfl
theorem push_fold {w:World} {ops:Array Oper} {rest:List Oper} {o:Oper} {a:Act} {R:Exit→Act→World→Prop} (hgd:o.guard=none) (s x:Operand)
  (ho:o.op= .call {callee:= .builtin .append,args:= #[s,x],argTypes:= #[126,126]})
  (base:Nat) (v:Value) (l:List FoD) (hown:OwFo w base v l) (hs:a.eval s=v) (b:Nat) (f:FoD) (hx:a.eval x= .slice (some ⟨b,0,none⟩) 1 1)
  (hc: ∀j u,(foC f)[j]? =some u→w.cell? ⟨b,j,none⟩=some u) (hl:l.length≤1073741824) (hbase:base≤w.heap.size)
  (h: ∀v' w',OwFo w' base v' (l++ [f])→w.grownBy w' v.ownBlock→(v'.ownBlock=v.ownBlock∨v'.ownBlock=some w.heap.size)→wpList Tryz.prog ops R rest (a.put o.dst v') w'):
  wpList Tryz.prog ops R (o::rest) a w:=by
 obtain⟨i0,hi0,hz0,hz1,hz2⟩:=info_parts fold_info
 refine wpList_append_own_at _ hgd s x 126 ho base 106 i0 _ 2 16 Tryz.underlying126 hi0 hz0 hz1 hz2 rfl (by decide) v l.length (foCs l) hs hown ⟨b,0,none⟩ 1 1 (foC f) hx rfl ?_ ?_ (by unfold maxLen;omega) (by omega) hbase ?_
 ·intro j u hj
  rw[Addr.add_lit,Nat.zero_add]
  exact hc j u hj
 ·intro u hu
  simp[foC] at hu
  rcases hu with rfl | rfl<;>rfl
 ·intro v' w' h1 h2 h3 h5
  refine h v' w' ?_ h2 h5
  unfold OwFo
  rw[foCs_snoc,List.length_append]
  exact h1
theorem fo_lit (w:World) (a b:Value) (t:TypeId): ∀j u,[a,b][j]? =some u→(w.alloc (.cells #[a,b] t)).cell? ⟨w.heap.size,j,none⟩=some u:=by
 intro j u hj
 match j,hj with
 | 0,hj=>simp at hj;subst hj;simp[go_sem]
 | 1,hj=>simp at hj;subst hj;simp[go_sem]
theorem fo_litN (w:World) (N:Nat) (hN:w.heap.size=N) (a b:Value) (t:TypeId): ∀j u,[a,b][j]? =some u→(w.alloc (.cells #[a,b] t)).cell? ⟨N,j,none⟩=some u:=by
 subst hN;exact fo_lit w a b t
theorem grown_cellF {w w':World} {row:Option Nat} (hg:w.grownBy w' row) {b o:Nat} (hlt:b<w.heap.size) (hne: ∀c,row=some c→c≠b):w'.cell? ⟨b,o,none⟩=w.cell? ⟨b,o,none⟩:=
 World.cell?_of_block (hg.block b hlt fun e=>hne b e.symm rfl)
theorem OwFo_lit (w:World) {base:Nat} (h:base≤w.heap.size):OwFo (w.alloc (.cells #[] 106)) base (.slice (some ⟨w.heap.size,0,none⟩) 0 0) []:=by
 have:=World.ownsRow_lit (e:=106) (size:=2) (base:=base) w #[] 0 h (by unfold maxLen;omega) (by simp)
 simpa[OwFo,foCs] using this
set_option maxHeartbeats 1000000 in
theorem l7Folds_any (v:Value) (g:GrD) (w:World) (h:ArgG w v g) (hl:g.2.2.length≤120):
  Calls Tryz.prog 254 #[v] w fun e w'=> ∃r,e= .returned r∧OwFo w' w.heap.size r (foL g.2.2)∧Below w.heap.size w w':=by
 obtain⟨s,rfl,hi1,hi2,ha⟩:=h
 obtain⟨A,cap,rfl⟩:=ha.form
 obtain⟨g1,N,es⟩:=g
 simp only at*
 have HAE:=hDD ha
 clear ha
 have HUL:=hDD (foUp_len es)
 have HAL:=hDD (foAt_len es)
 go_enter Tryz.func254,Tryz.ntmps254
 have bx:Below w.heap.size w ((w.alloc (Obj.cells #[Value.int IntKind.i64 g1,Value.int IntKind.i64 N, .slice A es.length cap] 26)).alloc (.cells #[] 106)):=(by repeat(first | exact Below.refl _ _ | (refine Below.setCell ?_ (by first | omega | (simp<;>omega)) _) | (refine bel_drewN ?_ _) | (refine Below.drew ?_) | (refine Below.alloc ?_ (by first | omega | (simp<;>omega)) _)))
 have HOU:Hid (OwFo ((w.alloc (Obj.cells #[Value.int IntKind.i64 g1,Value.int IntKind.i64 N, .slice A es.length cap] 26)).alloc (.cells #[] 106)) (w.heap.size+1) (.slice (some ⟨w.heap.size+1,0,none⟩) 0 0) []):=hDD (by
  have:=OwFo_lit (base:=w.heap.size+1) (w.alloc (Obj.cells #[Value.int IntKind.i64 g1,Value.int IntKind.i64 N, .slice A es.length cap] 26)) (by simp)
  simpa using this)
 go_wp2
 obtain⟨W,hW⟩: ∃W,W=(w.alloc (Obj.cells #[Value.int IntKind.i64 g1,Value.int IntKind.i64 N, .slice A es.length cap] 26)).alloc (.cells #[] 106):=⟨_,rfl⟩
 rw[←hW] at bx HOU⊢
 have hsW:W.heap.size=w.heap.size+2:=by rw[hW];simp
 have L2:Hid (W.cell? ⟨w.heap.size,2,none⟩=some (.slice A es.length cap)):=hDD (by rw[hW];simp[go_sem])
 have BX:=hDD bx
 have HA:Hid (∀w',Below (w.heap.size+1) W w'→ArgE w' (.slice A es.length cap) es):=hDD fun w' hb=>HAE.out.below (BX.out.trans (hb.mono (by omega)))
 clear hW bx
 go_loopw [3,4] (fun out i wr=> ∃k:Nat,k≤es.length∧i= .int .i64 k∧OwFo wr (w.heap.size+1) out (foUp es k)∧Below (w.heap.size+1) W wr) (fun _ i _=>es.length-(intOf i).toNat)
 case atStart=>exact⟨0,Nat.zero_le _,rfl,HOU.out,(Below.refl W.heap.size W).mono (by omega)⟩
 case round=>
  obtain⟨i,hi,rfl,ho,hb⟩:=hrel
  have HO:=hDD ho
  have HB:=hDD hb
  obtain⟨wi,rfl⟩: ∃wi:World,wi=wr:=⟨_,rfl⟩
  clear ho hb
  have q2:=(HB.out.cell (p:=⟨w.heap.size,2,none⟩) (by show w.heap.size<w.heap.size+1;omega)).trans L2.out
  by_cases hlt:i<es.length
  ·have HO1:Hid (OwFo wi (w.heap.size+1) u3 (foUp es i++foAt es i (i+1))):=hDD (by rw[foAt_start,List.append_nil];exact HO.out)
   have HFU:=hDD (show foUp es (i+1)=foUp es i++foAt es i es.length from rfl)
   have hiI:(i:Int)<(es.length:Int):=by omega
   go_wp2
   go_loopw [3,5] (fun out k wr=> ∃j:Nat,i<j∧j≤es.length∧k= .int .i64 j∧OwFo wr (w.heap.size+1) out (foUp es i++foAt es i j)∧Below (w.heap.size+1) W wr) (fun _ k _=>es.length-(intOf k).toNat)
   case atStart=>exact⟨i+1,by omega,by omega,by go_num,HO1.out,HB.out⟩
   case round=>
    obtain⟨j,hij,hj,rfl,ho,hb⟩:=hrel
    have HO2:=hDD ho
    have HB2:=hDD hb
    obtain⟨wj,rfl⟩: ∃wj:World,wj=wr:=⟨_,rfl⟩
    clear ho hb q2
    have q2:=(HB2.out.cell (p:=⟨w.heap.size,2,none⟩) (by show w.heap.size<w.heap.size+1;omega)).trans L2.out
    by_cases hlt2:j<es.length
    ·obtain⟨b,off,rfl,hbw,a0,a1,a2,_⟩:=(HA.out wj HB2.out).at hlt
     obtain⟨b',off',hA,_,c0,c1,c2,_⟩:=(HA.out wj HB2.out).at hlt2
     injection hA with hA
     injection hA with e1 e2
     subst e1 e2
     have HST:=hDD (foAt_succ es i j hlt2 hij)
     rw[show es.getD i (0,0,0)=es[i] by simp[List.getD,hlt]] at HST
     have hln:(foUp es i++foAt es i j).length≤1000000:=by
      have h1:=HUL.out i
      have h2:=HAL.out i j
      have h3:2*es.length*i≤240*120:=Nat.mul_le_mul (by omega) (by omega)
      rw[List.length_append]
      omega
     have hbase:=HB2.out.size
     generalize es[i]=d at*
     generalize es[j]=d' at*
     obtain⟨d1,d2,d3⟩:=d
     obtain⟨f1,f2,f3⟩:=d'
     simp only at a0 a1 a2 c0 c1 c2
     have hjI:(j:Int)<(es.length:Int):=by omega
     generalize foAt es i j=FA at*
     have hwj:w.heap.size<wj.heap.size:=by omega
     have bA:Below wj.heap.size wj (wj.alloc (Obj.cells #[Value.int IntKind.i64 d1,Value.int IntKind.i64 d2,Value.int IntKind.i64 d3] 97)):=(Below.refl _ _).alloc (Nat.le_refl _) _
     have q2':=(bA.cell (p:=⟨w.heap.size,2,none⟩) hwj).trans q2
     have c0':=(bA.cell (p:=⟨b,off+j*3,none⟩) hbw).trans c0
     have c1':=(bA.cell (p:=⟨b,off+j*3+1,none⟩) hbw).trans c1
     have c2':=(bA.cell (p:=⟨b,off+j*3+2,none⟩) hbw).trans c2
     clear bA
     rcases e1:(d2==f2) with _ | _
     ·have HE:Hid (foAt es i (j+1)=FA):=hDD (by have hne:d2≠f2:=(by simpa using e1);rw[HST.out];simp[fo2,hne])
      go_wp2
      go_roundw
      case rel=>exact⟨j+1,by omega,by omega,by go_num,by rw[HE.out];exact(HO2.out.alloc _).alloc _,((HB2.out.alloc (by omega) _).alloc (by simp;omega) _)⟩
      case measure=>simp[intOf];omega
     have HBW:Hid (Below (w.heap.size+1) W ((wj.alloc (Obj.cells #[Value.int IntKind.i64 d1,Value.int IntKind.i64 d2,Value.int IntKind.i64 d3] 97)).alloc (Obj.cells #[Value.int IntKind.i64 f1,Value.int IntKind.i64 f2,Value.int IntKind.i64 f3] 97))):=hDD ((HB2.out.alloc (by omega) _).alloc (by simp;omega) _)
     rcases e2:(d1==f1) with _ | _
     ·rcases e3:(d3==f3) with _ | _
      ·have HE:Hid (foUp es i++foAt es i (j+1)=foUp es i++FA):=hDD (by have h1:d2=f2:=(by simpa using e1);have h2: ¬d1=f1:=(by simpa using e2);have h3: ¬d3=f3:=(by simpa using e3);rw[HST.out];simp[fo2,h1,h2,h3])
       go_wp2
       go_roundw
       case rel=>exact⟨j+1,by omega,by omega,by go_num,by rw[HE.out];exact(HO2.out.alloc _).alloc _,HBW.out⟩
       case measure=>simp[intOf];omega
      ·have HE:Hid (foUp es i++foAt es i (j+1)=(foUp es i++FA)++ [(min d1 f1,max d1 f1)]):=hDD (by have h1:d2=f2:=(by simpa using e1);have h2: ¬d1=f1:=(by simpa using e2);have h3:d3=f3:=(by simpa using e3);rw[HST.out];simp[fo2,h1,h2,h3])
       go_wp2_with (at_builtin;refine push_fold rfl (.tmp 73) (.tmp 85) rfl (w.heap.size+1) _ _ (((HO2.out.alloc _).alloc _).alloc _) rfl _ (min d1 f1,max d1 f1) rfl (fo_litN _ _ (by simp) _ _ _) (by omega) (by simp<;>omega) ?_;intro v6 w6 o6 g6 p6;have O6:=hDD o6;have B6:Hid (Below (w.heap.size+1) W w6):=hDD ((HBW.out.alloc (by simp<;>omega) (Obj.cells #[Value.int IntKind.i64 (min d1 f1),Value.int IntKind.i64 (max d1 f1)] 106)).grown g6 (by simp<;>omega) (fun k hk=>(HO2.out.lt k hk).1));clear o6 g6 p6)
       go_roundw
       case rel=>exact⟨j+1,by omega,by omega,by go_num,by rw[HE.out];exact O6.out,B6.out⟩
       case measure=>simp[intOf];omega
     ·rcases e3:(d3==f3) with _ | _
      ·have HE:Hid (foUp es i++foAt es i (j+1)=(foUp es i++FA)++ [(min d3 f3,max d3 f3)]):=hDD (by have h1:d2=f2:=(by simpa using e1);have h2:d1=f1:=(by simpa using e2);have h3: ¬d3=f3:=(by simpa using e3);rw[HST.out];simp[fo2,h1,h2,h3])
       go_wp2_with (at_builtin;refine push_fold rfl (.tmp 47) (.tmp 59) rfl (w.heap.size+1) _ _ (((HO2.out.alloc _).alloc _).alloc _) rfl _ (min d3 f3,max d3 f3) rfl (fo_litN _ _ (by simp) _ _ _) (by omega) (by simp<;>omega) ?_;intro v5 w5 o5 g5 p5;have k0:=(grown_cellF g5 (b:=wj.heap.size) (o:=0) (by simp<;>omega) (fun c hc=>by have:=(HO2.out.lt c hc).2;omega)).trans (show(((wj.alloc (Obj.cells #[Value.int IntKind.i64 d1,Value.int IntKind.i64 d2,Value.int IntKind.i64 d3] 97)).alloc (Obj.cells #[Value.int IntKind.i64 f1,Value.int IntKind.i64 f2,Value.int IntKind.i64 f3] 97)).alloc (Obj.cells #[Value.int IntKind.i64 (min d3 f3),Value.int IntKind.i64 (max d3 f3)] 106)).cell? _=some (.int .i64 d1) by simp[go_sem]);have k1:=(grown_cellF g5 (b:=wj.heap.size) (o:=1) (by simp<;>omega) (fun c hc=>by have:=(HO2.out.lt c hc).2;omega)).trans (show(((wj.alloc (Obj.cells #[Value.int IntKind.i64 d1,Value.int IntKind.i64 d2,Value.int IntKind.i64 d3] 97)).alloc (Obj.cells #[Value.int IntKind.i64 f1,Value.int IntKind.i64 f2,Value.int IntKind.i64 f3] 97)).alloc (Obj.cells #[Value.int IntKind.i64 (min d3 f3),Value.int IntKind.i64 (max d3 f3)] 106)).cell? _=some (.int .i64 d2) by simp[go_sem]);have k2:=(grown_cellF g5 (b:=wj.heap.size) (o:=2) (by simp<;>omega) (fun c hc=>by have:=(HO2.out.lt c hc).2;omega)).trans (show(((wj.alloc (Obj.cells #[Value.int IntKind.i64 d1,Value.int IntKind.i64 d2,Value.int IntKind.i64 d3] 97)).alloc (Obj.cells #[Value.int IntKind.i64 f1,Value.int IntKind.i64 f2,Value.int IntKind.i64 f3] 97)).alloc (Obj.cells #[Value.int IntKind.i64 (min d3 f3),Value.int IntKind.i64 (max d3 f3)] 106)).cell? _=some (.int .i64 d3) by simp[go_sem]);have k3:=(grown_cellF g5 (b:=wj.heap.size+1) (o:=0) (by simp<;>omega) (fun c hc=>by have:=(HO2.out.lt c hc).2;omega)).trans (show(((wj.alloc (Obj.cells #[Value.int IntKind.i64 d1,Value.int IntKind.i64 d2,Value.int IntKind.i64 d3] 97)).alloc (Obj.cells #[Value.int IntKind.i64 f1,Value.int IntKind.i64 f2,Value.int IntKind.i64 f3] 97)).alloc (Obj.cells #[Value.int IntKind.i64 (min d3 f3),Value.int IntKind.i64 (max d3 f3)] 106)).cell? _=some (.int .i64 f1) by simp[go_sem]);have k4:=(grown_cellF g5 (b:=wj.heap.size+1) (o:=1) (by simp<;>omega) (fun c hc=>by have:=(HO2.out.lt c hc).2;omega)).trans (show(((wj.alloc (Obj.cells #[Value.int IntKind.i64 d1,Value.int IntKind.i64 d2,Value.int IntKind.i64 d3] 97)).alloc (Obj.cells #[Value.int IntKind.i64 f1,Value.int IntKind.i64 f2,Value.int IntKind.i64 f3] 97)).alloc (Obj.cells #[Value.int IntKind.i64 (min d3 f3),Value.int IntKind.i64 (max d3 f3)] 106)).cell? _=some (.int .i64 f2) by simp[go_sem]);have k5:=(grown_cellF g5 (b:=wj.heap.size+1) (o:=2) (by simp<;>omega) (fun c hc=>by have:=(HO2.out.lt c hc).2;omega)).trans (show(((wj.alloc (Obj.cells #[Value.int IntKind.i64 d1,Value.int IntKind.i64 d2,Value.int IntKind.i64 d3] 97)).alloc (Obj.cells #[Value.int IntKind.i64 f1,Value.int IntKind.i64 f2,Value.int IntKind.i64 f3] 97)).alloc (Obj.cells #[Value.int IntKind.i64 (min d3 f3),Value.int IntKind.i64 (max d3 f3)] 106)).cell? _=some (.int .i64 f3) by simp[go_sem]);have O5:=hDD o5;have B5:Hid (Below (w.heap.size+1) W w5):=hDD ((HBW.out.alloc (by simp<;>omega) (Obj.cells #[Value.int IntKind.i64 (min d3 f3),Value.int IntKind.i64 (max d3 f3)] 106)).grown g5 (by simp<;>omega) (fun k hk=>(HO2.out.lt k hk).1));have hz5:=B5.out.size;clear o5 g5 p5)
       go_roundw
       case rel=>exact⟨j+1,by omega,by omega,by go_num,by rw[HE.out];exact O5.out,B5.out⟩
       case measure=>simp[intOf];omega
      ·have HE:Hid (foUp es i++foAt es i (j+1)=((foUp es i++FA)++ [(min d3 f3,max d3 f3)])++ [(min d1 f1,max d1 f1)]):=hDD (by have h1:d2=f2:=(by simpa using e1);have h2:d1=f1:=(by simpa using e2);have h3:d3=f3:=(by simpa using e3);rw[HST.out];simp[fo2,h1,h2,h3])
       go_wp2_with (first | (at_builtin;refine push_fold rfl (.tmp 47) (.tmp 59) rfl (w.heap.size+1) _ _ (((HO2.out.alloc _).alloc _).alloc _) rfl _ (min d3 f3,max d3 f3) rfl (fo_litN _ _ (by simp) _ _ _) (by omega) (by simp<;>omega) ?_;intro v5 w5 o5 g5 p5;have k0:=(grown_cellF g5 (b:=wj.heap.size) (o:=0) (by simp<;>omega) (fun c hc=>by have:=(HO2.out.lt c hc).2;omega)).trans (show(((wj.alloc (Obj.cells #[Value.int IntKind.i64 d1,Value.int IntKind.i64 d2,Value.int IntKind.i64 d3] 97)).alloc (Obj.cells #[Value.int IntKind.i64 f1,Value.int IntKind.i64 f2,Value.int IntKind.i64 f3] 97)).alloc (Obj.cells #[Value.int IntKind.i64 (min d3 f3),Value.int IntKind.i64 (max d3 f3)] 106)).cell? _=some (.int .i64 d1) by simp[go_sem]);have k1:=(grown_cellF g5 (b:=wj.heap.size) (o:=1) (by simp<;>omega) (fun c hc=>by have:=(HO2.out.lt c hc).2;omega)).trans (show(((wj.alloc (Obj.cells #[Value.int IntKind.i64 d1,Value.int IntKind.i64 d2,Value.int IntKind.i64 d3] 97)).alloc (Obj.cells #[Value.int IntKind.i64 f1,Value.int IntKind.i64 f2,Value.int IntKind.i64 f3] 97)).alloc (Obj.cells #[Value.int IntKind.i64 (min d3 f3),Value.int IntKind.i64 (max d3 f3)] 106)).cell? _=some (.int .i64 d2) by simp[go_sem]);have k2:=(grown_cellF g5 (b:=wj.heap.size) (o:=2) (by simp<;>omega) (fun c hc=>by have:=(HO2.out.lt c hc).2;omega)).trans (show(((wj.alloc (Obj.cells #[Value.int IntKind.i64 d1,Value.int IntKind.i64 d2,Value.int IntKind.i64 d3] 97)).alloc (Obj.cells #[Value.int IntKind.i64 f1,Value.int IntKind.i64 f2,Value.int IntKind.i64 f3] 97)).alloc (Obj.cells #[Value.int IntKind.i64 (min d3 f3),Value.int IntKind.i64 (max d3 f3)] 106)).cell? _=some (.int .i64 d3) by simp[go_sem]);have k3:=(grown_cellF g5 (b:=wj.heap.size+1) (o:=0) (by simp<;>omega) (fun c hc=>by have:=(HO2.out.lt c hc).2;omega)).trans (show(((wj.alloc (Obj.cells #[Value.int IntKind.i64 d1,Value.int IntKind.i64 d2,Value.int IntKind.i64 d3] 97)).alloc (Obj.cells #[Value.int IntKind.i64 f1,Value.int IntKind.i64 f2,Value.int IntKind.i64 f3] 97)).alloc (Obj.cells #[Value.int IntKind.i64 (min d3 f3),Value.int IntKind.i64 (max d3 f3)] 106)).cell? _=some (.int .i64 f1) by simp[go_sem]);have k4:=(grown_cellF g5 (b:=wj.heap.size+1) (o:=1) (by simp<;>omega) (fun c hc=>by have:=(HO2.out.lt c hc).2;omega)).trans (show(((wj.alloc (Obj.cells #[Value.int IntKind.i64 d1,Value.int IntKind.i64 d2,Value.int IntKind.i64 d3] 97)).alloc (Obj.cells #[Value.int IntKind.i64 f1,Value.int IntKind.i64 f2,Value.int IntKind.i64 f3] 97)).alloc (Obj.cells #[Value.int IntKind.i64 (min d3 f3),Value.int IntKind.i64 (max d3 f3)] 106)).cell? _=some (.int .i64 f2) by simp[go_sem]);have k5:=(grown_cellF g5 (b:=wj.heap.size+1) (o:=2) (by simp<;>omega) (fun c hc=>by have:=(HO2.out.lt c hc).2;omega)).trans (show(((wj.alloc (Obj.cells #[Value.int IntKind.i64 d1,Value.int IntKind.i64 d2,Value.int IntKind.i64 d3] 97)).alloc (Obj.cells #[Value.int IntKind.i64 f1,Value.int IntKind.i64 f2,Value.int IntKind.i64 f3] 97)).alloc (Obj.cells #[Value.int IntKind.i64 (min d3 f3),Value.int IntKind.i64 (max d3 f3)] 106)).cell? _=some (.int .i64 f3) by simp[go_sem]);have O5:=hDD o5;have B5:Hid (Below (w.heap.size+1) W w5):=hDD ((HBW.out.alloc (by simp<;>omega) (Obj.cells #[Value.int IntKind.i64 (min d3 f3),Value.int IntKind.i64 (max d3 f3)] 106)).grown g5 (by simp<;>omega) (fun k hk=>(HO2.out.lt k hk).1));have hz5:=B5.out.size;clear o5 g5 p5) | (at_builtin;refine push_fold rfl (.tmp 73) (.tmp 85) rfl (w.heap.size+1) _ _ (O5.out.alloc _) rfl _ (min d1 f1,max d1 f1) rfl (fo_litN _ _ (by simp) _ _ _) (by rw[List.length_append];simp only[List.length_singleton];omega) (by simp<;>omega) ?_;intro v6 w6 o6 g6 p6;have O6:=hDD o6;have B6:Hid (Below (w.heap.size+1) W w6):=hDD ((B5.out.alloc (by omega) (Obj.cells #[Value.int IntKind.i64 (min d1 f1),Value.int IntKind.i64 (max d1 f1)] 106)).grown g6 (by simp<;>omega) (fun k hk=>(O5.out.lt k hk).1));clear o6 g6 p6))
       go_roundw
       case rel=>exact⟨j+1,by omega,by omega,by go_num,by rw[HE.out];exact O6.out,B6.out⟩
       case measure=>simp[intOf];omega
    ·obtain rfl:j=es.length:=by omega
     go_wp2
     go_roundw
     case rel=>exact⟨i+1,by omega,by go_num,by rw[HFU.out];exact HO2.out,HB2.out⟩
     case measure=>simp[intOf];omega
  ·obtain rfl:i=es.length:=by omega
   obtain⟨Ao,co,hov,_⟩:=HO.out.form
   subst hov
   have HOF:=hDD (HO.out.mono (show w.heap.size≤w.heap.size+1 by omega))
   have HBF:Hid (Below w.heap.size w wi):=hDD (BX.out.trans (HB.out.mono (by omega)))
   go_wp2
   go_ret
   exact⟨_,rfl,HOF.out,HBF.out⟩
theorem cells2 {W:World} {b:Nat} {u0 u1:Value} (x y:Value) (h0:W.cell? ⟨b,0,none⟩=some u0) (h1:W.cell? ⟨b,1,none⟩=some u1):
  ((W.setCell ⟨b,0,none⟩ x).setCell ⟨b,1,none⟩ y).cell? ⟨b,0,none⟩=some x∧((W.setCell ⟨b,0,none⟩ x).setCell ⟨b,1,none⟩ y).cell? ⟨b,1,none⟩=some y:=
 ⟨by rw[World.cell?_setCell_other _ _ _ _ (by simp),World.cell?_setCell_same _ _ _ h0],World.cell?_setCell_same _ _ _ ((World.cell?_setCell_other _ _ _ _ (by simp)).trans h1)⟩
def firF (g:GrD):FoD×Bool:=if grB g=true then(match foL g.2.2 with | []=>((0,0),false) | f::_=>(f,true)) else((0,0),false)
theorem OwFo.head {w:World} {base g n cap:Nat} {f:FoD} {l:List FoD} (h:OwFo w base (.slice (some ⟨g,0,none⟩) n cap) (f::l)):w.cell? ⟨g,0,none⟩=some (.int .i64 f.1)∧w.cell? ⟨g,1,none⟩=some (.int .i64 f.2):=by
 obtain rfl:n=(f::l).length:=by
  obtain⟨_,_,hv,_⟩:=OwFo.form h
  injection hv
 have h':w.ownsRow base 106 2 (.slice (some ⟨g,0,none⟩) (f::l).length cap) (f::l).length (foCs (f::l)):=h
 have e0:=World.ownsRow.cellAt h' 0 (by simp<;>omega)
 have e1:=World.ownsRow.cellAt h' 1 (by simp<;>omega)
 exact⟨by rw[e0];rfl,by rw[e1];rfl⟩
set_option maxHeartbeats 1000000 in
theorem specFirstFold_any (v:Value) (g:GrD) (w:World) (h:ArgG w v g):
  Calls Tryz.prog 235 #[v] w fun e w'=>e= .returned (.tuple #[.agg #[.int .i64 (firF g).1.1, .int .i64 (firF g).1.2], .bool (firF g).2])∧Below w.heap.size w w':=by
 have HG:=hDD h
 obtain⟨s,rfl,hi1,hi2,ha⟩:=h
 obtain⟨A,cap,rfl⟩:=ha.form
 obtain⟨g1,N,es⟩:=g
 simp only at*
 clear ha
 go_enter Tryz.func235,Tryz.ntmps235
 have bx:Below w.heap.size w ((w.alloc (Obj.cells #[Value.int IntKind.i64 g1,Value.int IntKind.i64 N, .slice A es.length cap] 26)).alloc (Obj.cells #[Value.int IntKind.i64 0,Value.int IntKind.i64 0] 106)):=(by repeat(first | exact Below.refl _ _ | (refine Below.setCell ?_ (by first | omega | (simp<;>omega)) _) | (refine bel_drewN ?_ _) | (refine Below.drew ?_) | (refine Below.alloc ?_ (by first | omega | (simp<;>omega)) _)))
 go_wp2_with fail
 obtain⟨W,hW⟩: ∃W,W=(w.alloc (Obj.cells #[Value.int IntKind.i64 g1,Value.int IntKind.i64 N, .slice A es.length cap] 26)).alloc (Obj.cells #[Value.int IntKind.i64 0,Value.int IntKind.i64 0] 106):=⟨_,rfl⟩
 rw[←hW] at bx⊢
 have hsW:W.heap.size=w.heap.size+2:=by rw[hW];simp
 have L0:Hid (W.cell? ⟨w.heap.size,0,none⟩=some (.int .i64 g1)):=hDD (by rw[hW];simp[go_sem])
 have L1:Hid (W.cell? ⟨w.heap.size,1,none⟩=some (.int .i64 N)):=hDD (by rw[hW];simp[go_sem])
 have L2:Hid (W.cell? ⟨w.heap.size,2,none⟩=some (.slice A es.length cap)):=hDD (by rw[hW];simp[go_sem])
 have R0:Hid (W.cell? ⟨w.heap.size+1,0,none⟩=some (.int .i64 0)):=hDD (by rw[hW];simp[go_sem])
 have R1:Hid (W.cell? ⟨w.heap.size+1,1,none⟩=some (.int .i64 0)):=hDD (by rw[hW];simp[go_sem])
 have RF:Hid (∀j,W.frozen? ⟨w.heap.size+1,j,none⟩=false):=hDD fun j=>by rw[hW];simp[go_sem]
 have BX:=hDD bx
 have HA:Hid (∀w',Below W.heap.size W w'→ArgG w' (.agg #[.int .i64 g1, .int .i64 N, .slice A es.length cap]) (g1,N,es)):=hDD fun w' hb=>HG.out.below (BX.out.trans (hb.mono BX.out.size))
 clear hW bx
 refine(specIsGraph_any _ (g1,N,es) W (HA.out _ (Below.refl _ _))).mono ?_
 rintro e w1 ⟨rfl,b1⟩
 have B1:=hDD b1
 have hs1:=b1.size
 have q0:=(b1.cell (p:=⟨w.heap.size,0,none⟩) (by show w.heap.size<_;omega)).trans L0.out
 have q1:=(b1.cell (p:=⟨w.heap.size,1,none⟩) (by show w.heap.size<_;omega)).trans L1.out
 have q2:=(b1.cell (p:=⟨w.heap.size,2,none⟩) (by show w.heap.size<_;omega)).trans L2.out
 have r0:=(b1.cell (p:=⟨w.heap.size+1,0,none⟩) (by show w.heap.size+1<_;omega)).trans R0.out
 have r1:=(b1.cell (p:=⟨w.heap.size+1,1,none⟩) (by show w.heap.size+1<_;omega)).trans R1.out
 have f0:=(b1.frozen (p:=⟨w.heap.size+1,0,none⟩) (by show w.heap.size+1<_;omega)).trans (RF.out 0)
 have f1:=(b1.frozen (p:=⟨w.heap.size+1,1,none⟩) (by show w.heap.size+1<_;omega)).trans (RF.out 1)
 clear b1
 rcases eg:grB (g1,N,es) with _ | _
 ·have F:Hid (firF (g1,N,es)=((0,0),false)):=hDD (by unfold firF;rw[eg];rfl)
  clear eg
  go_wp2
  obtain⟨c0,c1⟩:=cells2 (.int .i64 0) (.int .i64 0) r0 r1
  rw[F.out]
  have HB:Hid (Below w.heap.size w ((w1.setCell ⟨w.heap.size+1,0,none⟩ (.int .i64 0)).setCell ⟨w.heap.size+1,1,none⟩ (.int .i64 0))):=hDD (((BX.out.trans (B1.out.mono BX.out.size)).setCell (by simp) _).setCell (by simp) _)
  exact bodyPost_ret (v:= .tuple #[.agg #[.int .i64 0, .int .i64 0], .bool false]) (by simp[results,Tryz.results235,go_sem,c0,c1]) rfl ⟨rfl,HB.out⟩
 have HGR:=hDD eg
 have h120:=(grB_parts eg).2.2.1
 simp only at h120
 go_wp2_with fail
 refine(l7Folds_any _ (g1,N,es) w1 (HA.out _ B1.out) h120).mono ?_
 rintro e w2 ⟨r,rfl,o2,b2⟩
 have O2:=hDD o2
 have B2:=hDD (B1.out.trans (b2.mono hs1))
 have hs2:=b2.size
 have k0:=(b2.cell (p:=⟨w.heap.size+1,0,none⟩) (by show w.heap.size+1<_;omega)).trans r0
 have k1:=(b2.cell (p:=⟨w.heap.size+1,1,none⟩) (by show w.heap.size+1<_;omega)).trans r1
 have j0:=(b2.frozen (p:=⟨w.heap.size+1,0,none⟩) (by show w.heap.size+1<_;omega)).trans f0
 have j1:=(b2.frozen (p:=⟨w.heap.size+1,1,none⟩) (by show w.heap.size+1<_;omega)).trans f1
 obtain⟨A2,c2,rfl,h2,_,_,hg2⟩:=o2.form
 clear o2 b2 q0 q1 q2 r0 r1 f0 f1
 rcases ef:foL es with _ | ⟨f,l⟩
 ·have F:Hid (firF (g1,N,es)=((0,0),false)):=hDD (by unfold firF;rw[if_pos HGR.out];simp only[ef])
  simp only[ef,List.length_nil] at*
  go_wp2
  obtain⟨c0,c1⟩:=cells2 (.int .i64 0) (.int .i64 0) k0 k1
  rw[F.out]
  have HB:Hid (Below w.heap.size w ((w2.setCell ⟨w.heap.size+1,0,none⟩ (.int .i64 0)).setCell ⟨w.heap.size+1,1,none⟩ (.int .i64 0))):=hDD (((BX.out.trans (B2.out.mono BX.out.size)).setCell (by simp) _).setCell (by simp) _)
  exact bodyPost_ret (v:= .tuple #[.agg #[.int .i64 0, .int .i64 0], .bool false]) (by simp[results,Tryz.results235,go_sem,c0,c1]) rfl ⟨rfl,HB.out⟩
 ·have F:Hid (firF (g1,N,es)=(f,true)):=hDD (by unfold firF;rw[if_pos HGR.out];simp only[ef])
  obtain⟨g',rfl,_,_⟩:=hg2 (by simp only[ef];simp)
  have O3:=O2.out
  simp only[ef] at O3
  obtain⟨p0,p1⟩:=O3.head
  have hne: ¬((foL es).length:Int)=0:=by rw[ef];simp;omega
  have hpos:(0:Int)<((foL es).length:Int):=by omega
  have HEF:=hDD ef
  obtain⟨fa,fb⟩:=f
  simp only at p0 p1
  clear ef O3
  generalize (foL es).length=nn at*
  go_wp2
  obtain⟨c0,c1⟩:=cells2 (.int .i64 fa) (.int .i64 fb) k0 k1
  rw[F.out]
  have HB:Hid (Below w.heap.size w ((w2.setCell ⟨w.heap.size+1,0,none⟩ (.int .i64 fa)).setCell ⟨w.heap.size+1,1,none⟩ (.int .i64 fb))):=hDD (((BX.out.trans (B2.out.mono BX.out.size)).setCell (by simp) _).setCell (by simp) _)
  exact bodyPost_ret (v:= .tuple #[.agg #[.int .i64 fa, .int .i64 fb], .bool true]) (by simp[results,Tryz.results235,go_sem,c0,c1]) rfl ⟨rfl,HB.out⟩
theorem gbox {w W:World} {a b c:Value} {t:TypeId} (hW:W=w.alloc (.cells #[a,b,c] t)):W.heap.size=w.heap.size+1∧Below w.heap.size w W∧
  (∀w',Below (w.heap.size+1) W w'→w'.cell? ⟨w.heap.size,0,none⟩=some a∧w'.cell? ⟨w.heap.size,1,none⟩=some b∧w'.cell? ⟨w.heap.size,2,none⟩=some c)∧ ∀j w',Below (w.heap.size+1) W w'→w'.frozen? ⟨w.heap.size,j,none⟩=false:=by
 have hs:W.heap.size=w.heap.size+1:=by rw[hW];simp
 have h0:W.cell? ⟨w.heap.size,0,none⟩=some a:=by rw[hW];simp[go_sem]
 have h1:W.cell? ⟨w.heap.size,1,none⟩=some b:=by rw[hW];simp[go_sem]
 have h2:W.cell? ⟨w.heap.size,2,none⟩=some c:=by rw[hW];simp[go_sem]
 refine⟨hs,by rw[hW];exact(Below.refl _ _).alloc (Nat.le_refl _) _,fun w' hb=>⟨(hb.cell (p:=⟨w.heap.size,0,none⟩) (Nat.lt_succ_self _)).trans h0,(hb.cell (p:=⟨w.heap.size,1,none⟩) (Nat.lt_succ_self _)).trans h1,(hb.cell (p:=⟨w.heap.size,2,none⟩) (Nat.lt_succ_self _)).trans h2⟩,fun j w' hb=>(hb.frozen (p:=⟨w.heap.size,j,none⟩) (Nat.lt_succ_self _)).trans ?_⟩
 rw[hW];simp[go_sem]
theorem cells3F {W:World} {b:Nat} {u0 u1 u2:Value} (x y z:Value) (h0:W.cell? ⟨b,0,none⟩=some u0) (h1:W.cell? ⟨b,1,none⟩=some u1) (h2:W.cell? ⟨b,2,none⟩=some u2):
  (((W.setCell ⟨b,0,none⟩ x).setCell ⟨b,1,none⟩ y).setCell ⟨b,2,none⟩ z).cell? ⟨b,0,none⟩=some x∧(((W.setCell ⟨b,0,none⟩ x).setCell ⟨b,1,none⟩ y).setCell ⟨b,2,none⟩ z).cell? ⟨b,1,none⟩=some y∧(((W.setCell ⟨b,0,none⟩ x).setCell ⟨b,1,none⟩ y).setCell ⟨b,2,none⟩ z).cell? ⟨b,2,none⟩=some z:=
 ⟨by rw[World.cell?_setCell_other _ _ _ _ (by simp),World.cell?_setCell_other _ _ _ _ (by simp),World.cell?_setCell_same _ _ _ h0],
  by rw[World.cell?_setCell_other _ _ _ _ (by simp)];exact World.cell?_setCell_same _ _ _ ((World.cell?_setCell_other _ _ _ _ (by simp)).trans h1),
  World.cell?_setCell_same _ _ _ ((World.cell?_setCell_other _ _ _ _ (by simp)).trans ((World.cell?_setCell_other _ _ _ _ (by simp)).trans h2))⟩
theorem mer_succ (es:List EdD) (f:FoD) (k:Nat) (h:k<es.length):srt cmpE ((es.take (k+1)).map (plE f))=insF cmpE (srt cmpE ((es.take k).map (plE f))) (plE f es[k]):=by
 rw[List.take_succ_eq_append_getElem h,List.map_append]
 unfold srt
 rw[List.foldl_append]
 rfl
theorem mer_len (es:List EdD) (f:FoD) (k:Nat):(srt cmpE ((es.take k).map (plE f))).length≤es.length:=by
 have:=srt_len (c:=cmpE) ((es.take k).map (plE f))
 rw[List.length_map,List.length_take] at this
 omega
theorem l7New_any (v:Int) (f:FoD) (w:World) (hv:0≤v∧v≤1000) (hf:0≤f.1∧f.1<f.2∧f.2≤1000):
  Calls Tryz.prog 191 #[.int .i64 v, .agg #[.int .i64 f.1, .int .i64 f.2]] w fun e w'=>e= .returned (.int .i64 (plF f v))∧Below w.heap.size w w':=by
 obtain⟨a,b⟩:=f
 simp only at hf⊢
 have hw:IntKind.i64.wrap (v-1)=v-1:=by rw[IntKind.wrap_i64];omega
 rcases e1:(v==b) with _ | _
 ·have h1: ¬v=b:=by simpa using e1
  rcases e2:decide (b<v) with _ | _
  ·have h2: ¬b<v:=by simpa using e2
   go_enter Tryz.func191,Tryz.ntmps191
   go_wp2
   go_ret
   exact⟨ret_int (by unfold plF;rw[if_neg h1,if_neg (show ¬b<v by omega)]),(by repeat(first | exact Below.refl _ _ | (refine Below.setCell ?_ (by first | omega | (simp<;>omega)) _) | (refine bel_drewN ?_ _) | (refine Below.drew ?_) | (refine Below.alloc ?_ (by first | omega | (simp<;>omega)) _)))⟩
  ·have h2:b<v:=by simpa using e2
   go_enter Tryz.func191,Tryz.ntmps191
   go_wp2
   go_ret
   exact⟨by simp[plF,h1,h2],(by repeat(first | exact Below.refl _ _ | (refine Below.setCell ?_ (by first | omega | (simp<;>omega)) _) | (refine bel_drewN ?_ _) | (refine Below.drew ?_) | (refine Below.alloc ?_ (by first | omega | (simp<;>omega)) _)))⟩
 ·have h1:v=b:=by simpa using e1
  have e2:decide (b<a)=false:=by simp;omega
  go_enter Tryz.func191,Tryz.ntmps191
  go_wp2
  go_ret
  exact⟨by simp[plF,h1],(by repeat(first | exact Below.refl _ _ | (refine Below.setCell ?_ (by first | omega | (simp<;>omega)) _) | (refine bel_drewN ?_ _) | (refine Below.drew ?_) | (refine Below.alloc ?_ (by first | omega | (simp<;>omega)) _)))⟩
set_option maxHeartbeats 1000000 in
theorem specMergeVertices_any (v:Value) (g:GrD) (f:FoD) (w:World) (h:ArgG w v g) (hg:grB g=true) (hf:0≤f.1∧f.1<f.2∧f.2<g.2.1):
  Calls Tryz.prog 124 #[v, .agg #[.int .i64 f.1, .int .i64 f.2]] w fun e w'=> ∃r,e= .returned (.tuple #[r, .bool true])∧OwG w' w.heap.size r (merG g f)∧Below w.heap.size w w':=by
 have HG:=hDD h
 have HGR:=hDD hg
 obtain⟨h13,h40,h120,_⟩:=grB_parts hg
 have HED:=hDD fun e (he:e∈g.2.2)=>edge_of_gr hg he
 obtain⟨s,rfl,hi1,hi2,ha⟩:=h
 obtain⟨A,cap,rfl⟩:=ha.form
 obtain⟨g1,N,es⟩:=g
 obtain⟨fa,fb⟩:=f
 simp only at*
 have HAE:=hDD ha
 clear ha hg
 have hN1:IntKind.i64.wrap (N-1)=N-1:=by rw[IntKind.wrap_i64];omega
 have hc1:decide (fa<0)=false:=by simp;omega
 have hc2:decide (fb≤fa)=false:=by simp;omega
 have hc3:decide (N≤fb)=false:=by simp;omega
 go_enter Tryz.func124,Tryz.ntmps124
 have bx:Below w.heap.size w (((w.alloc (Obj.cells #[Value.int IntKind.i64 g1,Value.int IntKind.i64 N, .slice A es.length cap] 26)).alloc (Obj.cells #[Value.int IntKind.i64 fa,Value.int IntKind.i64 fb] 106)).alloc (Obj.cells #[Value.int IntKind.i64 0,Value.int IntKind.i64 0, .slice none 0 0] 26)):=(by repeat(first | exact Below.refl _ _ | (refine Below.setCell ?_ (by first | omega | (simp<;>omega)) _) | (refine bel_drewN ?_ _) | (refine Below.drew ?_) | (refine Below.alloc ?_ (by first | omega | (simp<;>omega)) _)))
 go_wp2_with fail
 obtain⟨W,hW⟩: ∃W,W=(((w.alloc (Obj.cells #[Value.int IntKind.i64 g1,Value.int IntKind.i64 N, .slice A es.length cap] 26)).alloc (Obj.cells #[Value.int IntKind.i64 fa,Value.int IntKind.i64 fb] 106)).alloc (Obj.cells #[Value.int IntKind.i64 0,Value.int IntKind.i64 0, .slice none 0 0] 26)):=⟨_,rfl⟩
 rw[←hW] at bx⊢
 have hsW:W.heap.size=w.heap.size+3:=by rw[hW];simp
 have L0:Hid (W.cell? ⟨w.heap.size,0,none⟩=some (.int .i64 g1)):=hDD (by rw[hW];simp[go_sem])
 have L1:Hid (W.cell? ⟨w.heap.size,1,none⟩=some (.int .i64 N)):=hDD (by rw[hW];simp[go_sem])
 have L2:Hid (W.cell? ⟨w.heap.size,2,none⟩=some (.slice A es.length cap)):=hDD (by rw[hW];simp[go_sem])
 have M0:Hid (W.cell? ⟨w.heap.size+1,0,none⟩=some (.int .i64 fa)):=hDD (by rw[hW];simp[go_sem])
 have M1:Hid (W.cell? ⟨w.heap.size+1,1,none⟩=some (.int .i64 fb)):=hDD (by rw[hW];simp[go_sem])
 have R0:Hid (W.cell? ⟨w.heap.size+1+1,0,none⟩=some (.int .i64 0)):=hDD (by rw[hW];simp[go_sem])
 have R1:Hid (W.cell? ⟨w.heap.size+1+1,1,none⟩=some (.int .i64 0)):=hDD (by rw[hW];simp[go_sem])
 have R2:Hid (W.cell? ⟨w.heap.size+1+1,2,none⟩=some (.slice none 0 0)):=hDD (by rw[hW];simp[go_sem])
 have RF:Hid (∀j,W.frozen? ⟨w.heap.size+1+1,j,none⟩=false):=hDD fun j=>by rw[hW];simp[go_sem]
 have BX:=hDD bx
 have HA:Hid (∀w',Below W.heap.size W w'→ArgG w' (.agg #[.int .i64 g1, .int .i64 N, .slice A es.length cap]) (g1,N,es)):=hDD fun w' hb=>HG.out.below (BX.out.trans (hb.mono BX.out.size))
 have HA2:Hid (∀w',Below W.heap.size W w'→ArgE w' (.slice A es.length cap) es):=hDD fun w' hb=>HAE.out.below (BX.out.trans (hb.mono BX.out.size))
 clear hW bx
 have hgi:=specIsGraph_any _ (g1,N,es) W (HA.out _ (Below.refl _ _))
 rw[HGR.out] at hgi
 refine hgi.mono ?_
 rintro e w1 ⟨rfl,b1⟩
 have B1:=hDD b1
 have hs1:=b1.size
 clear b1 hgi
 have HCEL:Hid (∀wr,Below w1.heap.size w1 wr→wr.cell? ⟨w.heap.size,0,none⟩=some (.int .i64 g1)∧wr.cell? ⟨w.heap.size,1,none⟩=some (.int .i64 N)∧wr.cell? ⟨w.heap.size,2,none⟩=some (.slice A es.length cap)∧wr.cell? ⟨w.heap.size+1,0,none⟩=some (.int .i64 fa)∧wr.cell? ⟨w.heap.size+1,1,none⟩=some (.int .i64 fb)):=hDD fun wr hb=>by
  have hb2:Below W.heap.size W wr:=B1.out.trans (hb.mono hs1)
  exact⟨(hb2.cell (p:=⟨w.heap.size,0,none⟩) (by show w.heap.size<_;omega)).trans L0.out,(hb2.cell (p:=⟨w.heap.size,1,none⟩) (by show w.heap.size<_;omega)).trans L1.out,(hb2.cell (p:=⟨w.heap.size,2,none⟩) (by show w.heap.size<_;omega)).trans L2.out,(hb2.cell (p:=⟨w.heap.size+1,0,none⟩) (by show w.heap.size+1<_;omega)).trans M0.out,(hb2.cell (p:=⟨w.heap.size+1,1,none⟩) (by show w.heap.size+1<_;omega)).trans M1.out⟩
 obtain⟨q0,q1,q2,q3,q4⟩:=HCEL.out w1 (Below.refl _ _)
 have bX:Below w1.heap.size w1 (w1.alloc (Obj.cells #[Value.int IntKind.i64 g1,Value.int IntKind.i64 (N-1), .slice none 0 0] 26)):=(Below.refl _ _).alloc (Nat.le_refl _) _
 have BXX:=hDD bX
 have X0:Hid ((w1.alloc (Obj.cells #[Value.int IntKind.i64 g1,Value.int IntKind.i64 (N-1), .slice none 0 0] 26)).cell? ⟨w1.heap.size,0,none⟩=some (.int .i64 g1)):=hDD (by simp[go_sem])
 have X1:Hid ((w1.alloc (Obj.cells #[Value.int IntKind.i64 g1,Value.int IntKind.i64 (N-1), .slice none 0 0] 26)).cell? ⟨w1.heap.size,1,none⟩=some (.int .i64 (N-1))):=hDD (by simp[go_sem])
 have X2:Hid ((w1.alloc (Obj.cells #[Value.int IntKind.i64 g1,Value.int IntKind.i64 (N-1), .slice none 0 0] 26)).cell? ⟨w1.heap.size,2,none⟩=some (.slice none 0 0)):=hDD (by simp[go_sem])
 have XF:Hid (∀j,(w1.alloc (Obj.cells #[Value.int IntKind.i64 g1,Value.int IntKind.i64 (N-1), .slice none 0 0] 26)).frozen? ⟨w1.heap.size,j,none⟩=false):=hDD fun j=>by simp[go_sem]
 clear bX
 go_wp2
 obtain⟨w5,hw5⟩: ∃W,W=w1.alloc (Obj.cells #[Value.int IntKind.i64 g1,Value.int IntKind.i64 (N-1), .slice none 0 0] 26):=⟨_,rfl⟩
 have hs5:w5.heap.size=w1.heap.size+1:=by rw[hw5];simp
 rw[←hw5] at BXX X0 X1 X2 XF⊢
 clear hw5 q0 q1 q2 q3 q4
 go_loopw [7] (fun i wr=> ∃(k:Nat) (A2:Option Addr) (cap2:Nat),k≤es.length∧i= .int .i64 k∧wr.cell? ⟨w1.heap.size,2,none⟩=some (.slice A2 (srt cmpE ((es.take k).map (plE (fa,fb)))).length cap2)∧OwE wr (w1.heap.size+1) (.slice A2 (srt cmpE ((es.take k).map (plE (fa,fb)))).length cap2) (srt cmpE ((es.take k).map (plE (fa,fb))))∧Below w1.heap.size w1 wr∧
   wr.cell? ⟨w1.heap.size,0,none⟩=some (.int .i64 g1)∧wr.cell? ⟨w1.heap.size,1,none⟩=some (.int .i64 (N-1))∧(∀j,wr.frozen? ⟨w1.heap.size,j,none⟩=false)∧w1.heap.size<wr.heap.size) (fun i _=>es.length-(intOf i).toNat)
 case atStart=>exact⟨0,none,0,Nat.zero_le _,rfl,X2.out,OwE.nil,BXX.out,X0.out,X1.out,XF.out,by omega⟩
 case round=>
  obtain⟨k,A2,cap2,hk,rfl,hx2,how2,hbr,hx0,hx1,hxf,hxr⟩:=hrel
  have HX0:=hDD hx0
  have HX1:=hDD hx1
  have HX2:=hDD hx2
  have HXF:=hDD hxf
  have HOW2:=hDD how2
  have HBR:=hDD hbr
  have B4:=hDD (B1.out.trans (hbr.mono hs1))
  clear hx0 hx1 hx2 hxf how2 hbr
  obtain⟨q0,q1,q2,q3,q4⟩:=HCEL.out wr HBR.out
  by_cases hlt:k<es.length
  ·obtain⟨b,off,rfl,hbw,a0,a1,a2,he64⟩:=(HA2.out wr B4.out).at hlt
   have HST:=hDD (mer_succ es (fa,fb) k hlt)
   have hml:=mer_len es (fa,fb) k
   have hed:=HED.out es[k] (List.getElem_mem hlt)
   have HE64:=hDD he64
   have hkI:(k:Int)<(es.length:Int):=by omega
   generalize es[k]=d at*
   obtain⟨a,l,c⟩:=d
   simp only at a0 a1 a2 hed
   generalize srt cmpE ((es.take k).map (plE (fa,fb)))=L at*
   have bA:Below wr.heap.size wr (wr.alloc (Obj.cells #[Value.int IntKind.i64 a,Value.int IntKind.i64 l,Value.int IntKind.i64 c] 97)):=(Below.refl _ _).alloc (Nat.le_refl _) _
   have HPE:Hid (plE (fa,fb) (a,l,c)=(plF (fa,fb) a,l,plF (fa,fb) c)):=hDD rfl
   have HP1:=hDD (plF_range (f:=(fa,fb)) (n:=N) (v:=a) hf hed.1)
   have HP2:=hDD (plF_range (f:=(fa,fb)) (n:=N) (v:=c) hf hed.2.2)
   have HN:Hid (∀x:Int,0≤x∧x≤1000→ ∀W':World,Calls Tryz.prog 191 #[.int .i64 x, .agg #[.int .i64 fa, .int .i64 fb]] W' fun e w'=>e= .returned (.int .i64 (plF (fa,fb) x))∧Below W'.heap.size W' w'):=hDD fun x hx W'=>l7New_any x (fa,fb) W' hx ⟨hf.1,hf.2.1,by simp only;omega⟩
   have hda:0≤a∧a≤1000:=by omega
   have hdc:0≤c∧c≤1000:=by omega
   clear he64
   go_wp2_with fail
   have sA:wr.heap.size<(wr.alloc (Obj.cells #[Value.int IntKind.i64 a,Value.int IntKind.i64 l,Value.int IntKind.i64 c] 97)).heap.size:=by simp
   have l0:(wr.alloc (Obj.cells #[Value.int IntKind.i64 a,Value.int IntKind.i64 l,Value.int IntKind.i64 c] 97)).cell? ⟨wr.heap.size,0,none⟩=some (.int .i64 a):=by simp[go_sem]
   have l1:(wr.alloc (Obj.cells #[Value.int IntKind.i64 a,Value.int IntKind.i64 l,Value.int IntKind.i64 c] 97)).cell? ⟨wr.heap.size,1,none⟩=some (.int .i64 l):=by simp[go_sem]
   have l2:(wr.alloc (Obj.cells #[Value.int IntKind.i64 a,Value.int IntKind.i64 l,Value.int IntKind.i64 c] 97)).cell? ⟨wr.heap.size,2,none⟩=some (.int .i64 c):=by simp[go_sem]
   generalize wr.alloc (Obj.cells #[Value.int IntKind.i64 a,Value.int IntKind.i64 l,Value.int IntKind.i64 c] 97)=W9 at bA sA l0 l1 l2⊢
   have lx:=(bA.cell (p:=⟨w1.heap.size,2,none⟩) hxr).trans HX2.out
   have la:=(bA.cell (p:=⟨w.heap.size+1,0,none⟩) (by show w.heap.size+1<_;omega)).trans q3
   have lb:=(bA.cell (p:=⟨w.heap.size+1,1,none⟩) (by show w.heap.size+1<_;omega)).trans q4
   have LX0:=hDD ((bA.cell (p:=⟨w1.heap.size,0,none⟩) hxr).trans HX0.out)
   have LX1:=hDD ((bA.cell (p:=⟨w1.heap.size,1,none⟩) hxr).trans HX1.out)
   have LXF:Hid (∀j,W9.frozen? ⟨w1.heap.size,j,none⟩=false):=hDD fun j=>(bA.frozen (p:=⟨w1.heap.size,j,none⟩) hxr).trans (HXF.out j)
   have OW:=hDD (HOW2.out.below bA)
   have BW9:=hDD (HBR.out.trans (bA.mono (by omega)))
   have hXW:w1.heap.size<W9.heap.size:=by omega
   have hFW:w.heap.size+1<W9.heap.size:=by omega
   have hwX:wr.heap.size≠w1.heap.size:=by omega
   clear bA a0 a1 a2 q0 q1 q2 q3 q4
   have f0:=BelW.cell l0 sA
   have f1:=BelW.cell l1 sA
   have f2:=BelW.cell l2 sA
   have f3:=BelW.cell la hFW
   have f4:=BelW.cell lb hFW
   have f5:=BelW.cell lx hXW
   (refine wp_region_call3 13 (by kernel_rfl) (by kernel_rfl) (by kernel_rfl) (by kernel_rfl) (by rfl) (by rfl) ?_;dsimp only[dum3,dumO];(repeat(go_big_quiet_step ((go_at_call 191;exact Calls.bel_of (HN.out _ (by assumption) _)))));refine wpQuiet_nil ?_;refine⟨⟨_,fun _=>by rfl⟩,?_⟩;intro wq hw';obtain⟨pq,hw''⟩:=hw';have bq:=pq.h;rw[←hw''] at bq;clear hw'' pq;refine⟨_,_,by rfl,?_⟩)
   clear f0 f1 f2 f3 f4 f5
   simp only[List.map_toArray,List.map_cons,List.map_nil,Array.empty_append,Array.append_empty]
   refine(show Calls Tryz.prog 166 #[.slice A2 L.length cap2, .agg #[.int .i64 (plF (fa,fb) a), .int .i64 l, .int .i64 (plF (fa,fb) c)]] wq _ from ?_)
   have hp1:=HP1.out
   have hp2:=HP2.out
   refine(l4Put_any _ L (plF (fa,fb) a,l,plF (fa,fb) c) wq (OW.out.below bq).arg ⟨⟨by simp only;omega,by simp only;omega⟩,⟨by simp only;omega,by simp only;omega⟩,⟨by simp only;omega,by simp only;omega⟩⟩ (by omega)).mono ?_
   rintro e' w9 ⟨r9,rfl,o9,b9⟩
   have B9:=hDD (bq.trans (b9.mono bq.size))
   have qx:=(B9.out.cell (p:=⟨w1.heap.size,2,none⟩) hXW).trans lx
   have qf:=(B9.out.frozen (p:=⟨w1.heap.size,2,none⟩) hXW).trans (LXF.out 2)
   have s9:W9.heap.size≤w9.heap.size:=B9.out.size
   have O9:=hDD o9
   obtain⟨A9,cap9,rfl,_⟩:=o9.form
   clear o9 b9 hp1 hp2
   refine⟨_,rfl,?_⟩
   simp only[Act.put,List.setIfInBounds_toArray,List.set_cons_zero,List.set_cons_succ]
   go_wp2
   go_roundw
   case rel=>
    have F:=hDD (HST.out.trans (by rw[HPE.out]))
    refine⟨k+1,A9,cap9,by omega,by go_num,by rw[F.out];exact World.cell?_setCell_same _ _ _ qx,?_,(BW9.out.trans (B9.out.mono (by omega))).setCell (Nat.le_refl _) _,?_,?_,fun j=>by rw[World.frozen?_setCell];exact(B9.out.frozen (p:=⟨w1.heap.size,j,none⟩) hXW).trans (LXF.out j),by simp;omega⟩
    ·rw[F.out]
     exact(O9.out.mono (by show _≤wq.heap.size;have:=bq.size;omega)).far (show w1.heap.size<w1.heap.size+1 by omega) _
    ·rw[World.cell?_setCell_other _ _ _ _ (by simp)]
     exact(B9.out.cell (p:=⟨w1.heap.size,0,none⟩) hXW).trans LX0.out
    ·rw[World.cell?_setCell_other _ _ _ _ (by simp)]
     exact(B9.out.cell (p:=⟨w1.heap.size,1,none⟩) hXW).trans LX1.out
   case measure=>simp[intOf];omega
  ·obtain rfl:k=es.length:=by omega
   rw[List.take_length] at HX2 HOW2
   have HMG:Hid (merG (g1,N,es) (fa,fb)=(g1,N-1,srt cmpE (es.map (plE (fa,fb))))):=hDD rfl
   generalize srt cmpE (es.map (plE (fa,fb)))=L at*
   have hx0:=HX0.out
   have hx1:=HX1.out
   have hx2:=HX2.out
   have r0:=(B4.out.cell (p:=⟨w.heap.size+1+1,0,none⟩) (by show w.heap.size+1+1<_;omega)).trans R0.out
   have r1:=(B4.out.cell (p:=⟨w.heap.size+1+1,1,none⟩) (by show w.heap.size+1+1<_;omega)).trans R1.out
   have r2:=(B4.out.cell (p:=⟨w.heap.size+1+1,2,none⟩) (by show w.heap.size+1+1<_;omega)).trans R2.out
   have rf0:=(B4.out.frozen (p:=⟨w.heap.size+1+1,0,none⟩) (by show w.heap.size+1+1<_;omega)).trans (RF.out 0)
   have rf1:=(B4.out.frozen (p:=⟨w.heap.size+1+1,1,none⟩) (by show w.heap.size+1+1<_;omega)).trans (RF.out 1)
   have rf2:=(B4.out.frozen (p:=⟨w.heap.size+1+1,2,none⟩) (by show w.heap.size+1+1<_;omega)).trans (RF.out 2)
   have hRx:w.heap.size+1+1≠w1.heap.size:=by omega
   have HBF:=hDD (BX.out.trans (B4.out.mono BX.out.size))
   go_wp2
   obtain⟨c0,c1,c2⟩:=cells3F (.int .i64 g1) (.int .i64 (N-1)) (.slice A2 L.length cap2) r0 r1 r2
   have bw:Below w.heap.size w (((wr.setCell ⟨w.heap.size+1+1,0,none⟩ (.int .i64 g1)).setCell ⟨w.heap.size+1+1,1,none⟩ (.int .i64 (N-1))).setCell ⟨w.heap.size+1+1,2,none⟩ (.slice A2 L.length cap2)):=(((HBF.out.setCell (by simp<;>omega) _).setCell (by simp<;>omega) _).setCell (by simp<;>omega) _)
   have ow:OwE (((wr.setCell ⟨w.heap.size+1+1,0,none⟩ (.int .i64 g1)).setCell ⟨w.heap.size+1+1,1,none⟩ (.int .i64 (N-1))).setCell ⟨w.heap.size+1+1,2,none⟩ (.slice A2 L.length cap2)) (w1.heap.size+1) (.slice A2 L.length cap2) L:=((HOW2.out.far (by show w.heap.size+1+1<_;omega) _).far (by show w.heap.size+1+1<_;omega) _).far (by show w.heap.size+1+1<_;omega) _
   generalize (((wr.setCell ⟨w.heap.size+1+1,0,none⟩ (.int .i64 g1)).setCell ⟨w.heap.size+1+1,1,none⟩ (.int .i64 (N-1))).setCell ⟨w.heap.size+1+1,2,none⟩ (.slice A2 L.length cap2))=wf at*
   rw[HMG.out]
   exact bodyPost_ret (v:= .tuple #[.agg #[.int .i64 g1, .int .i64 (N-1), .slice A2 L.length cap2], .bool true]) (by simp[results,Tryz.results124,go_sem,c0,c1,c2]) rfl ⟨_,rfl,⟨.slice A2 L.length cap2,rfl,(by show I64 g1;unfold I64;omega),(by show I64 (N-1);unfold I64;omega),ow.mono (by omega)⟩,bw⟩
def onceG (g:GrD):GrD:=match foL g.2.2 with | []=>g | f::_=>merG g f
theorem setc_other {W:World} {b b' o o':Nat} {u:Value} {x:Option Value} (hne:b≠b') (h:W.cell? ⟨b,o,none⟩=x):(W.setCell ⟨b',o',none⟩ u).cell? ⟨b,o,none⟩=x:=
 (World.cell?_setCell_other _ _ _ _ (by simp[hne])).trans h
set_option maxHeartbeats 1000000 in
theorem specFoldOnce_any (v:Value) (g:GrD) (w:World) (h:ArgG w v g) (hg:grB g=true):
  Calls Tryz.prog 213 #[v] w fun e w'=> ∃r,e= .returned (.tuple #[r, .agg #[.int .i64 (firF g).1.1, .int .i64 (firF g).1.2], .bool (firF g).2])∧OwG w' w.heap.size r (onceG g)∧Below w.heap.size w w':=by
 have HG:=hDD h
 have HGR:=hDD hg
 have HFK:=hDD fun f (hf:f∈foL g.2.2)=>foL_ok hg hf
 have h120:=(grB_parts hg).2.2.1
 obtain⟨s,rfl,hi1,hi2,ha⟩:=h
 obtain⟨A,cap,rfl⟩:=ha.form
 obtain⟨g1,N,es⟩:=g
 simp only at*
 clear ha hg
 go_enter Tryz.func213,Tryz.ntmps213
 have bx:Below w.heap.size w (((w.alloc (Obj.cells #[Value.int IntKind.i64 g1,Value.int IntKind.i64 N, .slice A es.length cap] 26)).alloc (Obj.cells #[Value.int IntKind.i64 0,Value.int IntKind.i64 0, .slice none 0 0] 26)).alloc (Obj.cells #[Value.int IntKind.i64 0,Value.int IntKind.i64 0] 106)):=(by repeat(first | exact Below.refl _ _ | (refine Below.setCell ?_ (by first | omega | (simp<;>omega)) _) | (refine bel_drewN ?_ _) | (refine Below.drew ?_) | (refine Below.alloc ?_ (by first | omega | (simp<;>omega)) _)))
 go_wp2_with fail
 obtain⟨W,hW⟩: ∃W,W=(((w.alloc (Obj.cells #[Value.int IntKind.i64 g1,Value.int IntKind.i64 N, .slice A es.length cap] 26)).alloc (Obj.cells #[Value.int IntKind.i64 0,Value.int IntKind.i64 0, .slice none 0 0] 26)).alloc (Obj.cells #[Value.int IntKind.i64 0,Value.int IntKind.i64 0] 106)):=⟨_,rfl⟩
 rw[←hW] at bx⊢
 have hsW:W.heap.size=w.heap.size+3:=by rw[hW];simp
 have L0:Hid (W.cell? ⟨w.heap.size,0,none⟩=some (.int .i64 g1)):=hDD (by rw[hW];simp[go_sem])
 have L1:Hid (W.cell? ⟨w.heap.size,1,none⟩=some (.int .i64 N)):=hDD (by rw[hW];simp[go_sem])
 have L2:Hid (W.cell? ⟨w.heap.size,2,none⟩=some (.slice A es.length cap)):=hDD (by rw[hW];simp[go_sem])
 have R0:Hid (W.cell? ⟨w.heap.size+1,0,none⟩=some (.int .i64 0)):=hDD (by rw[hW];simp[go_sem])
 have R1:Hid (W.cell? ⟨w.heap.size+1,1,none⟩=some (.int .i64 0)):=hDD (by rw[hW];simp[go_sem])
 have R2:Hid (W.cell? ⟨w.heap.size+1,2,none⟩=some (.slice none 0 0)):=hDD (by rw[hW];simp[go_sem])
 have S0:Hid (W.cell? ⟨w.heap.size+1+1,0,none⟩=some (.int .i64 0)):=hDD (by rw[hW];simp[go_sem])
 have S1:Hid (W.cell? ⟨w.heap.size+1+1,1,none⟩=some (.int .i64 0)):=hDD (by rw[hW];simp[go_sem])
 have RF:Hid (∀j,W.frozen? ⟨w.heap.size+1,j,none⟩=false):=hDD fun j=>by rw[hW];simp[go_sem]
 have SF:Hid (∀j,W.frozen? ⟨w.heap.size+1+1,j,none⟩=false):=hDD fun j=>by rw[hW];simp[go_sem]
 have BX:=hDD bx
 have HA:Hid (∀w',Below W.heap.size W w'→ArgG w' (.agg #[.int .i64 g1, .int .i64 N, .slice A es.length cap]) (g1,N,es)):=hDD fun w' hb=>HG.out.below (BX.out.trans (hb.mono BX.out.size))
 have HCL:Hid (∀w',Below W.heap.size W w'→w'.cell? ⟨w.heap.size,0,none⟩=some (.int .i64 g1)∧w'.cell? ⟨w.heap.size,1,none⟩=some (.int .i64 N)∧w'.cell? ⟨w.heap.size,2,none⟩=some (.slice A es.length cap)):=hDD fun w' hb=>
  ⟨(hb.cell (p:=⟨w.heap.size,0,none⟩) (by show w.heap.size<_;omega)).trans L0.out,(hb.cell (p:=⟨w.heap.size,1,none⟩) (by show w.heap.size<_;omega)).trans L1.out,(hb.cell (p:=⟨w.heap.size,2,none⟩) (by show w.heap.size<_;omega)).trans L2.out⟩
 have HCR:Hid (∀w',Below W.heap.size W w'→w'.cell? ⟨w.heap.size+1,0,none⟩=some (.int .i64 0)∧w'.cell? ⟨w.heap.size+1,1,none⟩=some (.int .i64 0)∧w'.cell? ⟨w.heap.size+1,2,none⟩=some (.slice none 0 0)∧w'.cell? ⟨w.heap.size+1+1,0,none⟩=some (.int .i64 0)∧w'.cell? ⟨w.heap.size+1+1,1,none⟩=some (.int .i64 0)∧(∀j,w'.frozen? ⟨w.heap.size+1,j,none⟩=false)∧(∀j,w'.frozen? ⟨w.heap.size+1+1,j,none⟩=false)):=hDD fun w' hb=>
  ⟨(hb.cell (p:=⟨w.heap.size+1,0,none⟩) (by show w.heap.size+1<_;omega)).trans R0.out,(hb.cell (p:=⟨w.heap.size+1,1,none⟩) (by show w.heap.size+1<_;omega)).trans R1.out,(hb.cell (p:=⟨w.heap.size+1,2,none⟩) (by show w.heap.size+1<_;omega)).trans R2.out,(hb.cell (p:=⟨w.heap.size+1+1,0,none⟩) (by show w.heap.size+1+1<_;omega)).trans S0.out,(hb.cell (p:=⟨w.heap.size+1+1,1,none⟩) (by show w.heap.size+1+1<_;omega)).trans S1.out,fun j=>(hb.frozen (p:=⟨w.heap.size+1,j,none⟩) (by show w.heap.size+1<_;omega)).trans (RF.out j),fun j=>(hb.frozen (p:=⟨w.heap.size+1+1,j,none⟩) (by show w.heap.size+1+1<_;omega)).trans (SF.out j)⟩
 clear hW bx L0 L1 L2 R0 R1 R2 S0 S1 RF SF
 refine(specFirstFold_any _ (g1,N,es) W (HA.out _ (Below.refl _ _))).mono ?_
 rintro e w1 ⟨rfl,b1⟩
 have B1:=hDD b1
 have hs1:=b1.size
 clear b1
 rcases ef:foL es with _ | ⟨f,l⟩
 ·have F:Hid (firF (g1,N,es)=((0,0),false)):=hDD (by unfold firF;rw[if_pos HGR.out];simp only[ef])
  have FO:Hid (onceG (g1,N,es)=(g1,N,es)):=hDD (by unfold onceG;simp only[ef])
  clear ef
  rw[F.out]
  simp only
  have bA:Below w1.heap.size w1 (w1.alloc (Obj.cells #[Value.int IntKind.i64 0,Value.int IntKind.i64 0] 106)):=(Below.refl _ _).alloc (Nat.le_refl _) _
  have BA:=hDD (B1.out.trans (bA.mono hs1))
  obtain⟨q0,q1,q2⟩:=HCL.out _ BA.out
  go_wp2_with fail
  refine(l4Copy_any _ (g1,N,es) _ (HA.out _ BA.out) (by simp only;omega)).mono ?_
  rintro e w2 ⟨r,rfl,o2,b2⟩
  have B2:=hDD (BA.out.trans (b2.mono BA.out.size))
  have O2:=hDD o2
  obtain⟨s2,rfl,_,_,oe2⟩:=o2
  obtain⟨A2,c2,rfl,_⟩:=oe2.form
  have OE2:=hDD oe2
  have hsA:=BA.out.size
  obtain⟨r0,r1,r2,s0,s1,rf,sf⟩:=HCR.out w2 B2.out
  have rf0:=rf 0
  have rf1:=rf 1
  have rf2:=rf 2
  have sf0:=sf 0
  have sf1:=sf 1
  have HBF:=hDD (BX.out.trans (B2.out.mono BX.out.size))
  clear b2 oe2 rf sf q0 q1 q2 bA
  go_wp2
  obtain⟨c0,c1,c2'⟩:=cells3F (.int .i64 g1) (.int .i64 N) (.slice A2 es.length c2) r0 r1 r2
  have hne1:w.heap.size+1≠w.heap.size+1+1:=by omega
  have hne2:w.heap.size+1+1≠w.heap.size+1:=by omega
  have d0:=setc_other (o':=1) (u:= .int .i64 0) hne1 (setc_other (o':=0) (u:= .int .i64 0) hne1 c0)
  have d1:=setc_other (o':=1) (u:= .int .i64 0) hne1 (setc_other (o':=0) (u:= .int .i64 0) hne1 c1)
  have d2:=setc_other (o':=1) (u:= .int .i64 0) hne1 (setc_other (o':=0) (u:= .int .i64 0) hne1 c2')
  obtain⟨e0,e1⟩:=cells2 (.int .i64 0) (.int .i64 0) (setc_other (o':=2) (u:= .slice A2 es.length c2) hne2 (setc_other (o':=1) (u:= .int .i64 N) hne2 (setc_other (o':=0) (u:= .int .i64 g1) hne2 s0))) (setc_other (o':=2) (u:= .slice A2 es.length c2) hne2 (setc_other (o':=1) (u:= .int .i64 N) hne2 (setc_other (o':=0) (u:= .int .i64 g1) hne2 s1)))
  have bw:Below w.heap.size w (((((w2.setCell ⟨w.heap.size+1,0,none⟩ (.int .i64 g1)).setCell ⟨w.heap.size+1,1,none⟩ (.int .i64 N)).setCell ⟨w.heap.size+1,2,none⟩ (.slice A2 es.length c2)).setCell ⟨w.heap.size+1+1,0,none⟩ (.int .i64 0)).setCell ⟨w.heap.size+1+1,1,none⟩ (.int .i64 0)):=(((((HBF.out.setCell (by simp<;>omega) _).setCell (by simp<;>omega) _).setCell (by simp<;>omega) _).setCell (by simp<;>omega) _).setCell (by simp<;>omega) _)
  have ow:OwE (((((w2.setCell ⟨w.heap.size+1,0,none⟩ (.int .i64 g1)).setCell ⟨w.heap.size+1,1,none⟩ (.int .i64 N)).setCell ⟨w.heap.size+1,2,none⟩ (.slice A2 es.length c2)).setCell ⟨w.heap.size+1+1,0,none⟩ (.int .i64 0)).setCell ⟨w.heap.size+1+1,1,none⟩ (.int .i64 0)) _ (.slice A2 es.length c2) es:=(((((OE2.out.far (by show w.heap.size+1<_;omega) _).far (by show w.heap.size+1<_;omega) _).far (by show w.heap.size+1<_;omega) _).far (by show w.heap.size+1+1<_;omega) _).far (by show w.heap.size+1+1<_;omega) _)
  generalize (((((w2.setCell ⟨w.heap.size+1,0,none⟩ (.int .i64 g1)).setCell ⟨w.heap.size+1,1,none⟩ (.int .i64 N)).setCell ⟨w.heap.size+1,2,none⟩ (.slice A2 es.length c2)).setCell ⟨w.heap.size+1+1,0,none⟩ (.int .i64 0)).setCell ⟨w.heap.size+1+1,1,none⟩ (.int .i64 0))=wf at*
  rw[FO.out,F.out]
  exact bodyPost_ret (v:= .tuple #[.agg #[.int .i64 g1, .int .i64 N, .slice A2 es.length c2], .agg #[.int .i64 0, .int .i64 0], .bool false]) (by simp[results,Tryz.results213,go_sem,d0,d1,d2,e0,e1]) rfl ⟨_,rfl,⟨.slice A2 es.length c2,rfl,hi1,hi2,ow.mono (by omega)⟩,bw⟩
 ·have F:Hid (firF (g1,N,es)=(f,true)):=hDD (by unfold firF;rw[if_pos HGR.out];simp only[ef])
  have FO:Hid (onceG (g1,N,es)=merG (g1,N,es) f):=hDD (by unfold onceG;simp only[ef])
  have hfk:=HFK.out f (by rw[ef];simp)
  clear ef
  rw[F.out]
  obtain⟨fa,fb⟩:=f
  simp only
  have bA:Below w1.heap.size w1 (w1.alloc (Obj.cells #[Value.int IntKind.i64 fa,Value.int IntKind.i64 fb] 106)):=(Below.refl _ _).alloc (Nat.le_refl _) _
  have BA:=hDD (B1.out.trans (bA.mono hs1))
  obtain⟨q0,q1,q2⟩:=HCL.out _ BA.out
  go_wp2_with fail
  obtain⟨WA,hWA⟩: ∃W,W=w1.alloc (Obj.cells #[Value.int IntKind.i64 fa,Value.int IntKind.i64 fb] 106):=⟨_,rfl⟩
  have k0:Hid (WA.cell? ⟨w1.heap.size,0,none⟩=some (.int .i64 fa)):=hDD (by rw[hWA];simp[go_sem])
  have k1:Hid (WA.cell? ⟨w1.heap.size,1,none⟩=some (.int .i64 fb)):=hDD (by rw[hWA];simp[go_sem])
  have hsA:WA.heap.size=w1.heap.size+1:=by rw[hWA];simp
  rw[←hWA] at BA q0 q1 q2⊢
  clear hWA bA
  refine(specMergeVertices_any _ (g1,N,es) (fa,fb) WA (HA.out _ BA.out) HGR.out hfk).mono ?_
  rintro e w2 ⟨r,rfl,o2,b2⟩
  have B2:=hDD (BA.out.trans (b2.mono BA.out.size))
  have hs2:=b2.size
  obtain⟨s2,rfl,hj1,hj2,oe2⟩:=o2
  obtain⟨A2,c2,rfl,_⟩:=oe2.form
  have OE2:=hDD oe2
  have l0:=(b2.cell (p:=⟨w1.heap.size,0,none⟩) (by show w1.heap.size<_;omega)).trans k0.out
  have l1:=(b2.cell (p:=⟨w1.heap.size,1,none⟩) (by show w1.heap.size<_;omega)).trans k1.out
  clear b2 oe2 q0 q1 q2
  generalize hmg:merG (g1,N,es) (fa,fb)=M at*
  obtain⟨m1,m2,ms⟩:=M
  simp only at hj1 hj2
  have HMG:=hDD hmg
  clear hmg
  go_wp2_with fail
  have bB:Below w2.heap.size w2 (w2.alloc (Obj.cells #[Value.int IntKind.i64 m1,Value.int IntKind.i64 m2, .slice A2 ms.length c2] 26)):=(Below.refl _ _).alloc (Nat.le_refl _) _
  obtain⟨WB,hWB⟩: ∃W,W=w2.alloc (Obj.cells #[Value.int IntKind.i64 m1,Value.int IntKind.i64 m2, .slice A2 ms.length c2] 26):=⟨_,rfl⟩
  have x0:WB.cell? ⟨w2.heap.size,0,none⟩=some (.int .i64 m1):=by rw[hWB];simp[go_sem]
  have x1:WB.cell? ⟨w2.heap.size,1,none⟩=some (.int .i64 m2):=by rw[hWB];simp[go_sem]
  have x2:WB.cell? ⟨w2.heap.size,2,none⟩=some (.slice A2 ms.length c2):=by rw[hWB];simp[go_sem]
  have hsB:WB.heap.size=w2.heap.size+1:=by rw[hWB];simp
  rw[←hWB] at bB⊢
  clear hWB
  have y0:=(bB.cell (p:=⟨w1.heap.size,0,none⟩) (by show w1.heap.size<_;omega)).trans l0
  have y1:=(bB.cell (p:=⟨w1.heap.size,1,none⟩) (by show w1.heap.size<_;omega)).trans l1
  have BB:=hDD (B2.out.trans (bB.mono B2.out.size))
  have OEB:=hDD (OE2.out.below bB)
  obtain⟨r0,r1,r2,s0,s1,rf,sf⟩:=HCR.out WB BB.out
  have rf0:=rf 0
  have rf1:=rf 1
  have rf2:=rf 2
  have sf0:=sf 0
  have sf1:=sf 1
  have hne1:w.heap.size+1≠w2.heap.size:=by omega
  have hne2:w.heap.size+1+1≠w2.heap.size:=by omega
  have hne3:w.heap.size+1≠w1.heap.size:=by omega
  have hne4:w.heap.size+1+1≠w1.heap.size:=by omega
  have HBF:=hDD (BX.out.trans (BB.out.mono BX.out.size))
  clear rf sf l0 l1 bB
  go_region_held3 (fun w'=>w'.cell? ⟨w2.heap.size,0,none⟩=some (.int .i64 m1)∧w'.cell? ⟨w2.heap.size,1,none⟩=some (.int .i64 m2)∧w'.cell? ⟨w2.heap.size,2,none⟩=some (.slice A2 ms.length c2)∧w'.cell? ⟨w1.heap.size,0,none⟩=some (.int .i64 fa)∧w'.cell? ⟨w1.heap.size,1,none⟩=some (.int .i64 fb))
   (first | go_keep | (simp[go_sem, *];done))
   (fail)
  go_wp2
  obtain⟨c0,c1,c2'⟩:=cells3F (.int .i64 m1) (.int .i64 m2) (.slice A2 ms.length c2) r0 r1 r2
  have hnf1:w.heap.size+1≠w.heap.size+1+1:=by omega
  have hnf2:w.heap.size+1+1≠w.heap.size+1:=by omega
  have d0:=setc_other (o':=1) (u:= .int .i64 fb) hnf1 (setc_other (o':=0) (u:= .int .i64 fa) hnf1 c0)
  have d1:=setc_other (o':=1) (u:= .int .i64 fb) hnf1 (setc_other (o':=0) (u:= .int .i64 fa) hnf1 c1)
  have d2:=setc_other (o':=1) (u:= .int .i64 fb) hnf1 (setc_other (o':=0) (u:= .int .i64 fa) hnf1 c2')
  obtain⟨e0,e1⟩:=cells2 (.int .i64 fa) (.int .i64 fb) (setc_other (o':=2) (u:= .slice A2 ms.length c2) hnf2 (setc_other (o':=1) (u:= .int .i64 m2) hnf2 (setc_other (o':=0) (u:= .int .i64 m1) hnf2 s0))) (setc_other (o':=2) (u:= .slice A2 ms.length c2) hnf2 (setc_other (o':=1) (u:= .int .i64 m2) hnf2 (setc_other (o':=0) (u:= .int .i64 m1) hnf2 s1)))
  have bw:Below w.heap.size w (((((WB.setCell ⟨w.heap.size+1,0,none⟩ (.int .i64 m1)).setCell ⟨w.heap.size+1,1,none⟩ (.int .i64 m2)).setCell ⟨w.heap.size+1,2,none⟩ (.slice A2 ms.length c2)).setCell ⟨w.heap.size+1+1,0,none⟩ (.int .i64 fa)).setCell ⟨w.heap.size+1+1,1,none⟩ (.int .i64 fb)).drew:=(((((HBF.out.setCell (by simp<;>omega) _).setCell (by simp<;>omega) _).setCell (by simp<;>omega) _).setCell (by simp<;>omega) _).setCell (by simp<;>omega) _).drew
  have ow:OwE (((((WB.setCell ⟨w.heap.size+1,0,none⟩ (.int .i64 m1)).setCell ⟨w.heap.size+1,1,none⟩ (.int .i64 m2)).setCell ⟨w.heap.size+1,2,none⟩ (.slice A2 ms.length c2)).setCell ⟨w.heap.size+1+1,0,none⟩ (.int .i64 fa)).setCell ⟨w.heap.size+1+1,1,none⟩ (.int .i64 fb)).drew _ (.slice A2 ms.length c2) ms:=(((((OEB.out.far (by show w.heap.size+1<_;omega) _).far (by show w.heap.size+1<_;omega) _).far (by show w.heap.size+1<_;omega) _).far (by show w.heap.size+1+1<_;omega) _).far (by show w.heap.size+1+1<_;omega) _).drew
  generalize (((((WB.setCell ⟨w.heap.size+1,0,none⟩ (.int .i64 m1)).setCell ⟨w.heap.size+1,1,none⟩ (.int .i64 m2)).setCell ⟨w.heap.size+1,2,none⟩ (.slice A2 ms.length c2)).setCell ⟨w.heap.size+1+1,0,none⟩ (.int .i64 fa)).setCell ⟨w.heap.size+1+1,1,none⟩ (.int .i64 fb))=wf at*
  have d0':wf.drew.cell? ⟨w.heap.size+1,0,none⟩=some (.int .i64 m1):=d0
  have d1':wf.drew.cell? ⟨w.heap.size+1,1,none⟩=some (.int .i64 m2):=d1
  have d2':wf.drew.cell? ⟨w.heap.size+1,2,none⟩=some (.slice A2 ms.length c2):=d2
  have e0':wf.drew.cell? ⟨w.heap.size+1+1,0,none⟩=some (.int .i64 fa):=e0
  have e1':wf.drew.cell? ⟨w.heap.size+1+1,1,none⟩=some (.int .i64 fb):=e1
  generalize wf.drew=wg at*
  rw[FO.out,F.out]
  exact bodyPost_ret (v:= .tuple #[.agg #[.int .i64 m1, .int .i64 m2, .slice A2 ms.length c2], .agg #[.int .i64 fa, .int .i64 fb], .bool true]) (by simp[results,Tryz.results213,go_sem,d0',d1',d2',e0',e1']) rfl ⟨_,rfl,⟨.slice A2 ms.length c2,rfl,hj1,hj2,ow.mono (by omega)⟩,bw⟩
theorem once_folA {g:GrD} {f:FoD} {l:List FoD} (hg:grB g=true) (h:foL g.2.2=f::l):folA (merG g f)=folA g:=by
 have hf:=foL_ok hg (f:=f) (by rw[h];simp)
 unfold folA
 obtain⟨n,hn⟩: ∃n,g.2.1.toNat=n+1:=⟨g.2.1.toNat-1,by omega⟩
 rw[hn,folF_cons h,show(merG g f).2.1.toNat=n by show(g.2.1-1).toNat=n;omega]
theorem folA_nil {g:GrD} (h:foL g.2.2= []):folA g=g:=folF_nil h _
set_option maxHeartbeats 4000000 in
theorem specFoldAll_any (v:Value) (g:GrD) (w:World) (h:ArgG w v g) (hg:grB g=true):
  Calls Tryz.prog 167 #[v] w fun e w'=> ∃r o,e= .returned (.tuple #[r,o])∧OwG w' w.heap.size r (folA g)∧Below w.heap.size w w':=by
 have HG:=hDD h
 have HGR:=hDD hg
 obtain⟨h13,h40,h120,_⟩:=grB_parts hg
 obtain⟨s,rfl,hi1,hi2,ha⟩:=h
 obtain⟨A,cap,rfl⟩:=ha.form
 obtain⟨g1,N,es⟩:=g
 simp only at*
 clear ha hg
 go_enter Tryz.func167,Tryz.ntmps167
 have bx:Below w.heap.size w ((w.alloc (Obj.cells #[Value.int IntKind.i64 g1,Value.int IntKind.i64 N, .slice A es.length cap] 26)).alloc (Obj.cells #[Value.int IntKind.i64 0,Value.int IntKind.i64 0, .slice none 0 0] 26)):=(by repeat(first | exact Below.refl _ _ | (refine Below.setCell ?_ (by first | omega | (simp<;>omega)) _) | (refine bel_drewN ?_ _) | (refine Below.drew ?_) | (refine Below.alloc ?_ (by first | omega | (simp<;>omega)) _)))
 go_wp2_with fail
 obtain⟨W,hW⟩: ∃W,W=((w.alloc (Obj.cells #[Value.int IntKind.i64 g1,Value.int IntKind.i64 N, .slice A es.length cap] 26)).alloc (Obj.cells #[Value.int IntKind.i64 0,Value.int IntKind.i64 0, .slice none 0 0] 26)):=⟨_,rfl⟩
 rw[←hW] at bx⊢
 have hsW:W.heap.size=w.heap.size+2:=by rw[hW];simp
 have R0:Hid (W.cell? ⟨w.heap.size+1,0,none⟩=some (.int .i64 0)):=hDD (by rw[hW];simp[go_sem])
 have R1:Hid (W.cell? ⟨w.heap.size+1,1,none⟩=some (.int .i64 0)):=hDD (by rw[hW];simp[go_sem])
 have R2:Hid (W.cell? ⟨w.heap.size+1,2,none⟩=some (.slice none 0 0)):=hDD (by rw[hW];simp[go_sem])
 have RF:Hid (∀j,W.frozen? ⟨w.heap.size+1,j,none⟩=false):=hDD fun j=>by rw[hW];simp[go_sem]
 have BX:=hDD bx
 clear hW bx
 refine(l4Copy_any _ (g1,N,es) W (HG.out.below BX.out) (by simp only;omega)).mono ?_
 rintro e w1 ⟨r,rfl,o1,b1⟩
 have B1:=hDD b1
 have hs1:=b1.size
 obtain⟨s1,rfl,_,_,oe1⟩:=o1
 obtain⟨A1,c1,rfl,_⟩:=oe1.form
 simp only at*
 have OE1:=hDD oe1
 clear b1 oe1
 have HOU:Hid (OwFo ((w1.alloc (Obj.cells #[Value.int IntKind.i64 g1,Value.int IntKind.i64 N, .slice A1 es.length c1] 26)).alloc (.cells #[] 106)) (w1.heap.size+1) (.slice (some ⟨w1.heap.size+1,0,none⟩) 0 0) []):=hDD (by
  have:=OwFo_lit (base:=w1.heap.size+1) (w1.alloc (Obj.cells #[Value.int IntKind.i64 g1,Value.int IntKind.i64 N, .slice A1 es.length c1] 26)) (by simp)
  simpa using this)
 have bX:Below w1.heap.size w1 ((w1.alloc (Obj.cells #[Value.int IntKind.i64 g1,Value.int IntKind.i64 N, .slice A1 es.length c1] 26)).alloc (.cells #[] 106)):=(by repeat(first | exact Below.refl _ _ | (refine Below.setCell ?_ (by first | omega | (simp<;>omega)) _) | (refine bel_drewN ?_ _) | (refine Below.drew ?_) | (refine Below.alloc ?_ (by first | omega | (simp<;>omega)) _)))
 go_wp2
 obtain⟨W2,hW2⟩: ∃W,W=(w1.alloc (Obj.cells #[Value.int IntKind.i64 g1,Value.int IntKind.i64 N, .slice A1 es.length c1] 26)).alloc (.cells #[] 106):=⟨_,rfl⟩
 rw[←hW2] at bX HOU⊢
 have hsW2:W2.heap.size=w1.heap.size+2:=by rw[hW2];simp
 have X0:Hid (W2.cell? ⟨w1.heap.size,0,none⟩=some (.int .i64 g1)):=hDD (by rw[hW2];simp[go_sem])
 have X1:Hid (W2.cell? ⟨w1.heap.size,1,none⟩=some (.int .i64 N)):=hDD (by rw[hW2];simp[go_sem])
 have X2:Hid (W2.cell? ⟨w1.heap.size,2,none⟩=some (.slice A1 es.length c1)):=hDD (by rw[hW2];simp[go_sem])
 have XF:Hid (∀j,W2.frozen? ⟨w1.heap.size,j,none⟩=false):=hDD fun j=>by rw[hW2];simp[go_sem]
 have BX2:=hDD bX
 have OEX:Hid (OwE W2 (w.heap.size+2) (.slice A1 es.length c1) es):=hDD ((OE1.out.below bX).mono (by omega))
 have HNX:Hid (∀b,(Value.slice A1 es.length c1).ownBlock=some b→b≠w1.heap.size):=hDD fun b hb=>by have:=(OE1.out.1.lt b hb).2;omega
 clear hW2 bX OE1
 go_loopw [5,6] (fun out i wr=> ∃(k:Nat) (gk:GrD) (A2:Option Addr) (c2:Nat) (lo:List FoD),k≤40∧i= .int .i64 k∧grB gk=true∧folA gk=folA (g1,N,es)∧gk.2.1+k≤N∧lo.length≤k∧wr.cell? ⟨w1.heap.size,0,none⟩=some (.int .i64 gk.1)∧wr.cell? ⟨w1.heap.size,1,none⟩=some (.int .i64 gk.2.1)∧wr.cell? ⟨w1.heap.size,2,none⟩=some (.slice A2 gk.2.2.length c2)∧
   (∀j,wr.frozen? ⟨w1.heap.size,j,none⟩=false)∧OwE wr (w.heap.size+2) (.slice A2 gk.2.2.length c2) gk.2.2∧(∀b,(Value.slice A2 gk.2.2.length c2).ownBlock=some b→b≠w1.heap.size)∧OwFo wr (w1.heap.size+1) out lo∧Below w1.heap.size w1 wr∧w1.heap.size<wr.heap.size) (fun _ i _=>40-(intOf i).toNat)
 case atStart=>exact⟨0,(g1,N,es),A1,c1,[],Nat.zero_le _,rfl,HGR.out,rfl,by simp,by simp,X0.out,X1.out,X2.out,XF.out,OEX.out,HNX.out,HOU.out,BX2.out,by omega⟩
 case round=>
  obtain⟨k,gk,A2,c2,lo,hk,rfl,hgk,hfa,hsz,hlo,hx0,hx1,hx2,hxf,hoe,hnx,hof,hbr,hxr⟩:=hrel
  obtain⟨k13,k40,k120,_⟩:=grB_parts hgk
  have HGK:=hDD hgk
  have HFA:=hDD hfa
  have HOE:=hDD hoe
  have HNX2:=hDD hnx
  have HOF:=hDD hof
  have HBR:=hDD hbr
  have B4:=hDD (B1.out.trans (hbr.mono hs1))
  have HAK:Hid (ArgG wr (.agg #[.int .i64 gk.1, .int .i64 gk.2.1, .slice A2 gk.2.2.length c2]) gk):=hDD ⟨_,rfl,(by unfold I64;omega),(by unfold I64;omega),hoe.arg⟩
  obtain⟨wk,rfl⟩: ∃wk:World,wk=wr:=⟨_,rfl⟩
  clear hgk hfa hoe hnx hof hbr
  have hk40:k<40:=by omega
  have hkI:(k:Int)<40:=by omega
  go_wp2_with fail
  refine(specFoldOnce_any _ gk wk HAK.out HGK.out).mono ?_
  rintro e w5 ⟨r,rfl,o5,b5⟩
  have hs5:=b5.size
  have B5:=hDD (HBR.out.trans (b5.mono (by omega)))
  have z0:=(b5.cell (p:=⟨w1.heap.size,0,none⟩) hxr).trans hx0
  have z1:=(b5.cell (p:=⟨w1.heap.size,1,none⟩) hxr).trans hx1
  have z2:=(b5.cell (p:=⟨w1.heap.size,2,none⟩) hxr).trans hx2
  have ZF:Hid (∀j,w5.frozen? ⟨w1.heap.size,j,none⟩=false):=hDD fun j=>(b5.frozen (p:=⟨w1.heap.size,j,none⟩) hxr).trans (hxf j)
  have HOE5:=hDD (HOE.out.below b5)
  have HOF5:=hDD (HOF.out.below b5)
  clear hx0 hx1 hx2 hxf b5
  rcases ef:foL gk.2.2 with _ | ⟨f,l⟩
  ·have F:Hid (firF gk=((0,0),false)):=hDD (by unfold firF;rw[if_pos HGK.out];simp only[ef])
   have FO:Hid (onceG gk=gk):=hDD (by unfold onceG;simp only[ef])
   have FAG:Hid (folA (g1,N,es)=gk):=hDD (by rw[←HFA.out];exact folA_nil ef)
   clear ef
   rw[FO.out] at o5
   rw[F.out]
   simp only
   obtain⟨s5,rfl,hj1,hj2,oe5⟩:=o5
   obtain⟨A5,c5,rfl,_⟩:=oe5.form
   obtain⟨Ao,co,hov,_⟩:=HOF5.out.form
   subst hov
   have bY:Below w5.heap.size w5 ((w5.alloc (Obj.cells #[Value.int IntKind.i64 gk.1,Value.int IntKind.i64 gk.2.1, .slice A5 gk.2.2.length c5] 26)).alloc (Obj.cells #[Value.int IntKind.i64 0,Value.int IntKind.i64 0] 106)):=(by repeat(first | exact Below.refl _ _ | (refine Below.setCell ?_ (by first | omega | (simp<;>omega)) _) | (refine bel_drewN ?_ _) | (refine Below.drew ?_) | (refine Below.alloc ?_ (by first | omega | (simp<;>omega)) _)))
   obtain⟨WY,hWY⟩: ∃W,W=(w5.alloc (Obj.cells #[Value.int IntKind.i64 gk.1,Value.int IntKind.i64 gk.2.1, .slice A5 gk.2.2.length c5] 26)).alloc (Obj.cells #[Value.int IntKind.i64 0,Value.int IntKind.i64 0] 106):=⟨_,rfl⟩
   rw[←hWY] at bY
   have BY:=hDD (B5.out.trans (bY.mono (by omega)))
   have BYW:=hDD (B1.out.trans (BY.out.mono hs1))
   have y0:=(bY.cell (p:=⟨w1.heap.size,0,none⟩) (by show w1.heap.size<_;omega)).trans z0
   have y1:=(bY.cell (p:=⟨w1.heap.size,1,none⟩) (by show w1.heap.size<_;omega)).trans z1
   have y2:=(bY.cell (p:=⟨w1.heap.size,2,none⟩) (by show w1.heap.size<_;omega)).trans z2
   have r0:=(BYW.out.cell (p:=⟨w.heap.size+1,0,none⟩) (by show w.heap.size+1<_;omega)).trans R0.out
   have r1:=(BYW.out.cell (p:=⟨w.heap.size+1,1,none⟩) (by show w.heap.size+1<_;omega)).trans R1.out
   have r2:=(BYW.out.cell (p:=⟨w.heap.size+1,2,none⟩) (by show w.heap.size+1<_;omega)).trans R2.out
   have rf0:=(BYW.out.frozen (p:=⟨w.heap.size+1,0,none⟩) (by show w.heap.size+1<_;omega)).trans (RF.out 0)
   have rf1:=(BYW.out.frozen (p:=⟨w.heap.size+1,1,none⟩) (by show w.heap.size+1<_;omega)).trans (RF.out 1)
   have rf2:=(BYW.out.frozen (p:=⟨w.heap.size+1,2,none⟩) (by show w.heap.size+1<_;omega)).trans (RF.out 2)
   have hne1:w.heap.size+1≠w1.heap.size:=by omega
   have HBF:=hDD (BX.out.trans (BYW.out.mono BX.out.size))
   have OEY:=hDD (HOE5.out.below bY)
   rw[hWY] at y0 y1 y2 r0 r1 r2 rf0 rf1 rf2
   clear z0 z1 z2 oe5 bY
   go_wp2
   rw[←hWY] at y0 y1 y2 r0 r1 r2 rf0 rf1 rf2⊢
   obtain⟨e0,e1,e2⟩:=cells3F (.int .i64 gk.1) (.int .i64 gk.2.1) (.slice A2 gk.2.2.length c2) r0 r1 r2
   have bw:Below w.heap.size w (((WY.setCell ⟨w.heap.size+1,0,none⟩ (.int .i64 gk.1)).setCell ⟨w.heap.size+1,1,none⟩ (.int .i64 gk.2.1)).setCell ⟨w.heap.size+1,2,none⟩ (.slice A2 gk.2.2.length c2)):=(((HBF.out.setCell (by simp<;>omega) _).setCell (by simp<;>omega) _).setCell (by simp<;>omega) _)
   have ow:OwE (((WY.setCell ⟨w.heap.size+1,0,none⟩ (.int .i64 gk.1)).setCell ⟨w.heap.size+1,1,none⟩ (.int .i64 gk.2.1)).setCell ⟨w.heap.size+1,2,none⟩ (.slice A2 gk.2.2.length c2)) (w.heap.size+2) (.slice A2 gk.2.2.length c2) gk.2.2:=((OEY.out.far (by show w.heap.size+1<_;omega) _).far (by show w.heap.size+1<_;omega) _).far (by show w.heap.size+1<_;omega) _
   generalize (((WY.setCell ⟨w.heap.size+1,0,none⟩ (.int .i64 gk.1)).setCell ⟨w.heap.size+1,1,none⟩ (.int .i64 gk.2.1)).setCell ⟨w.heap.size+1,2,none⟩ (.slice A2 gk.2.2.length c2))=wf at*
   rw[FAG.out]
   exact bodyPost_ret (v:= .tuple #[.agg #[.int .i64 gk.1, .int .i64 gk.2.1, .slice A2 gk.2.2.length c2], .slice Ao lo.length co]) (by simp[results,Tryz.results167,go_sem,e0,e1,e2]) rfl ⟨_,_,rfl,⟨.slice A2 gk.2.2.length c2,rfl,hj1,hj2,ow.mono (by omega)⟩,bw⟩
  ·have F:Hid (firF gk=(f,true)):=hDD (by unfold firF;rw[if_pos HGK.out];simp only[ef])
   have FO:Hid (onceG gk=merG gk f):=hDD (by unfold onceG;simp only[ef])
   have hfk:=foL_ok HGK.out (f:=f) (by rw[ef];simp)
   have HGM:=hDD (grB_merG HGK.out hfk)
   have HFM:=hDD ((once_folA HGK.out ef).trans HFA.out)
   have hm2:(merG gk f).2.1=gk.2.1-1:=rfl
   clear ef
   rw[FO.out] at o5
   rw[F.out]
   obtain⟨fa,fb⟩:=f
   simp only
   generalize merG gk (fa,fb)=M at*
   obtain⟨m1,m2,ms⟩:=M
   simp only at hm2
   obtain⟨s5,rfl,hj1,hj2,oe5⟩:=o5
   obtain⟨A5,c5,rfl,_⟩:=oe5.form
   simp only at hj1 hj2 oe5
   have HM2:=hDD hm2
   clear hm2
   have bY:Below w5.heap.size w5 ((w5.alloc (Obj.cells #[Value.int IntKind.i64 m1,Value.int IntKind.i64 m2, .slice A5 ms.length c5] 26)).alloc (Obj.cells #[Value.int IntKind.i64 fa,Value.int IntKind.i64 fb] 106)):=(by repeat(first | exact Below.refl _ _ | (refine Below.setCell ?_ (by first | omega | (simp<;>omega)) _) | (refine bel_drewN ?_ _) | (refine Below.drew ?_) | (refine Below.alloc ?_ (by first | omega | (simp<;>omega)) _)))
   obtain⟨WY,hWY⟩: ∃W,W=(w5.alloc (Obj.cells #[Value.int IntKind.i64 m1,Value.int IntKind.i64 m2, .slice A5 ms.length c5] 26)).alloc (Obj.cells #[Value.int IntKind.i64 fa,Value.int IntKind.i64 fb] 106):=⟨_,rfl⟩
   have a0:WY.cell? ⟨w5.heap.size,0,none⟩=some (.int .i64 m1):=by rw[hWY];simp[go_sem]
   have a1:WY.cell? ⟨w5.heap.size,1,none⟩=some (.int .i64 m2):=by rw[hWY];simp[go_sem]
   have a2:WY.cell? ⟨w5.heap.size,2,none⟩=some (.slice A5 ms.length c5):=by rw[hWY];simp[go_sem]
   have a3:WY.cell? ⟨w5.heap.size+1,0,none⟩=some (.int .i64 fa):=by rw[hWY];simp[go_sem]
   have a4:WY.cell? ⟨w5.heap.size+1,1,none⟩=some (.int .i64 fb):=by rw[hWY];simp[go_sem]
   have hsY:WY.heap.size=w5.heap.size+2:=by rw[hWY];simp
   rw[←hWY] at bY
   have BY:=hDD (B5.out.trans (bY.mono (by omega)))
   have y0:=(bY.cell (p:=⟨w1.heap.size,0,none⟩) (by show w1.heap.size<_;omega)).trans z0
   have y1:=(bY.cell (p:=⟨w1.heap.size,1,none⟩) (by show w1.heap.size<_;omega)).trans z1
   have y2:=(bY.cell (p:=⟨w1.heap.size,2,none⟩) (by show w1.heap.size<_;omega)).trans z2
   have YF:Hid (∀j,WY.frozen? ⟨w1.heap.size,j,none⟩=false):=hDD fun j=>(bY.frozen (p:=⟨w1.heap.size,j,none⟩) (by show w1.heap.size<_;omega)).trans (ZF.out j)
   have yf0:=YF.out 0
   have yf1:=YF.out 1
   have yf2:=YF.out 2
   have OEM:=hDD (oe5.below bY)
   have OFY:=hDD (HOF5.out.below bY)
   obtain⟨e0,e1,e2⟩:=cells3F (.int .i64 m1) (.int .i64 m2) (.slice A5 ms.length c5) y0 y1 y2
   have e3:=setc_other (b':=w1.heap.size) (o':=2) (u:= .slice A5 ms.length c5) (show w5.heap.size+1≠w1.heap.size by omega) (setc_other (b':=w1.heap.size) (o':=1) (u:= .int .i64 m2) (show w5.heap.size+1≠w1.heap.size by omega) (setc_other (b':=w1.heap.size) (o':=0) (u:= .int .i64 m1) (show w5.heap.size+1≠w1.heap.size by omega) a3))
   have e4:=setc_other (b':=w1.heap.size) (o':=2) (u:= .slice A5 ms.length c5) (show w5.heap.size+1≠w1.heap.size by omega) (setc_other (b':=w1.heap.size) (o':=1) (u:= .int .i64 m2) (show w5.heap.size+1≠w1.heap.size by omega) (setc_other (b':=w1.heap.size) (o':=0) (u:= .int .i64 m1) (show w5.heap.size+1≠w1.heap.size by omega) a4))
   have BS:Hid (Below w1.heap.size w1 (((WY.setCell ⟨w1.heap.size,0,none⟩ (.int .i64 m1)).setCell ⟨w1.heap.size,1,none⟩ (.int .i64 m2)).setCell ⟨w1.heap.size,2,none⟩ (.slice A5 ms.length c5))):=hDD (((BY.out.setCell (Nat.le_refl _) _).setCell (Nat.le_refl _) _).setCell (Nat.le_refl _) _)
   have OES:Hid (OwE (((WY.setCell ⟨w1.heap.size,0,none⟩ (.int .i64 m1)).setCell ⟨w1.heap.size,1,none⟩ (.int .i64 m2)).setCell ⟨w1.heap.size,2,none⟩ (.slice A5 ms.length c5)) wk.heap.size (.slice A5 ms.length c5) ms):=hDD (((OEM.out.far (by show w1.heap.size<_;omega) _).far (by show w1.heap.size<_;omega) _).far (by show w1.heap.size<_;omega) _)
   have OFS:Hid (OwFo (((WY.setCell ⟨w1.heap.size,0,none⟩ (.int .i64 m1)).setCell ⟨w1.heap.size,1,none⟩ (.int .i64 m2)).setCell ⟨w1.heap.size,2,none⟩ (.slice A5 ms.length c5)) (w1.heap.size+1) u5 lo):=hDD (ownsRow_setCell_below (ownsRow_setCell_below (ownsRow_setCell_below OFY.out (by show w1.heap.size<_;omega) _) (by show w1.heap.size<_;omega) _) (by show w1.heap.size<_;omega) _)
   have ESF:Hid (∀j,((((WY.setCell ⟨w1.heap.size,0,none⟩ (.int .i64 m1)).setCell ⟨w1.heap.size,1,none⟩ (.int .i64 m2)).setCell ⟨w1.heap.size,2,none⟩ (.slice A5 ms.length c5))).frozen? ⟨w1.heap.size,j,none⟩=false):=hDD fun j=>by rw[World.frozen?_setCell,World.frozen?_setCell,World.frozen?_setCell];exact YF.out j
   have hsS:((((WY.setCell ⟨w1.heap.size,0,none⟩ (.int .i64 m1)).setCell ⟨w1.heap.size,1,none⟩ (.int .i64 m2)).setCell ⟨w1.heap.size,2,none⟩ (.slice A5 ms.length c5))).heap.size=WY.heap.size:=by simp
   clear z0 z1 z2 oe5 bY
   have E0:=hDD e0
   have E1:=hDD e1
   have E2:=hDD e2
   have E3:=hDD e3
   have E4:=hDD e4
   have HSS:=hDD hsS
   clear e0 e1 e2 a3 a4 hsS
   rw[hWY] at y0 y1 y2 yf0 yf1 yf2 a0 a1 a2 e3 e4
   have HWY:=hDD hWY
   clear hWY
   have hw5x:w1.heap.size≠w5.heap.size:=by omega
   have hw5y:w1.heap.size≠w5.heap.size+1:=by omega
   go_wp2_with (at_builtin;rw[←HWY.out];refine push_fold rfl (.tmp 28) (.tmp 30) rfl (w1.heap.size+1) _ lo (OFS.out.alloc _) rfl _ (fa,fb) rfl (fo_litN _ _ (by simp<;>omega) _ _ _) (by omega) (by simp<;>omega) ?_;intro v6 w6 o6 g6 p6;have O6:=hDD o6;have G6:=hDD g6;clear o6 g6 p6)
   have e0:=E0.out
   have e1:=E1.out
   have e2:=E2.out
   have bL:Below ((((WY.setCell ⟨w1.heap.size,0,none⟩ (.int .i64 m1)).setCell ⟨w1.heap.size,1,none⟩ (.int .i64 m2)).setCell ⟨w1.heap.size,2,none⟩ (.slice A5 ms.length c5))).heap.size (((WY.setCell ⟨w1.heap.size,0,none⟩ (.int .i64 m1)).setCell ⟨w1.heap.size,1,none⟩ (.int .i64 m2)).setCell ⟨w1.heap.size,2,none⟩ (.slice A5 ms.length c5)) ((((WY.setCell ⟨w1.heap.size,0,none⟩ (.int .i64 m1)).setCell ⟨w1.heap.size,1,none⟩ (.int .i64 m2)).setCell ⟨w1.heap.size,2,none⟩ (.slice A5 ms.length c5)).alloc (Obj.cells #[Value.int IntKind.i64 fa,Value.int IntKind.i64 fb] 106)):=(Below.refl _ _).alloc (Nat.le_refl _) _
   have hxL:w1.heap.size<((((WY.setCell ⟨w1.heap.size,0,none⟩ (.int .i64 m1)).setCell ⟨w1.heap.size,1,none⟩ (.int .i64 m2)).setCell ⟨w1.heap.size,2,none⟩ (.slice A5 ms.length c5))).heap.size:=by simp<;>omega
   have hxG:w1.heap.size<((((WY.setCell ⟨w1.heap.size,0,none⟩ (.int .i64 m1)).setCell ⟨w1.heap.size,1,none⟩ (.int .i64 m2)).setCell ⟨w1.heap.size,2,none⟩ (.slice A5 ms.length c5)).alloc (Obj.cells #[Value.int IntKind.i64 fa,Value.int IntKind.i64 fb] 106)).heap.size:=by simp<;>omega
   have hGO: ∀c,u5.ownBlock=some c→w1.heap.size+1≤c∧c<wk.heap.size:=fun c hc=>HOF.out.lt c hc
   have n0:=(grown_cellF (o:=0) G6.out hxG (fun c hc=>by have:=(hGO c hc).1;omega)).trans ((bL.cell (p:=⟨w1.heap.size,0,none⟩) hxL).trans e0)
   have n1:=(grown_cellF (o:=1) G6.out hxG (fun c hc=>by have:=(hGO c hc).1;omega)).trans ((bL.cell (p:=⟨w1.heap.size,1,none⟩) hxL).trans e1)
   have n2:=(grown_cellF (o:=2) G6.out hxG (fun c hc=>by have:=(hGO c hc).1;omega)).trans ((bL.cell (p:=⟨w1.heap.size,2,none⟩) hxL).trans e2)
   have nf: ∀j,w6.frozen? ⟨w1.heap.size,j,none⟩=false:=fun j=>(World.frozen?_of_block (G6.out.block w1.heap.size hxG fun e=>by have:=(hGO w1.heap.size e.symm).1;omega)).trans ((bL.frozen (p:=⟨w1.heap.size,j,none⟩) hxL).trans (ESF.out j))
   have NE:Hid (OwE w6 (w.heap.size+2) (.slice A5 ms.length c5) ms):=hDD (OwE.mono (OwE.keep OES.out fun b hb=>by
    have hb2:=OES.out.1.lt b hb
    exact(G6.out.block b (by have:=bL.size;omega) fun e=>by have:=(hGO b e.symm).2;omega).trans (bL.block b hb2.2)) (by omega))
   have NX:Hid (∀b,(Value.slice A5 ms.length c5).ownBlock=some b→b≠w1.heap.size):=hDD fun b hb=>by have:=(OES.out.1.lt b hb).1;omega
   have NB:Hid (Below w1.heap.size w1 w6):=hDD ((BS.out.trans (bL.mono (by omega))).grown G6.out (by omega) (fun c hc=>by have:=(hGO c hc).1;omega))
   have hs6:=G6.out.size
   go_roundw
   case rel=>exact⟨k+1,(m1,m2,ms),A5,c5,lo++ [(fa,fb)],by omega,by go_num,HGM.out,HFM.out,by have:=HM2.out;simp only;omega,by rw[List.length_append];simp only[List.length_singleton];omega,n0,n1,n2,nf,NE.out,NX.out,O6.out,NB.out,by omega⟩
   case measure=>simp[intOf];omega
end Go.Proofs.YtnjpoljbagfdnaaGreat
namespace Go.Proofs.YtnjpoljbagfdnaaGreat
set_option maxRecDepth 20000
set_option linter.unusedVariables false
set_option linter.unusedSimpArgs false
open Go.RowKit
def Tw (base:Nat) (w:World) (vo:Value) (lo:List Int) (vr:Value) (lr:List Int):Prop:=OwI w base vo lo∧OwI w base vr lr∧ ∀b,vo.ownBlock=some b→vr.ownBlock≠some b
section
variable {base:Nat} {w wa w':World} {vo vr vo':Value} {lo lr lo':List Int}
theorem Tw.swap (h:Tw base w vo lo vr lr):Tw base w vr lr vo lo:=⟨h.2.1,h.1,fun b hb e=>h.2.2 b e hb⟩
theorem Tw.below (h:Tw base w vo lo vr lr) (hb:Below w.heap.size w w'):Tw base w' vo lo vr lr:=⟨h.1.below hb,h.2.1.below hb,h.2.2⟩
theorem Tw.push (h:Tw base w vo lo vr lr) (hb:Below w.heap.size w wa) (o:OwI w' base vo' lo') (g:wa.grownBy w' vo.ownBlock) (hat:vo'.ownBlock=vo.ownBlock∨vo'.ownBlock=some wa.heap.size):Tw base w' vo' lo' vr lr:=by
 refine⟨o,(h.2.1.below hb).kept g ?_,fun b hv e=> ?_⟩
 ·rcases e:vr.ownBlock with _ | b
  ·exact .inl rfl
  ·exact .inr fun e2=>h.2.2 b e2.symm e
 ·rcases hat with q | q
  ·exact h.2.2 b (by rw[←q];exact hv) e
  ·rw[q] at hv
   injection hv with hv
   have:=(h.2.1.1.lt b e).2
   have:=hb.size
   omega
end
theorem leafV_pos {es:List EdD} {n:Nat} (h: ¬leafV es n<0):1≤leafV es n∧leafV es n<n:=by
 have:=leafV_range es n
 omega
set_option maxHeartbeats 4000000 in
theorem specTrimGraph_any (v:Value) (g:GrD) (w:World) (h:ArgG w v g) (hg:grB g=true):
  Calls Tryz.prog 168 #[v] w fun e w'=> ∃r o,e= .returned (.tuple #[r,o])∧OwG w' w.heap.size r (trimG g).1∧Below w.heap.size w w':=by
 have HG:=hDD h
 have HGR:=hDD hg
 obtain⟨h13,h40,h120,_⟩:=grB_parts hg
 have HTG:Hid ((trimF (g.2.1.toNat-0) g ((List.range g.2.1.toNat).map fun v=>((v:Nat):Int))).1=(trimG g).1):=hDD rfl
 generalize (trimG g).1=TG at*
 obtain⟨s,rfl,hi1,hi2,ha⟩:=h
 obtain⟨A,cap,rfl⟩:=ha.form
 obtain⟨g1,N,es⟩:=g
 simp only at*
 clear ha hg
 go_enter Tryz.func168,Tryz.ntmps168
 have bx:Below w.heap.size w ((w.alloc (Obj.cells #[Value.int IntKind.i64 g1,Value.int IntKind.i64 N, .slice A es.length cap] 26)).alloc (Obj.cells #[Value.int IntKind.i64 0,Value.int IntKind.i64 0, .slice none 0 0] 26)):=(by repeat(first | exact Below.refl _ _ | (refine Below.setCell ?_ (by first | omega | (simp<;>omega)) _) | (refine bel_drewN ?_ _) | (refine Below.drew ?_) | (refine Below.alloc ?_ (by first | omega | (simp<;>omega)) _)))
 go_wp2_with fail
 obtain⟨W,hW⟩: ∃W,W=((w.alloc (Obj.cells #[Value.int IntKind.i64 g1,Value.int IntKind.i64 N, .slice A es.length cap] 26)).alloc (Obj.cells #[Value.int IntKind.i64 0,Value.int IntKind.i64 0, .slice none 0 0] 26)):=⟨_,rfl⟩
 rw[←hW] at bx⊢
 have hsW:W.heap.size=w.heap.size+2:=by rw[hW];simp
 have L0:Hid (W.cell? ⟨w.heap.size,0,none⟩=some (.int .i64 g1)):=hDD (by rw[hW];simp[go_sem])
 have L1:Hid (W.cell? ⟨w.heap.size,1,none⟩=some (.int .i64 N)):=hDD (by rw[hW];simp[go_sem])
 have L2:Hid (W.cell? ⟨w.heap.size,2,none⟩=some (.slice A es.length cap)):=hDD (by rw[hW];simp[go_sem])
 have R0:Hid (W.cell? ⟨w.heap.size+1,0,none⟩=some (.int .i64 0)):=hDD (by rw[hW];simp[go_sem])
 have R1:Hid (W.cell? ⟨w.heap.size+1,1,none⟩=some (.int .i64 0)):=hDD (by rw[hW];simp[go_sem])
 have R2:Hid (W.cell? ⟨w.heap.size+1,2,none⟩=some (.slice none 0 0)):=hDD (by rw[hW];simp[go_sem])
 have RF:Hid (∀j,W.frozen? ⟨w.heap.size+1,j,none⟩=false):=hDD fun j=>by rw[hW];simp[go_sem]
 have BX:=hDD bx
 have HIG:Hid (∀W',Below W.heap.size W W'→Calls Tryz.prog 190 #[.agg #[.int .i64 g1, .int .i64 N, .slice A es.length cap]] W' fun e w'=>e= .returned (.bool true)∧Below W'.heap.size W' w'):=hDD fun W' hb=>by
  have:=specIsGraph_any _ (g1,N,es) W' (HG.out.below (BX.out.trans (hb.mono BX.out.size)))
  rw[HGR.out] at this
  exact this
 have HCL:Hid (∀w',Below W.heap.size W w'→w'.cell? ⟨w.heap.size,0,none⟩=some (.int .i64 g1)∧w'.cell? ⟨w.heap.size,1,none⟩=some (.int .i64 N)∧w'.cell? ⟨w.heap.size,2,none⟩=some (.slice A es.length cap)):=hDD fun w' hb=>
  ⟨(hb.cell (p:=⟨w.heap.size,0,none⟩) (by show w.heap.size<_;omega)).trans L0.out,(hb.cell (p:=⟨w.heap.size,1,none⟩) (by show w.heap.size<_;omega)).trans L1.out,(hb.cell (p:=⟨w.heap.size,2,none⟩) (by show w.heap.size<_;omega)).trans L2.out⟩
 clear hW bx L0 L1 L2
 refine(l4Copy_any _ (g1,N,es) W (HG.out.below BX.out) (by simp only;omega)).mono ?_
 rintro e w1 ⟨r,rfl,o1,b1⟩
 have B1:=hDD b1
 have hs1:=b1.size
 obtain⟨s1,rfl,_,_,oe1⟩:=o1
 obtain⟨A1,c1,rfl,_⟩:=oe1.form
 simp only at*
 have OE1:=hDD oe1
 clear b1 oe1
 have HOU:Hid (OwI ((w1.alloc (Obj.cells #[Value.int IntKind.i64 g1,Value.int IntKind.i64 N, .slice A1 es.length c1] 26)).alloc (.cells #[] 3)) (w1.heap.size+1) (.slice (some ⟨w1.heap.size+1,0,none⟩) 0 0) []):=hDD (OwI_litN (w1.alloc (Obj.cells #[Value.int IntKind.i64 g1,Value.int IntKind.i64 N, .slice A1 es.length c1] 26)) [] (w1.heap.size+1) (by simp) I64s_nil (by simp) (by omega))
 have bX:Below w1.heap.size w1 ((w1.alloc (Obj.cells #[Value.int IntKind.i64 g1,Value.int IntKind.i64 N, .slice A1 es.length c1] 26)).alloc (.cells #[] 3)):=(by repeat(first | exact Below.refl _ _ | (refine Below.setCell ?_ (by first | omega | (simp<;>omega)) _) | (refine bel_drewN ?_ _) | (refine Below.drew ?_) | (refine Below.alloc ?_ (by first | omega | (simp<;>omega)) _)))
 go_wp2
 obtain⟨W2,hW2⟩: ∃W,W=(w1.alloc (Obj.cells #[Value.int IntKind.i64 g1,Value.int IntKind.i64 N, .slice A1 es.length c1] 26)).alloc (.cells #[] 3):=⟨_,rfl⟩
 rw[←hW2] at bX HOU⊢
 have hsW2:W2.heap.size=w1.heap.size+2:=by rw[hW2];simp
 have X0:Hid (W2.cell? ⟨w1.heap.size,0,none⟩=some (.int .i64 g1)):=hDD (by rw[hW2];simp[go_sem])
 have X1:Hid (W2.cell? ⟨w1.heap.size,1,none⟩=some (.int .i64 N)):=hDD (by rw[hW2];simp[go_sem])
 have X2:Hid (W2.cell? ⟨w1.heap.size,2,none⟩=some (.slice A1 es.length c1)):=hDD (by rw[hW2];simp[go_sem])
 have XF:Hid (∀j,W2.frozen? ⟨w1.heap.size,j,none⟩=false):=hDD fun j=>by rw[hW2];simp[go_sem]
 have BX2:=hDD bX
 have B2:=hDD (B1.out.trans (bX.mono hs1))
 have OEX:Hid (OwE W2 (w.heap.size+2) (.slice A1 es.length c1) es):=hDD ((OE1.out.below bX).mono (by omega))
 have HNX:Hid (∀b,(Value.slice A1 es.length c1).ownBlock=some b→b<w1.heap.size):=hDD fun b hb=>(OE1.out.1.lt b hb).2
 obtain⟨n,rfl⟩: ∃n:Nat,N=(n:Int):=⟨N.toNat,by omega⟩
 clear hW2 bX OE1
 go_loopw [5,6] (fun lf i wr=> ∃(k:Nat) (lv:List Int),k≤n∧i= .int .i64 k∧lv.length=k∧OwI wr (w1.heap.size+1) lf lv∧Below (w1.heap.size+1) W2 wr) (fun _ i _=>n-(intOf i).toNat)
 case atStart=>exact⟨0,[],Nat.zero_le _,rfl,rfl,HOU.out,(Below.refl W2.heap.size W2).mono (by omega)⟩
 case round=>
  obtain⟨k,lv,hk,rfl,hlv,hol,hb⟩:=hrel
  have HOL:=hDD hol
  have HB:=hDD hb
  have HLV:=hDD hlv
  obtain⟨wk,rfl⟩: ∃wk:World,wk=wr:=⟨_,rfl⟩
  clear hol hb hlv
  have hwk:=HB.out.size
  have HBW:=hDD (B2.out.trans (HB.out.mono (by omega)))
  obtain⟨q0,q1,q2⟩:=HCL.out wk HBW.out
  by_cases hlt:k<n
  ·have hkI:(k:Int)<(n:Int):=by omega
   go_wp2_with fail
   refine(HIG.out wk HBW.out).mono ?_
   rintro e w3 ⟨rfl,b3⟩
   have HOL3:=hDD (HOL.out.below b3)
   have hs3:=b3.size
   have HB3:=hDD (HB.out.trans (b3.mono (by omega)))
   have hlk:lv.length≤1099511627776:=by rw[HLV.out];omega
   clear b3 q0 q1 q2
   go_wp2_with (at_builtin;refine push_int rfl (.tmp 25) (.tmp 27) rfl (w1.heap.size+1) _ lv (HOL3.out.alloc _) rfl _ (k:Int) rfl (cell_new1 _ _ _) (by unfold I64;omega) hlk (by simp<;>omega) ?_;intro v4 w4 o4 g4 p4;have O4:=hDD o4;have B4:Hid (Below (w1.heap.size+1) W2 w4):=hDD ((HB3.out.alloc (by omega) (.cells #[.int .i64 k] 3)).grown g4 (by simp<;>omega) (fun c hc=>(HOL3.out.1.lt c hc).1));clear o4 g4 p4)
   go_roundw
   case rel=>exact⟨k+1,lv++ [(k:Int)],by omega,by go_num,by rw[List.length_append,HLV.out];rfl,O4.out,B4.out⟩
   case measure=>simp[intOf];omega
  ·obtain rfl:k=n:=by omega
   go_wp2
   have HN2:Hid (∀j,wk.frozen? ⟨w1.heap.size,j,none⟩=false):=hDD fun j=>(HB.out.frozen (p:=⟨w1.heap.size,j,none⟩) (by show w1.heap.size<_;omega)).trans (XF.out j)
   have HX0:=hDD ((HB.out.cell (p:=⟨w1.heap.size,0,none⟩) (by show w1.heap.size<_;omega)).trans X0.out)
   have HX1:=hDD ((HB.out.cell (p:=⟨w1.heap.size,1,none⟩) (by show w1.heap.size<_;omega)).trans X1.out)
   have HX2:=hDD ((HB.out.cell (p:=⟨w1.heap.size,2,none⟩) (by show w1.heap.size<_;omega)).trans X2.out)
   have HOE:Hid (OwE wk (w.heap.size+2) (.slice A1 es.length c1) es):=hDD (OwE.keep OEX.out fun b hb=>HB.out.block b (by have:=HNX.out b hb;omega))
   have HBK:Hid (Below w1.heap.size w1 wk):=hDD (BX2.out.trans (HB.out.mono (by omega)))
   clear q0 q1 q2
   go_loopw [5,7] (fun lf i wr=> ∃(k':Nat) (gk:GrD) (A2:Option Addr) (c2:Nat) (lv lx:List Int),k'≤40∧i= .int .i64 k'∧grB gk=true∧(trimF (k-k') gk lx).1=TG∧gk.2.1+k'≤k∧(lv.length:Int)=gk.2.1∧wr.cell? ⟨w1.heap.size,0,none⟩=some (.int .i64 gk.1)∧wr.cell? ⟨w1.heap.size,1,none⟩=some (.int .i64 gk.2.1)∧wr.cell? ⟨w1.heap.size,2,none⟩=some (.slice A2 gk.2.2.length c2)∧
    (∀j,wr.frozen? ⟨w1.heap.size,j,none⟩=false)∧OwE wr (w.heap.size+2) (.slice A2 gk.2.2.length c2) gk.2.2∧(∀b,(Value.slice A2 gk.2.2.length c2).ownBlock=some b→b≠w1.heap.size)∧OwI wr (w1.heap.size+1) lf lv∧Below w1.heap.size w1 wr∧w1.heap.size<wr.heap.size) (fun _ i _=>40-(intOf i).toNat)
   case atStart=>exact⟨0,(g1,(k:Int),es),A1,c1,lv,(List.range k).map fun v=>((v:Nat):Int),Nat.zero_le _,rfl,HGR.out,HTG.out,by simp,by rw[HLV.out],HX0.out,HX1.out,HX2.out,HN2.out,HOE.out,fun b hb=>by have:=HNX.out b hb;omega,HOL.out,HBK.out,by omega⟩
   case round=>
    obtain⟨j,gk,A2,c2,lv',lx,hj,rfl,hgk,htf,hsz,hll,hx0,hx1,hx2,hxf,hoe,hnx,hol,hbr,hxr⟩:=hrel
    obtain⟨k13,k40,k120,_⟩:=grB_parts hgk
    have HGK:=hDD hgk
    have HTF:=hDD htf
    have HOE2:=hDD hoe
    have HNX2:=hDD hnx
    have HOL2:=hDD hol
    have HBR:=hDD hbr
    have HLL:=hDD hll
    have B4:=hDD (B1.out.trans (hbr.mono hs1))
    have HAK:Hid (ArgG wr (.agg #[.int .i64 gk.1, .int .i64 gk.2.1, .slice A2 gk.2.2.length c2]) gk):=hDD ⟨_,rfl,(by unfold I64;omega),(by unfold I64;omega),hoe.arg⟩
    obtain⟨wj,rfl⟩: ∃wj:World,wj=wr:=⟨_,rfl⟩
    obtain⟨q0,q1,q2⟩:=HCL.out wj B4.out
    have HX0:=hDD hx0
    have HX1:=hDD hx1
    have HX2:=hDD hx2
    have HXF:=hDD hxf
    clear hgk htf hoe hnx hol hbr hll hx0 hx1 hx2 hxf
    have hj40:j<40:=by omega
    have hjI:(j:Int)<40:=by omega
    go_wp2_with fail
    refine(HIG.out wj B4.out).mono ?_
    rintro e w4 ⟨rfl,b4⟩
    have hs4:=b4.size
    have z0:=(b4.cell (p:=⟨w1.heap.size,0,none⟩) hxr).trans HX0.out
    have z1:=(b4.cell (p:=⟨w1.heap.size,1,none⟩) hxr).trans HX1.out
    have z2:=(b4.cell (p:=⟨w1.heap.size,2,none⟩) hxr).trans HX2.out
    have B4':=hDD b4
    have HAK4:=hDD (HAK.out.below b4)
    clear b4 q0 q1 q2
    go_wp2_with fail
    refine(l8Leaf_any _ gk w4 HAK4.out HGK.out).mono ?_
    rintro e w5 ⟨rfl,b5⟩
    have hs5:=b5.size
    have B5':=hDD (B4'.out.trans (b5.mono hs4))
    have B5:=hDD (HBR.out.trans (B5'.out.mono (by omega)))
    have y0:=(b5.cell (p:=⟨w1.heap.size,0,none⟩) (by show w1.heap.size<_;omega)).trans z0
    have y1:=(b5.cell (p:=⟨w1.heap.size,1,none⟩) (by show w1.heap.size<_;omega)).trans z1
    have y2:=(b5.cell (p:=⟨w1.heap.size,2,none⟩) (by show w1.heap.size<_;omega)).trans z2
    have YF:Hid (∀j,w5.frozen? ⟨w1.heap.size,j,none⟩=false):=hDD fun j=>(B5'.out.frozen (p:=⟨w1.heap.size,j,none⟩) hxr).trans (HXF.out j)
    have OE5:=hDD (HOE2.out.below B5'.out)
    have OL5:=hDD (HOL2.out.below B5'.out)
    have BW5:=hDD (B1.out.trans (B5.out.mono hs1))
    clear b5 z0 z1 z2 HX0 HX1 HX2 HXF HAK4
    obtain⟨m,hm⟩: ∃m:Nat,gk.2.1=(m:Int):=⟨gk.2.1.toNat,by omega⟩
    rcases e4:decide (leafV gk.2.2 gk.2.1.toNat<0) with _ | _
    ·have hlf: ¬leafV gk.2.2 gk.2.1.toNat<0:=by simpa using e4
     have hlp:=leafV_pos hlf
     have hmn:gk.2.1.toNat=m:=by omega
     have HTN:Hid (∃lx',(trimF (k-(j+1)) (rnG gk (delO m (leafV gk.2.2 gk.2.1.toNat))) lx').1=TG):=hDD (by
      obtain⟨f,hf⟩: ∃f,k-j=f+1:=⟨k-j-1,by omega⟩
      have h:=HTF.out
      rw[hf] at h
      unfold trimF at h
      rw[if_neg hlf] at h
      refine⟨lx.take (leafV gk.2.2 gk.2.1.toNat).toNat++lx.drop ((leafV gk.2.2 gk.2.1.toNat).toNat+1),?_⟩
      rw[show k-(j+1)=f by omega,←hmn]
      exact h)
     have HGN:Hid (grB (rnG gk (delO m (leafV gk.2.2 gk.2.1.toNat)))=true∧OrdOk gk.2.1 (delO m (leafV gk.2.2 gk.2.1.toNat))):=hDD (by
      have hok:=delO_ok (n:=m) (x:=leafV gk.2.2 gk.2.1.toNat) (by omega) (by omega)
      rw[←hm] at hok
      exact⟨grB_rnG HGK.out hok,hok⟩)
     have hdl:=delO_len (n:=m) (x:=leafV gk.2.2 gk.2.1.toNat) (by omega) (by omega)
     rw[hmn] at hlp
     generalize leafV gk.2.2 gk.2.1.toNat=x at*
     have HM:=hDD hm
     have HLM:Hid (lv'.length=m):=hDD (by have:=HLL.out;omega)
     clear hm hlf HTF
     have hmI:(0:Int)≤(m:Int):=by omega
     have bo:Below w5.heap.size w5 ((w5.alloc (.cells #[] 3)).alloc (.cells #[] 3)):=(by repeat(first | exact Below.refl _ _ | (refine Below.setCell ?_ (by first | omega | (simp<;>omega)) _) | (refine bel_drewN ?_ _) | (refine Below.drew ?_) | (refine Below.alloc ?_ (by first | omega | (simp<;>omega)) _)))
     have HTW:Hid (Tw w5.heap.size ((w5.alloc (.cells #[] 3)).alloc (.cells #[] 3)) (.slice (some ⟨w5.heap.size,0,none⟩) 0 0) [] (.slice (some ⟨w5.heap.size+1,0,none⟩) 0 0) []):=hDD
      ⟨(OwI_lit w5 [] I64s_nil (by simp) (Nat.le_refl _)).alloc _,OwI_litN (w5.alloc (.cells #[] 3)) [] (w5.heap.size+1) (by simp) I64s_nil (by simp) (by omega),fun b h1 h2=>by simp[Value.ownBlock] at h1 h2;omega⟩
     go_wp2
     obtain⟨w6,hw6⟩: ∃W,W=(w5.alloc (.cells #[] 3)).alloc (.cells #[] 3):=⟨_,rfl⟩
     rw[←hw6] at bo HTW⊢
     have hs6:w6.heap.size=w5.heap.size+2:=by rw[hw6];simp
     have BO:=hDD bo
     obtain⟨Al,cl_,rfl,_,_,_,hgl⟩:=OwI.form OL5.out
     obtain⟨gl,rfl,_,_⟩:=hgl (by rw[HLM.out];omega)
     have hy1:=HM.out▸y1
     have Y0:=hDD y0
     have Y1:=hDD hy1
     have Y2:=hDD y2
     clear bo hw6 y0 y1 y2 hy1 hgl
     go_loopw [9,10,11] (fun vo vr i wr=> ∃(q:Nat) (lr:List Int),q≤m∧i= .int .i64 q∧lr.length=(delO q x).length∧Tw w5.heap.size wr vo (delO q x) vr lr∧Below w5.heap.size w5 wr) (fun _ _ i _=>m-(intOf i).toNat)
     case atStart=>exact⟨0,[],Nat.zero_le _,rfl,rfl,HTW.out,BO.out⟩
     case round=>
      obtain⟨q,lr,hq,rfl,hlr,htw,hb⟩:=hrel
      have HTWq:=hDD htw
      have HBQ:=hDD hb
      have HLR:=hDD hlr
      obtain⟨wq,rfl⟩: ∃wq:World,wq=wr:=⟨_,rfl⟩
      clear htw hb hlr
      have hsq:=HBQ.out.size
      have z1:=(HBQ.out.cell (p:=⟨w1.heap.size,1,none⟩) (by show w1.heap.size<_;omega)).trans Y1.out
      by_cases hlt:q<m
      ·have hqI:(q:Int)<(m:Int):=by omega
       have HDS:=hDD (delO_succ q x)
       have hdq:(delO q x).length≤1099511627776:=by
        have h1:(delO q x).length≤q:=by
         unfold delO
         refine Nat.le_trans (List.length_filter_le _ _) ?_
         simp
        omega
       have hlrq:lr.length≤1099511627776:=by rw[HLR.out];exact hdq
       have hql:q<lv'.length:=by rw[HLM.out];exact hlt
       have HV64:=hDD (OL5.out.2 lv'[q] (List.getElem_mem hql))
       rcases e6:((q:Int) != x) with _ | _
       ·have hqx:(q:Int)=x:=by simpa using e6
        have HD:Hid (delO (q+1) x=delO q x):=hDD (by rw[HDS.out,if_neg (by simp[hqx])])
        clear hqx
        go_wp2
        go_roundw
        case rel=>exact⟨q+1,lr,by omega,by go_num,by rw[HD.out];exact HLR.out,by rw[HD.out];exact HTWq.out,HBQ.out⟩
        case measure=>simp[intOf];omega
       ·have hqx:(q:Int)≠x:=by simpa using e6
        have HD:Hid (delO (q+1) x=delO q x++ [(q:Int)]):=hDD (by rw[HDS.out,if_pos hqx])
        have hlI:(q:Int)<(lv'.length:Int):=by omega
        have HCQ:=hDD (fun W' (h:OwI W' (w1.heap.size+1) (.slice (some ⟨gl,0,none⟩) lv'.length cl_) lv')=>h.cellAt q hql)
        clear hqx
        generalize lv'[q]=lq at HV64 HCQ
        go_wp2_with (first
         | (at_builtin;refine push_int rfl (.tmp 54) (.tmp 56) rfl w5.heap.size _ (delO q x) (HTWq.out.1.alloc _) rfl _ (q:Int) rfl (cell_new1 _ _ _) (by unfold I64;omega) hdq (by simp<;>omega) ?_;intro v7 w7 o7 g7 p7;have T7:=hDD (HTWq.out.push ((Below.refl _ _).alloc (Nat.le_refl _) (.cells #[.int .i64 q] 3)) o7 g7 p7);have B7:Hid (Below w5.heap.size w5 w7):=hDD ((HBQ.out.alloc hsq (.cells #[.int .i64 q] 3)).grown g7 (by simp<;>omega) (fun c hc=>(HTWq.out.1.1.lt c hc).1));have hs7:=B7.out.size;have hcl7:=HCQ.out w7 (OL5.out.below B7.out);clear o7 g7 p7)
         | (at_builtin;refine push_int rfl (.tmp 58) (.tmp 63) rfl w5.heap.size _ lr (T7.out.2.1.alloc _) rfl _ lq rfl (cell_new1 _ _ _) HV64.out hlrq (by simp<;>omega) ?_;intro v8 w8 o8 g8 p8;have T8:=hDD (T7.out.swap.push ((Below.refl _ _).alloc (Nat.le_refl _) (.cells #[.int .i64 lq] 3)) o8 g8 p8).swap;have B8:Hid (Below w5.heap.size w5 w8):=hDD ((B7.out.alloc hs7 (.cells #[.int .i64 lq] 3)).grown g8 (by simp<;>omega) (fun c hc=>(T7.out.2.1.1.lt c hc).1));clear o8 g8 p8))
        go_roundw
        case rel=>exact⟨q+1,lr++ [lq],by omega,by go_num,by rw[HD.out,List.length_append,List.length_append,HLR.out];rfl,by rw[HD.out];exact T8.out,B8.out⟩
        case measure=>simp[intOf];omega
      ·obtain rfl:q=m:=by omega
       have HAKQ:=hDD ((HAK.out.below B5'.out).below HBQ.out)
       have z0:=(HBQ.out.cell (p:=⟨w1.heap.size,0,none⟩) (by show w1.heap.size<_;omega)).trans Y0.out
       have z2:=(HBQ.out.cell (p:=⟨w1.heap.size,2,none⟩) (by show w1.heap.size<_;omega)).trans Y2.out
       have ZF:Hid (∀j,wq.frozen? ⟨w1.heap.size,j,none⟩=false):=hDD fun j=>(HBQ.out.frozen (p:=⟨w1.heap.size,j,none⟩) (by show w1.heap.size<_;omega)).trans (YF.out j)
       have hvo:=HTWq.out.1.rd.arg.form
       obtain⟨Avo,cvo,rfl⟩:=hvo
       go_wp2_with fail
       rw[←HM.out]
       refine(specRenumber_any _ _ gk (delO q x) wq HAKQ.out HTWq.out.1.rd HGK.out HGN.out.2).mono ?_
       rintro e w9 ⟨r,rfl,o9,b9⟩
       have hs9:=b9.size
       have B9:=hDD (B5.out.trans ((HBQ.out.trans (b9.mono hsq)).mono (by omega)))
       have x0:=(b9.cell (p:=⟨w1.heap.size,0,none⟩) (by show w1.heap.size<_;omega)).trans z0
       have x1:=(b9.cell (p:=⟨w1.heap.size,1,none⟩) (by show w1.heap.size<_;omega)).trans z1
       have x2:=(b9.cell (p:=⟨w1.heap.size,2,none⟩) (by show w1.heap.size<_;omega)).trans z2
       have X9:Hid (∀j,w9.frozen? ⟨w1.heap.size,j,none⟩=false):=hDD fun j=>(b9.frozen (p:=⟨w1.heap.size,j,none⟩) (by show w1.heap.size<_;omega)).trans (ZF.out j)
       have xf0:=X9.out 0
       have xf1:=X9.out 1
       have xf2:=X9.out 2
       have T9:=hDD (HTWq.out.below b9)
       have HG1:Hid (grB (rnG gk (delO q x))=true∧(rnG gk (delO q x)).2.1=((delO q x).length:Int)):=hDD ⟨HGN.out.1,rfl⟩
       clear b9 z0 z1 z2 HGN
       generalize rnG gk (delO q x)=M at*
       obtain⟨m1,m2,ms⟩:=M
       obtain⟨s9,rfl,hj1,hj2,oe9⟩:=o9
       obtain⟨A9,c9,rfl,_⟩:=oe9.form
       simp only at hj1 hj2 oe9
       have OE9:=hDD oe9
       clear oe9
       obtain⟨e0,e1,e2⟩:=cells3F (.int .i64 m1) (.int .i64 m2) (.slice A9 ms.length c9) x0 x1 x2
       have NB:Hid (Below w1.heap.size w1 (((w9.setCell ⟨w1.heap.size,0,none⟩ (.int .i64 m1)).setCell ⟨w1.heap.size,1,none⟩ (.int .i64 m2)).setCell ⟨w1.heap.size,2,none⟩ (.slice A9 ms.length c9))):=hDD (((B9.out.setCell (Nat.le_refl _) _).setCell (Nat.le_refl _) _).setCell (Nat.le_refl _) _)
       have NE:Hid (OwE (((w9.setCell ⟨w1.heap.size,0,none⟩ (.int .i64 m1)).setCell ⟨w1.heap.size,1,none⟩ (.int .i64 m2)).setCell ⟨w1.heap.size,2,none⟩ (.slice A9 ms.length c9)) (w.heap.size+2) (.slice A9 ms.length c9) ms):=hDD (OwE.mono (((OE9.out.far (by show w1.heap.size<_;omega) _).far (by show w1.heap.size<_;omega) _).far (by show w1.heap.size<_;omega) _) (by omega))
       have NX:Hid (∀b,(Value.slice A9 ms.length c9).ownBlock=some b→b≠w1.heap.size):=hDD fun b hb=>by have:=(OE9.out.1.lt b hb).1;omega
       have NF:Hid (∀j,((((w9.setCell ⟨w1.heap.size,0,none⟩ (.int .i64 m1)).setCell ⟨w1.heap.size,1,none⟩ (.int .i64 m2)).setCell ⟨w1.heap.size,2,none⟩ (.slice A9 ms.length c9))).frozen? ⟨w1.heap.size,j,none⟩=false):=hDD fun j=>by rw[World.frozen?_setCell,World.frozen?_setCell,World.frozen?_setCell];exact X9.out j
       have NR:Hid (OwI (((w9.setCell ⟨w1.heap.size,0,none⟩ (.int .i64 m1)).setCell ⟨w1.heap.size,1,none⟩ (.int .i64 m2)).setCell ⟨w1.heap.size,2,none⟩ (.slice A9 ms.length c9)) (w1.heap.size+1) u10 lr):=hDD (OwI.mono (((T9.out.2.1.far (by show w1.heap.size<_;omega) _).far (by show w1.heap.size<_;omega) _).far (by show w1.heap.size<_;omega) _) (by omega))
       have E0:=hDD e0
       have E1:=hDD e1
       have E2:=hDD e2
       obtain⟨lx',hlx'⟩:=HTN.out
       have HTX:=hDD hlx'
       have hsz9:w1.heap.size<((((w9.setCell ⟨w1.heap.size,0,none⟩ (.int .i64 m1)).setCell ⟨w1.heap.size,1,none⟩ (.int .i64 m2)).setCell ⟨w1.heap.size,2,none⟩ (.slice A9 ms.length c9))).heap.size:=by simp<;>omega
       clear e0 e1 e2 hlx' HTN
       go_wp2
       go_roundw
       case rel=>exact⟨j+1,(m1,m2,ms),A9,c9,lr,lx',by omega,by go_num,HG1.out.1,HTX.out,by have:=HG1.out.2;simp only at this⊢;omega,by have:=HG1.out.2;rw[HLR.out];exact this.symm,E0.out,E1.out,E2.out,NF.out,NE.out,NX.out,NR.out,NB.out,hsz9⟩
       case measure=>simp[intOf];omega
    ·have hlf:leafV gk.2.2 gk.2.1.toNat<0:=by simpa using e4
     have HT:Hid (TG=gk):=hDD (by rw[←HTF.out,trimF_stop _ hlf])
     have r0:=(BW5.out.cell (p:=⟨w.heap.size+1,0,none⟩) (by show w.heap.size+1<_;omega)).trans R0.out
     have r1:=(BW5.out.cell (p:=⟨w.heap.size+1,1,none⟩) (by show w.heap.size+1<_;omega)).trans R1.out
     have r2:=(BW5.out.cell (p:=⟨w.heap.size+1,2,none⟩) (by show w.heap.size+1<_;omega)).trans R2.out
     have rf0:=(BW5.out.frozen (p:=⟨w.heap.size+1,0,none⟩) (by show w.heap.size+1<_;omega)).trans (RF.out 0)
     have rf1:=(BW5.out.frozen (p:=⟨w.heap.size+1,1,none⟩) (by show w.heap.size+1<_;omega)).trans (RF.out 1)
     have rf2:=(BW5.out.frozen (p:=⟨w.heap.size+1,2,none⟩) (by show w.heap.size+1<_;omega)).trans (RF.out 2)
     have hne1:w.heap.size+1≠w1.heap.size:=by omega
     have HBF:=hDD (BX.out.trans (BW5.out.mono BX.out.size))
     obtain⟨Al,cl_,rfl,_⟩:=OwI.form OL5.out
     have HM:=hDD hm
     clear hm
     go_wp2
     obtain⟨e0,e1,e2⟩:=cells3F (.int .i64 gk.1) (.int .i64 gk.2.1) (.slice A2 gk.2.2.length c2) r0 r1 r2
     have bw:Below w.heap.size w (((w5.setCell ⟨w.heap.size+1,0,none⟩ (.int .i64 gk.1)).setCell ⟨w.heap.size+1,1,none⟩ (.int .i64 gk.2.1)).setCell ⟨w.heap.size+1,2,none⟩ (.slice A2 gk.2.2.length c2)):=(((HBF.out.setCell (by simp<;>omega) _).setCell (by simp<;>omega) _).setCell (by simp<;>omega) _)
     have ow:OwE (((w5.setCell ⟨w.heap.size+1,0,none⟩ (.int .i64 gk.1)).setCell ⟨w.heap.size+1,1,none⟩ (.int .i64 gk.2.1)).setCell ⟨w.heap.size+1,2,none⟩ (.slice A2 gk.2.2.length c2)) (w.heap.size+2) (.slice A2 gk.2.2.length c2) gk.2.2:=((OE5.out.far (by show w.heap.size+1<_;omega) _).far (by show w.heap.size+1<_;omega) _).far (by show w.heap.size+1<_;omega) _
     generalize (((w5.setCell ⟨w.heap.size+1,0,none⟩ (.int .i64 gk.1)).setCell ⟨w.heap.size+1,1,none⟩ (.int .i64 gk.2.1)).setCell ⟨w.heap.size+1,2,none⟩ (.slice A2 gk.2.2.length c2))=wf at*
     rw[HT.out]
     exact bodyPost_ret (v:= .tuple #[.agg #[.int .i64 gk.1, .int .i64 gk.2.1, .slice A2 gk.2.2.length c2], .slice Al lv'.length cl_]) (by simp[results,Tryz.results168,go_sem,e0,e1,e2]) rfl ⟨_,_,rfl,⟨.slice A2 gk.2.2.length c2,rfl,(by unfold I64;omega),(by unfold I64;omega),ow.mono (by omega)⟩,bw⟩
set_option maxHeartbeats 1000000 in
theorem specCoreGraph_any (v:Value) (g:GrD) (w:World) (h:ArgG w v g) (hg:grB g=true):
  Calls Tryz.prog 90 #[v] w fun e w'=> ∃r,e= .returned r∧OwG w' w.heap.size r (coreG g)∧Below w.heap.size w w':=by
 have HG:=hDD h
 have HFA:=hDD (folA_ok hg)
 have HFB:=hDD (foldB_parts HFA.out).1
 have HTB:=hDD (trimG_fold HFA.out)
 have HCG:Hid (coreG g=canG (trimG (folA g)).1):=hDD rfl
 have HFO:=hDD (fun W h=>specFoldAll_any v g W h hg)
 have HTR:=hDD (fun u W h=>specTrimGraph_any u (folA g) W h HFB.out)
 have HCA:=hDD (fun u W h=>specCanonicalGraph_any u (trimG (folA g)).1 W h HTB.out)
 generalize canG (trimG (folA g)).1=CG at*
 generalize (trimG (folA g)).1=TG at*
 generalize folA g=FG at*
 obtain⟨s,rfl,hi1,hi2,ha⟩:=h
 obtain⟨A,cap,rfl⟩:=ha.form
 obtain⟨g1,N,es⟩:=g
 simp only at*
 clear ha hg
 go_enter Tryz.func90,Tryz.ntmps90
 have bx:Below w.heap.size w ((w.alloc (Obj.cells #[Value.int IntKind.i64 g1,Value.int IntKind.i64 N, .slice A es.length cap] 26)).alloc (Obj.cells #[Value.int IntKind.i64 0,Value.int IntKind.i64 0, .slice none 0 0] 26)):=(by repeat(first | exact Below.refl _ _ | (refine Below.setCell ?_ (by first | omega | (simp<;>omega)) _) | (refine bel_drewN ?_ _) | (refine Below.drew ?_) | (refine Below.alloc ?_ (by first | omega | (simp<;>omega)) _)))
 go_wp2_with fail
 obtain⟨W,hW⟩: ∃W,W=((w.alloc (Obj.cells #[Value.int IntKind.i64 g1,Value.int IntKind.i64 N, .slice A es.length cap] 26)).alloc (Obj.cells #[Value.int IntKind.i64 0,Value.int IntKind.i64 0, .slice none 0 0] 26)):=⟨_,rfl⟩
 rw[←hW] at bx⊢
 have hsW:W.heap.size=w.heap.size+2:=by rw[hW];simp
 have R0:Hid (W.cell? ⟨w.heap.size+1,0,none⟩=some (.int .i64 0)):=hDD (by rw[hW];simp[go_sem])
 have R1:Hid (W.cell? ⟨w.heap.size+1,1,none⟩=some (.int .i64 0)):=hDD (by rw[hW];simp[go_sem])
 have R2:Hid (W.cell? ⟨w.heap.size+1,2,none⟩=some (.slice none 0 0)):=hDD (by rw[hW];simp[go_sem])
 have RF:Hid (∀j,W.frozen? ⟨w.heap.size+1,j,none⟩=false):=hDD fun j=>by rw[hW];simp[go_sem]
 have BX:=hDD bx
 clear hW bx
 refine(HFO.out W (HG.out.below BX.out)).mono ?_
 rintro e w1 ⟨r,o,rfl,o1,b1⟩
 have B1:=hDD b1
 have hs1:=b1.size
 have O1:=hDD o1
 obtain⟨f1,f2,fs⟩:=FG
 obtain⟨s1,rfl,_,_,oe1⟩:=o1
 obtain⟨A1,c1,rfl,_⟩:=oe1.form
 simp only at*
 clear b1 oe1
 have bf:Below w1.heap.size w1 (w1.alloc (Obj.cells #[Value.int IntKind.i64 f1,Value.int IntKind.i64 f2, .slice A1 fs.length c1] 26)):=(Below.refl _ _).alloc (Nat.le_refl _) _
 go_wp2_with fail
 refine(HTR.out _ _ (O1.out.arg.below bf)).mono ?_
 rintro e w3 ⟨r3,o3,rfl,o3',b3⟩
 have hsf:=bf.size
 have B3:=hDD (B1.out.trans ((bf.trans (b3.mono hsf)).mono hs1))
 have hs3:=b3.size
 have O3:=hDD o3'
 obtain⟨t1,t2,ts⟩:=TG
 obtain⟨s3,rfl,_,_,oe3⟩:=o3'
 obtain⟨A3,c3,rfl,_⟩:=oe3.form
 simp only at*
 clear b3 oe3 bf
 have bt:Below w3.heap.size w3 (w3.alloc (Obj.cells #[Value.int IntKind.i64 t1,Value.int IntKind.i64 t2, .slice A3 ts.length c3] 26)):=(Below.refl _ _).alloc (Nat.le_refl _) _
 go_wp2_with fail
 refine(HCA.out _ _ (O3.out.arg.below bt)).mono ?_
 rintro e w5 ⟨r5,rfl,o5,b5⟩
 have hst:=bt.size
 have hs33:=B3.out.size
 have B5:=hDD (B3.out.trans ((bt.trans (b5.mono hst)).mono hs33))
 have hs5:=B5.out.size
 have hb5:=b5.size
 obtain⟨c1',c2',cs⟩:=CG
 obtain⟨s5,rfl,hj1,hj2,oe5⟩:=o5
 obtain⟨A5,k5,rfl,_⟩:=oe5.form
 simp only at*
 have OE5:=hDD oe5
 have r0:=(B5.out.cell (p:=⟨w.heap.size+1,0,none⟩) (by show w.heap.size+1<_;omega)).trans R0.out
 have r1:=(B5.out.cell (p:=⟨w.heap.size+1,1,none⟩) (by show w.heap.size+1<_;omega)).trans R1.out
 have r2:=(B5.out.cell (p:=⟨w.heap.size+1,2,none⟩) (by show w.heap.size+1<_;omega)).trans R2.out
 have rf0:=(B5.out.frozen (p:=⟨w.heap.size+1,0,none⟩) (by show w.heap.size+1<_;omega)).trans (RF.out 0)
 have rf1:=(B5.out.frozen (p:=⟨w.heap.size+1,1,none⟩) (by show w.heap.size+1<_;omega)).trans (RF.out 1)
 have rf2:=(B5.out.frozen (p:=⟨w.heap.size+1,2,none⟩) (by show w.heap.size+1<_;omega)).trans (RF.out 2)
 have HBF:=hDD (BX.out.trans (B5.out.mono BX.out.size))
 clear b5 oe5 bt
 go_wp2
 obtain⟨e0,e1,e2⟩:=cells3F (.int .i64 c1') (.int .i64 c2') (.slice A5 cs.length k5) r0 r1 r2
 have bw:Below w.heap.size w (((w5.setCell ⟨w.heap.size+1,0,none⟩ (.int .i64 c1')).setCell ⟨w.heap.size+1,1,none⟩ (.int .i64 c2')).setCell ⟨w.heap.size+1,2,none⟩ (.slice A5 cs.length k5)):=(((HBF.out.setCell (by simp<;>omega) _).setCell (by simp<;>omega) _).setCell (by simp<;>omega) _)
 have ow:OwE (((w5.setCell ⟨w.heap.size+1,0,none⟩ (.int .i64 c1')).setCell ⟨w.heap.size+1,1,none⟩ (.int .i64 c2')).setCell ⟨w.heap.size+1,2,none⟩ (.slice A5 cs.length k5)) w.heap.size (.slice A5 cs.length k5) cs:=OwE.mono (((OE5.out.far (by show w.heap.size+1<_;omega) _).far (by show w.heap.size+1<_;omega) _).far (by show w.heap.size+1<_;omega) _) (by omega)
 generalize (((w5.setCell ⟨w.heap.size+1,0,none⟩ (.int .i64 c1')).setCell ⟨w.heap.size+1,1,none⟩ (.int .i64 c2')).setCell ⟨w.heap.size+1,2,none⟩ (.slice A5 cs.length k5))=wf at*
 rw[HCG.out]
 exact bodyPost_ret (v:= .agg #[.int .i64 c1', .int .i64 c2', .slice A5 cs.length k5]) (by simp[results,Tryz.results90,go_sem,e0,e1,e2]) rfl ⟨_,rfl,⟨.slice A5 cs.length k5,rfl,hj1,hj2,ow⟩,bw⟩
end Go.Proofs.YtnjpoljbagfdnaaGreat
namespace Go.Proofs.YtnjpoljbagfdnaaGreat
set_option maxRecDepth 20000
set_option linter.unusedVariables false
set_option linter.unusedSimpArgs false
open Go.RowKit
set_option maxHeartbeats 1000000 in
theorem canonicalOrder_any (v:Value) (g:GrD) (w:World) (h:ArgG w v g) (hf:foldB g=true):
  Calls Tryz.prog 216 #[v] w fun e w'=> ∃r,e= .returned r∧OwI w' w.heap.size r (canO g)∧Below w.heap.size w w':=by
 have HG:=hDD h
 have HF:=hDD hf
 obtain⟨s,rfl,hi1,hi2,ha⟩:=h
 clear hf ha
 go_enter Tryz.func216,Tryz.ntmps216
 go_wp2_with fail
 have bx:Below w.heap.size w (w.alloc (Obj.cells #[Value.int IntKind.i64 g.1,Value.int IntKind.i64 g.2.1,s] 26)):=(by repeat(first | exact Below.refl _ _ | (refine Below.setCell ?_ (by first | omega | (simp<;>omega)) _) | (refine bel_drewN ?_ _) | (refine Below.drew ?_) | (refine Below.alloc ?_ (by first | omega | (simp<;>omega)) _)))
 have l0:(w.alloc (Obj.cells #[Value.int IntKind.i64 g.1,Value.int IntKind.i64 g.2.1,s] 26)).cell? ⟨w.heap.size,0,none⟩=some (.int .i64 g.1):=by simp[go_sem]
 have l1:(w.alloc (Obj.cells #[Value.int IntKind.i64 g.1,Value.int IntKind.i64 g.2.1,s] 26)).cell? ⟨w.heap.size,1,none⟩=some (.int .i64 g.2.1):=by simp[go_sem]
 have l2:(w.alloc (Obj.cells #[Value.int IntKind.i64 g.1,Value.int IntKind.i64 g.2.1,s] 26)).cell? ⟨w.heap.size,2,none⟩=some s:=by simp[go_sem]
 have sA:w.heap.size<(w.alloc (Obj.cells #[Value.int IntKind.i64 g.1,Value.int IntKind.i64 g.2.1,s] 26)).heap.size:=by simp
 generalize w.alloc (Obj.cells #[Value.int IntKind.i64 g.1,Value.int IntKind.i64 g.2.1,s] 26)=W at bx l0 l1 l2 sA⊢
 have hif:=implIsFolded_any _ g W (HG.out.below bx)
 rw[HF.out] at hif
 have HIF:=hDD hif
 have BX:=hDD bx
 clear hif bx
 refine HIF.out.mono ?_
 rintro e w1 ⟨rfl,b1⟩
 have q0:=(b1.cell (p:=⟨w.heap.size,0,none⟩) sA).trans l0
 have q1:=(b1.cell (p:=⟨w.heap.size,1,none⟩) sA).trans l1
 have q2:=(b1.cell (p:=⟨w.heap.size,2,none⟩) sA).trans l2
 have BB:Hid (Below w.heap.size w w1):=hDD (BX.out.trans (b1.mono BX.out.size))
 clear b1 HIF l0 l1 l2
 go_wp2_with fail
 refine(tree_any _ g w1 (HG.out.below BB.out) HF.out).mono ?_
 rintro e w2 ⟨r2,s2,rfl,o2,b2⟩
 have O2:=hDD (o2.mono (BB.out.size))
 have B2:=hDD (BB.out.trans (b2.mono BB.out.size))
 clear o2 b2 q0 q1 q2
 go_wp2
 exact bodyPost_ret (v:=r2) (by simp[results,Tryz.results216]) rfl ⟨_,rfl,O2.out,B2.out⟩
set_option maxHeartbeats 1000000 in
theorem canonicalGraph_any (v:Value) (g:GrD) (w:World) (h:ArgG w v g) (hf:foldB g=true):
  Calls Tryz.prog 171 #[v] w fun e w'=> ∃r,e= .returned r∧OwG w' w.heap.size r (canG g)∧Below w.heap.size w w':=by
 have HG:=hDD h
 have HF:=hDD hf
 obtain⟨hg,_⟩:=foldB_parts hf
 have HGR:=hDD hg
 have HOK:=hDD (canO_ok hg)
 have HCG:Hid (canG g=rnG g (canO g)):=hDD rfl
 generalize canG g=cg at*
 obtain⟨s,rfl,hi1,hi2,ha⟩:=h
 obtain⟨A,cap,rfl⟩:=ha.form
 clear hf hg ha
 go_enter Tryz.func171,Tryz.ntmps171
 go_wp2_with fail
 have bx:Below w.heap.size w ((w.alloc (Obj.cells #[Value.int IntKind.i64 g.1,Value.int IntKind.i64 g.2.1, .slice A g.2.2.length cap] 26)).alloc (Obj.cells #[Value.int IntKind.i64 0,Value.int IntKind.i64 0, .slice none 0 0] 26)):=(by repeat(first | exact Below.refl _ _ | (refine Below.setCell ?_ (by first | omega | (simp<;>omega)) _) | (refine bel_drewN ?_ _) | (refine Below.drew ?_) | (refine Below.alloc ?_ (by first | omega | (simp<;>omega)) _)))
 obtain⟨W0,hW0⟩: ∃W,W=(w.alloc (Obj.cells #[Value.int IntKind.i64 g.1,Value.int IntKind.i64 g.2.1, .slice A g.2.2.length cap] 26)).alloc (Obj.cells #[Value.int IntKind.i64 0,Value.int IntKind.i64 0, .slice none 0 0] 26):=⟨_,rfl⟩
 rw[←hW0] at bx⊢
 have hsW:W0.heap.size=w.heap.size+1+1:=by rw[hW0];simp
 have B0:W0.cell? ⟨w.heap.size,0,none⟩=some (.int .i64 g.1):=by rw[hW0];simp[go_sem]
 have B1:W0.cell? ⟨w.heap.size,1,none⟩=some (.int .i64 g.2.1):=by rw[hW0];simp[go_sem]
 have B2:W0.cell? ⟨w.heap.size,2,none⟩=some (.slice A g.2.2.length cap):=by rw[hW0];simp[go_sem]
 have R0:Hid (W0.cell? ⟨w.heap.size+1,0,none⟩=some (.int .i64 0)):=hDD (by rw[hW0];simp[go_sem])
 have R1:Hid (W0.cell? ⟨w.heap.size+1,1,none⟩=some (.int .i64 0)):=hDD (by rw[hW0];simp[go_sem])
 have R2:Hid (W0.cell? ⟨w.heap.size+1,2,none⟩=some (.slice none 0 0)):=hDD (by rw[hW0];simp[go_sem])
 have RF:Hid (∀j,W0.frozen? ⟨w.heap.size+1,j,none⟩=false):=hDD fun j=>by rw[hW0];simp[go_sem]
 clear hW0
 have HSW:=hDD hsW
 have hl0:w.heap.size<W0.heap.size:=by omega
 have hl1:w.heap.size+1<W0.heap.size:=by omega
 clear hsW
 have BX:=hDD bx
 have HA:Hid (∀w',Below W0.heap.size W0 w'→ArgG w' (.agg #[.int .i64 g.1, .int .i64 g.2.1, .slice A g.2.2.length cap]) g):=hDD fun w' hb=>HG.out.below (BX.out.trans (hb.mono (by omega)))
 have hif:=implIsFolded_any _ g W0 (HA.out _ (Below.refl _ _))
 rw[HF.out] at hif
 have HIF:=hDD hif
 clear hif bx
 refine HIF.out.mono ?_
 rintro e w1 ⟨rfl,b1⟩
 have q0:=(b1.cell (p:=⟨w.heap.size,0,none⟩) hl0).trans B0
 have q1:=(b1.cell (p:=⟨w.heap.size,1,none⟩) hl0).trans B1
 have q2:=(b1.cell (p:=⟨w.heap.size,2,none⟩) hl0).trans B2
 have BB:=hDD b1
 have C0:=hDD B0
 have C1:=hDD B1
 have C2:=hDD B2
 clear b1 HIF B0 B1 B2
 go_wp2_with fail
 go_region_held3 (fun w'=>w'.cell? ⟨w.heap.size,0,none⟩=some (.int .i64 g.1)∧w'.cell? ⟨w.heap.size,1,none⟩=some (.int .i64 g.2.1)∧w'.cell? ⟨w.heap.size,2,none⟩=some (.slice A g.2.2.length cap))
  (first | exact⟨k0,k1,k2⟩ | go_keep)
  (first
   | (go_at_call 216;refine(canonicalOrder_any _ g _ (HA.out _ BB.out.drew) HF.out).mono ?_;rintro e' w2 ⟨r2,rfl,o2,b2⟩;have O2:=hDD o2;have B2:=hDD (BB.out.drew.trans (b2.mono BB.out.size));have k0:=(B2.out.cell (p:=⟨w.heap.size,0,none⟩) hl0).trans C0.out;have k1:=(B2.out.cell (p:=⟨w.heap.size,1,none⟩) hl0).trans C1.out;have k2:=(B2.out.cell (p:=⟨w.heap.size,2,none⟩) hl0).trans C2.out;clear o2 b2 q0 q1 q2)
   | (go_at_call 160;refine(part_any _ _ g (canO g) _ (HA.out _ B2.out) O2.out.rd HGR.out HOK.out).mono ?_;rintro e' w3 ⟨r3,rfl,o3,b3⟩;have s2:=B2.out.size;have B3:=hDD (B2.out.trans (b3.mono s2));obtain⟨s3,rfl,i1,i2,oe3⟩:=o3;obtain⟨A3,cap3,rfl,_⟩:=OwE.form oe3;have OE3:=hDD (oe3.mono s2);have I1:=hDD i1;have I2:=hDD i2;have k0:=(B3.out.cell (p:=⟨w.heap.size,0,none⟩) hl0).trans C0.out;have k1:=(B3.out.cell (p:=⟨w.heap.size,1,none⟩) hl0).trans C1.out;have k2:=(B3.out.cell (p:=⟨w.heap.size,2,none⟩) hl0).trans C2.out;have rr0:=(B3.out.cell (p:=⟨w.heap.size+1,0,none⟩) hl1).trans R0.out;have rr1:=(B3.out.cell (p:=⟨w.heap.size+1,1,none⟩) hl1).trans R1.out;have rr2:=(B3.out.cell (p:=⟨w.heap.size+1,2,none⟩) hl1).trans R2.out;have rf0:=(B3.out.frozen (p:=⟨w.heap.size+1,0,none⟩) hl1).trans (RF.out 0);have rf1:=(B3.out.frozen (p:=⟨w.heap.size+1,1,none⟩) hl1).trans (RF.out 1);have rf2:=(B3.out.frozen (p:=⟨w.heap.size+1,2,none⟩) hl1).trans (RF.out 2);clear b3 oe3 i1 i2))
 obtain⟨c0,c1,c2⟩:=set3_cells w3 (w.heap.size+1) (.int .i64 (rnG g (canO g)).1) (.int .i64 (rnG g (canO g)).2.1) (.slice A3 (rnG g (canO g)).2.2.length cap3) rr0 rr1 rr2
 have HB3:Hid (Below w.heap.size w w3):=hDD (BX.out.trans (B3.out.mono BX.out.size))
 have bw:Below w.heap.size w (((w3.setCell ⟨w.heap.size+1,0,none⟩ (.int .i64 (rnG g (canO g)).1)).setCell ⟨w.heap.size+1,1,none⟩ (.int .i64 (rnG g (canO g)).2.1)).setCell ⟨w.heap.size+1,2,none⟩ (.slice A3 (rnG g (canO g)).2.2.length cap3)):=(by repeat(first | exact Below.refl _ _ | (refine Below.setCell ?_ (by first | omega | (simp<;>omega)) _) | (refine bel_drewN ?_ _) | (refine Below.drew ?_) | (refine Below.alloc ?_ (by first | omega | (simp<;>omega)) _) | (refine Below.trans ?_ (Below.mono (Hid.out HB3) (by first | omega | (simp<;>omega))))))
 have ow:OwE (((w3.setCell ⟨w.heap.size+1,0,none⟩ (.int .i64 (rnG g (canO g)).1)).setCell ⟨w.heap.size+1,1,none⟩ (.int .i64 (rnG g (canO g)).2.1)).setCell ⟨w.heap.size+1,2,none⟩ (.slice A3 (rnG g (canO g)).2.2.length cap3)) W0.heap.size (.slice A3 (rnG g (canO g)).2.2.length cap3) (rnG g (canO g)).2.2:=
  ((OE3.out.far (p:=⟨w.heap.size+1,0,none⟩) hl1 _).far (p:=⟨w.heap.size+1,1,none⟩) hl1 _).far (p:=⟨w.heap.size+1,2,none⟩) hl1 _
 generalize ((w3.setCell ⟨w.heap.size+1,0,none⟩ (.int .i64 (rnG g (canO g)).1)).setCell ⟨w.heap.size+1,1,none⟩ (.int .i64 (rnG g (canO g)).2.1)).setCell ⟨w.heap.size+1,2,none⟩ (.slice A3 (rnG g (canO g)).2.2.length cap3)=wf at*
 go_wp2
 refine bodyPost_ret (v:= .agg #[.int .i64 (rnG g (canO g)).1, .int .i64 (rnG g (canO g)).2.1, .slice A3 (rnG g (canO g)).2.2.length cap3]) (by simp[results,Tryz.results171,go_sem,c0,c1,c2]) rfl ⟨_,rfl,?_,bw⟩
 rw[HCG.out]
 exact⟨_,rfl,I1.out,I2.out,ow.mono (by omega)⟩
set_option maxHeartbeats 1000000 in
theorem implIsCore_any (v:Value) (g:GrD) (w:World) (h:ArgG w v g):
  Calls Tryz.prog 93 #[v] w fun e w'=>e= .returned (.bool (coreB g))∧Below w.heap.size w w':=by
 have HG:=hDD h
 obtain⟨s,rfl,hi1,hi2,ha⟩:=h
 obtain⟨A,cap,rfl⟩:=ha.form
 have HC:Hid (coreB g=(foldB g&&decide (leafV g.2.2 g.2.1.toNat<0)&&decide (canG g=g))):=hDD rfl
 generalize coreB g=cb at*
 clear ha
 go_enter Tryz.func93,Tryz.ntmps93
 go_wp2_with fail
 have bx:Below w.heap.size w (w.alloc (Obj.cells #[Value.int IntKind.i64 g.1,Value.int IntKind.i64 g.2.1, .slice A g.2.2.length cap] 26)):=(by repeat(first | exact Below.refl _ _ | (refine Below.setCell ?_ (by first | omega | (simp<;>omega)) _) | (refine bel_drewN ?_ _) | (refine Below.drew ?_) | (refine Below.alloc ?_ (by first | omega | (simp<;>omega)) _)))
 have l0:(w.alloc (Obj.cells #[Value.int IntKind.i64 g.1,Value.int IntKind.i64 g.2.1, .slice A g.2.2.length cap] 26)).cell? ⟨w.heap.size,0,none⟩=some (.int .i64 g.1):=by simp[go_sem]
 have l1:(w.alloc (Obj.cells #[Value.int IntKind.i64 g.1,Value.int IntKind.i64 g.2.1, .slice A g.2.2.length cap] 26)).cell? ⟨w.heap.size,1,none⟩=some (.int .i64 g.2.1):=by simp[go_sem]
 have l2:(w.alloc (Obj.cells #[Value.int IntKind.i64 g.1,Value.int IntKind.i64 g.2.1, .slice A g.2.2.length cap] 26)).cell? ⟨w.heap.size,2,none⟩=some (.slice A g.2.2.length cap):=by simp[go_sem]
 have sA:w.heap.size<(w.alloc (Obj.cells #[Value.int IntKind.i64 g.1,Value.int IntKind.i64 g.2.1, .slice A g.2.2.length cap] 26)).heap.size:=by simp
 generalize w.alloc (Obj.cells #[Value.int IntKind.i64 g.1,Value.int IntKind.i64 g.2.1, .slice A g.2.2.length cap] 26)=W at bx l0 l1 l2 sA⊢
 have BX:=hDD bx
 have HA:Hid (∀w',Below W.heap.size W w'→ArgG w' (.agg #[.int .i64 g.1, .int .i64 g.2.1, .slice A g.2.2.length cap]) g):=hDD fun w' hb=>HG.out.below (BX.out.trans (hb.mono (by omega)))
 clear bx
 refine(implIsFolded_any _ g W (HA.out _ (Below.refl _ _))).mono ?_
 rintro e w1 ⟨rfl,b1⟩
 have BW:=hDD b1
 have q0:=(b1.cell (p:=⟨w.heap.size,0,none⟩) sA).trans l0
 have q1:=(b1.cell (p:=⟨w.heap.size,1,none⟩) sA).trans l1
 have q2:=(b1.cell (p:=⟨w.heap.size,2,none⟩) sA).trans l2
 have L0:=hDD l0
 have L1:=hDD l1
 have L2:=hDD l2
 clear b1 l0 l1 l2
 rcases e1:foldB g with _ | _
 ·have HR:Hid (cb=false):=hDD (by rw[HC.out,e1];rfl)
  clear e1
  go_wp2
  exact bodyPost_ret (v:= .bool false) (by simp[results,Tryz.results93]) rfl ⟨by rw[HR.out],BX.out.trans (BW.out.mono (Nat.le_of_lt sA))⟩
 ·have HF:=hDD e1
  have hg:=(foldB_parts e1).1
  have HGR:=hDD hg
  have HTS:=hDD (trimG_size hg)
  go_wp2_with fail
  refine(trimGraph_any _ g w1 (HA.out _ BW.out) HGR.out).mono ?_
  rintro e w2 ⟨rt,lt,rfl,ot,ol,b2⟩
  have s1:=BW.out.size
  have B2:=hDD (BW.out.trans (b2.mono s1))
  have s2:=B2.out.size
  generalize trimG g=T at*
  obtain⟨⟨t0,t1,t2⟩,tl⟩:=T
  obtain⟨st,rfl,_,_,oe⟩:=ot
  obtain⟨At,capt,rfl,_⟩:=OwE.form oe
  simp only at HTS⊢
  have k0:=(B2.out.cell (p:=⟨w.heap.size,0,none⟩) sA).trans L0.out
  have k1:=(B2.out.cell (p:=⟨w.heap.size,1,none⟩) sA).trans L1.out
  have k2:=(B2.out.cell (p:=⟨w.heap.size,2,none⟩) sA).trans L2.out
  have hsA2:w.heap.size<w2.heap.size:=by omega
  clear b2 ol oe q0 q1 q2 hg e1
  go_wp2
  have b3:Below w2.heap.size w2 (w2.alloc (Obj.cells #[Value.int IntKind.i64 t0,Value.int IntKind.i64 t1, .slice At t2.length capt] 26)):=(Below.refl _ _).alloc (Nat.le_refl _) _
  have m1:(w2.alloc (Obj.cells #[Value.int IntKind.i64 t0,Value.int IntKind.i64 t1, .slice At t2.length capt] 26)).cell? ⟨w2.heap.size,1,none⟩=some (.int .i64 t1):=by simp[go_sem]
  have s3:w2.heap.size<(w2.alloc (Obj.cells #[Value.int IntKind.i64 t0,Value.int IntKind.i64 t1, .slice At t2.length capt] 26)).heap.size:=by simp
  generalize w2.alloc (Obj.cells #[Value.int IntKind.i64 t0,Value.int IntKind.i64 t1, .slice At t2.length capt] 26)=W3 at b3 m1 s3⊢
  have p0:=(b3.cell (p:=⟨w.heap.size,0,none⟩) hsA2).trans k0
  have p1:=(b3.cell (p:=⟨w.heap.size,1,none⟩) hsA2).trans k1
  have p2:=(b3.cell (p:=⟨w.heap.size,2,none⟩) hsA2).trans k2
  have B3:=hDD (B2.out.trans (b3.mono s2))
  have hsA3:w.heap.size<W3.heap.size:=by omega
  have P0:=hDD p0
  have P1:=hDD p1
  have P2:=hDD p2
  have M1:=hDD m1
  clear k0 k1 k2 b3
  rcases hq:(t1==g.2.1) with _ | _
  ·have HR:Hid (cb=false):=hDD (by
    have h1:=HTS.out
    have h2:decide (t1=g.2.1)=false:=by rw[decide_eq_false_iff_not];exact beq_eq_false_iff_ne.1 hq
    rw[h2] at h1
    rw[HC.out,←h1]
    simp)
   have f1:=BelW.cell p1 hsA3
   have f2:=BelW.cell m1 s3
   have f3:=BelW.cell p0 hsA3
   have f4:=BelW.cell p2 hsA3
   (refine wp_region_quiet_bel (by kernel_rfl) (by kernel_rfl) ?_;(repeat(go_big_quiet_step (fail)));refine wpQuiet_nil ?_;intro wq hw';obtain⟨pq,hw''⟩:=hw';have bq:=pq.h;rw[←hw''] at bq;clear hw'' pq)
   go_wp2
   exact bodyPost_ret (v:= .bool false) (by simp[results,Tryz.results93]) rfl ⟨by rw[HR.out],BX.out.trans ((B3.out.trans (bq.mono (by omega))).mono (Nat.le_of_lt sA))⟩
  ·have HR:Hid (cb=decide (canG g=g)):=hDD (by
    have h1:=HTS.out
    have h2:decide (t1=g.2.1)=true:=by rw[decide_eq_true_iff];exact eq_of_beq hq
    rw[h2] at h1
    rw[HC.out,←h1,HF.out]
    simp)
   go_region_held3 (fun w'=>w'.cell? ⟨w.heap.size,0,none⟩=some (.int .i64 g.1)∧w'.cell? ⟨w.heap.size,1,none⟩=some (.int .i64 g.2.1)∧w'.cell? ⟨w.heap.size,2,none⟩=some (.slice A g.2.2.length cap)∧w'.cell? ⟨w2.heap.size,1,none⟩=some (.int .i64 t1))
    (first | exact⟨k0,k1,k2,k3⟩ | go_keep)
    (first
     | (go_at_call 171;refine(canonicalGraph_any _ g _ (HA.out _ B3.out.drew) HF.out).mono ?_;rintro e' w4 ⟨r4,rfl,o4,b4⟩;have B4:=hDD ((Below.refl W3.heap.size W3).drew.trans b4);have O4:=hDD o4;have k0:=(B4.out.cell (p:=⟨w.heap.size,0,none⟩) hsA3).trans P0.out;have k1:=(B4.out.cell (p:=⟨w.heap.size,1,none⟩) hsA3).trans P1.out;have k2:=(B4.out.cell (p:=⟨w.heap.size,2,none⟩) hsA3).trans P2.out;have k3:=(B4.out.cell (p:=⟨w2.heap.size,1,none⟩) s3).trans M1.out;clear b4 o4)
     | (go_at_call 127;refine(implEqualGraphs_any _ _ (canG g) g _ O4.out.arg (HA.out _ (B3.out.trans (B4.out.mono B3.out.size)))).mono ?_;rintro e' w5 ⟨rfl,b5⟩;have B5:=hDD (B4.out.trans (b5.mono B4.out.size));have k0:=(B5.out.cell (p:=⟨w.heap.size,0,none⟩) hsA3).trans P0.out;have k1:=(B5.out.cell (p:=⟨w.heap.size,1,none⟩) hsA3).trans P1.out;have k2:=(B5.out.cell (p:=⟨w.heap.size,2,none⟩) hsA3).trans P2.out;have k3:=(B5.out.cell (p:=⟨w2.heap.size,1,none⟩) s3).trans M1.out;clear b5))
   go_wp2
   exact bodyPost_ret (v:= .bool (decide (canG g=g))) (by simp[results,Tryz.results93]) rfl ⟨by rw[HR.out],BX.out.trans ((B3.out.trans (B5.out.mono (by omega))).mono (Nat.le_of_lt sA))⟩
end Go.Proofs.YtnjpoljbagfdnaaGreat
namespace Go.Proofs.YtnjpoljbagfdnaaGreat
set_option maxRecDepth 20000
set_option linter.unusedVariables false
set_option linter.unusedSimpArgs false
open Go.RowKit
theorem own_ne {v v':Value} {x n:Nat} (h: ∀c,v.ownBlock=some c→c≠x) (hat:v'.ownBlock=v.ownBlock∨v'.ownBlock=some n) (hn:n≠x): ∀c,v'.ownBlock=some c→c≠x:=fun c hc=>by
 rcases hat with q | q
 ·exact h c (by rw[←q];exact hc)
 ·rw[q] at hc;injection hc with hc;omega
set_option maxHeartbeats 2000000 in
theorem implFolds_any (v:Value) (g:GrD) (w:World) (h:ArgG w v g) (hl:g.2.2.length≤120):
  Calls Tryz.prog 265 #[v] w fun e w'=> ∃r,e= .returned r∧OwFo w' w.heap.size r (foL g.2.2)∧Below w.heap.size w w':=by
 obtain⟨s,rfl,hi1,hi2,ha⟩:=h
 obtain⟨A,cap,rfl,hcap,hmx,_⟩:=id ha
 obtain⟨g1,N,es⟩:=g
 simp only at*
 have HAE:=hDD ha
 clear ha
 have HUL:=hDD (foUp_len es)
 have HAL:=hDD (foAt_len es)
 go_enter Tryz.func265,Tryz.ntmps265
 have bx:Below w.heap.size w ((w.alloc (Obj.cells #[Value.int IntKind.i64 g1,Value.int IntKind.i64 N, .slice A es.length cap] 26)).alloc (.cells #[] 106)):=(by repeat(first | exact Below.refl _ _ | (refine Below.setCell ?_ (by first | omega | (simp<;>omega)) _) | (refine bel_drewN ?_ _) | (refine Below.drew ?_) | (refine Below.alloc ?_ (by first | omega | (simp<;>omega)) _)))
 have HOU:Hid (OwFo ((w.alloc (Obj.cells #[Value.int IntKind.i64 g1,Value.int IntKind.i64 N, .slice A es.length cap] 26)).alloc (.cells #[] 106)) (w.heap.size+1) (.slice (some ⟨w.heap.size+1,0,none⟩) 0 0) []):=hDD (by
  have:=OwFo_lit (base:=w.heap.size+1) (w.alloc (Obj.cells #[Value.int IntKind.i64 g1,Value.int IntKind.i64 N, .slice A es.length cap] 26)) (by simp)
  simpa using this)
 go_wp2
 obtain⟨W,hW⟩: ∃W,W=((w.alloc (Obj.cells #[Value.int IntKind.i64 g1,Value.int IntKind.i64 N, .slice A es.length cap] 26)).alloc (.cells #[] 106)):=⟨_,rfl⟩
 rw[←hW] at bx HOU⊢
 have hsW:W.heap.size=w.heap.size+2:=by rw[hW];simp
 have L2:Hid (W.cell? ⟨w.heap.size,2,none⟩=some (.slice A es.length cap)):=hDD (by rw[hW];simp[go_sem])
 have BX:=hDD bx
 have HA:Hid (∀w',Below (w.heap.size+1) W w'→ArgE w' (.slice A es.length cap) es):=hDD fun w' hb=>HAE.out.below (BX.out.trans (hb.mono (by omega)))
 clear hW bx
 go_loopw [3,12] (fun out i wr=> ∃k:Nat,k≤es.length∧i= .int .i64 k∧OwFo wr (w.heap.size+1) out (foUp es k)∧Below (w.heap.size+1) W wr) (fun _ i _=>es.length-(intOf i).toNat)
 case atStart=>exact⟨0,Nat.zero_le _,rfl,HOU.out,(Below.refl W.heap.size W).mono (by omega)⟩
 case round=>
  obtain⟨i,hi,rfl,ho,hb⟩:=hrel
  have HO:=hDD ho
  have HB:=hDD hb
  obtain⟨wi,rfl⟩: ∃wi:World,wi=wr:=⟨_,rfl⟩
  clear ho hb
  have hwi:=HB.out.size
  by_cases hlt:i<es.length
  ·have HO1:Hid (OwFo wi (w.heap.size+1) u3 (foUp es i++foAt es i (i+1))):=hDD (by rw[foAt_start,List.append_nil];exact HO.out)
   have HFU:=hDD (show foUp es (i+1)=foUp es i++foAt es i es.length from rfl)
   have hiI:(i:Int)<(es.length:Int):=by omega
   obtain⟨b,off,rfl,hbw,a0,a1,a2,_⟩:=(HA.out wi HB.out).at hlt
   have HGI:Hid (es.getD i (0,0,0)=es[i]):=hDD (by simp[List.getD,hlt])
   generalize es[i]=d at*
   obtain⟨d1,d2,d3⟩:=d
   simp only at a0 a1 a2
   have bA:Below wi.heap.size wi (wi.alloc (Obj.cells #[Value.int IntKind.i64 d1,Value.int IntKind.i64 d2,Value.int IntKind.i64 d3] 97)):=(Below.refl _ _).alloc (Nat.le_refl _) _
   have BA:=hDD (HB.out.trans (bA.mono (by omega)))
   have q2:=(BA.out.cell (p:=⟨w.heap.size,2,none⟩) (by show w.heap.size<w.heap.size+1;omega)).trans L2.out
   have HOA:=hDD (HO1.out.alloc (Obj.cells #[Value.int IntKind.i64 d1,Value.int IntKind.i64 d2,Value.int IntKind.i64 d3] 97))
   have X0:Hid ((wi.alloc (Obj.cells #[Value.int IntKind.i64 d1,Value.int IntKind.i64 d2,Value.int IntKind.i64 d3] 97)).cell? ⟨wi.heap.size,0,none⟩=some (.int .i64 d1)):=hDD (by simp[go_sem])
   have X1:Hid ((wi.alloc (Obj.cells #[Value.int IntKind.i64 d1,Value.int IntKind.i64 d2,Value.int IntKind.i64 d3] 97)).cell? ⟨wi.heap.size,1,none⟩=some (.int .i64 d2)):=hDD (by simp[go_sem])
   have X2:Hid ((wi.alloc (Obj.cells #[Value.int IntKind.i64 d1,Value.int IntKind.i64 d2,Value.int IntKind.i64 d3] 97)).cell? ⟨wi.heap.size,2,none⟩=some (.int .i64 d3)):=hDD (by simp[go_sem])
   have hsA:(wi.alloc (Obj.cells #[Value.int IntKind.i64 d1,Value.int IntKind.i64 d2,Value.int IntKind.i64 d3] 97)).heap.size=wi.heap.size+1:=by simp
   have HN0:Hid (∀c,u3.ownBlock=some c→c≠wi.heap.size):=hDD fun c hc=>by have:=(HO.out.lt c hc).2;omega
   have hw1:IntKind.i64.wrap ((i:Int)+1)=(i:Int)+1:=by rw[IntKind.wrap_i64];omega
   have hs0:(0:Int)≤(i:Int)+1:=by omega
   have hs1:(i:Int)+1≤(es.length:Int):=by omega
   have hsn:((i:Int)+1).toNat=i+1:=by omega
   have hsc:(es.length:Int)≤(cap:Int):=by omega
   clear bA
   by_cases hcp:cap=i+1
   ·have hlast:es.length=i+1:=by omega
    have HZ:=hDD (show es.length-(i+1)=0 by omega)
    have HFL:Hid (foUp es (i+1)=foUp es i):=hDD (by rw[HFU.out,hlast,foAt_start,List.append_nil])
    have HOI:Hid (OwFo (wi.alloc (Obj.cells #[Value.int IntKind.i64 d1,Value.int IntKind.i64 d2,Value.int IntKind.i64 d3] 97)) (w.heap.size+1) u3 (foUp es i)):=hDD (HO.out.alloc _)
    clear hlast
    go_wp2
    rw[HZ.out]
    go_loopw [3,23] (fun out k wr=>k= .int .i64 0∧OwFo wr (w.heap.size+1) out (foUp es i)∧Below (w.heap.size+1) W wr) (fun _ _ _=>0)
    case atStart=>exact⟨rfl,HOI.out,BA.out⟩
    case round=>
     obtain⟨rfl,ho2,hb2⟩:=hrel
     have HO2:=hDD ho2
     have HB2:=hDD hb2
     clear ho2 hb2
     go_wp2
     go_roundw
     case rel=>exact⟨i+1,by omega,by go_num,by rw[HFL.out];exact HO2.out,HB2.out⟩
     case measure=>simp[intOf];omega
   ·have hlen:es.length-(i+1)+(i+1)=es.length:=by omega
    have HLEN:=hDD hlen
    obtain⟨rem,hrem⟩: ∃r,r=es.length-(i+1):=⟨_,rfl⟩
    have hrl:rem+(i+1)=es.length:=by omega
    have HREM:=hDD hrem
    clear hrem hlen
    go_wp2
    rw[←HREM.out]
    obtain⟨WA,hWA⟩: ∃W,W=(wi.alloc (Obj.cells #[Value.int IntKind.i64 d1,Value.int IntKind.i64 d2,Value.int IntKind.i64 d3] 97)):=⟨_,rfl⟩
    rw[←hWA] at BA HOA X0 X1 X2 q2⊢
    have hsA':WA.heap.size=wi.heap.size+1:=by rw[hWA];exact hsA
    clear hWA a0 a1 a2 hsA q2
    go_loopw [3,23] (fun out k wr=> ∃q:Nat,q≤rem∧k= .int .i64 q∧OwFo wr (w.heap.size+1) out (foUp es i++foAt es i (i+1+q))∧Below (w.heap.size+1) W wr∧wr.cell? ⟨wi.heap.size,0,none⟩=some (.int .i64 d1)∧wr.cell? ⟨wi.heap.size,1,none⟩=some (.int .i64 d2)∧wr.cell? ⟨wi.heap.size,2,none⟩=some (.int .i64 d3)∧(∀c,out.ownBlock=some c→c≠wi.heap.size)∧wi.heap.size<wr.heap.size) (fun _ k _=>rem-(intOf k).toNat)
    case atStart=>exact⟨0,Nat.zero_le _,rfl,HOA.out,BA.out,X0.out,X1.out,X2.out,HN0.out,by omega⟩
    case round=>
     obtain⟨q,hq,rfl,ho2,hb2,x0,x1,x2,hxn,hxr⟩:=hrel
     have HO2:=hDD ho2
     have HB2:=hDD hb2
     have HXN:=hDD hxn
     obtain⟨wj,rfl⟩: ∃wj:World,wj=wr:=⟨_,rfl⟩
     clear ho2 hb2 hxn
     have hbase:=HB2.out.size
     by_cases hlt2:q<rem
     ·have hjl:i+1+q<es.length:=by omega
      obtain⟨b',off',hA,hbj,c0,c1,c2,_⟩:=(HA.out wj HB2.out).at hjl
      injection hA with hA
      injection hA with e1 e2
      subst e1 e2
      have HST:=hDD (foAt_succ es i (i+1+q) hjl (by omega))
      rw[HGI.out] at HST
      have hln:(foUp es i++foAt es i (i+1+q)).length≤1000000:=by
       have h1:=HUL.out i
       have h2:=HAL.out i (i+1+q)
       have h3:2*es.length*i≤240*120:=Nat.mul_le_mul (by omega) (by omega)
       rw[List.length_append]
       omega
      rw[show off+(i+1+q)*3=off+(i+1)*3+q*3 by omega] at c0 c1 c2
      generalize es[i+1+q]=d' at*
      obtain⟨f1,f2,f3⟩:=d'
      simp only at c0 c1 c2
      have hqI:(q:Int)<(rem:Int):=by omega
      generalize foAt es i (i+1+q)=FA at*
      have hxj:wi.heap.size≠wj.heap.size:=by omega
      have bB:Below wj.heap.size wj (wj.alloc (Obj.cells #[Value.int IntKind.i64 f1,Value.int IntKind.i64 f2,Value.int IntKind.i64 f3] 97)):=(Below.refl _ _).alloc (Nat.le_refl _) _
      have HBW:Hid (Below (w.heap.size+1) W (wj.alloc (Obj.cells #[Value.int IntKind.i64 f1,Value.int IntKind.i64 f2,Value.int IntKind.i64 f3] 97))):=hDD (HB2.out.alloc (by omega) _)
      have x0':=(bB.cell (p:=⟨wi.heap.size,0,none⟩) hxr).trans x0
      have x1':=(bB.cell (p:=⟨wi.heap.size,1,none⟩) hxr).trans x1
      have x2':=(bB.cell (p:=⟨wi.heap.size,2,none⟩) hxr).trans x2
      clear bB
      rcases e1:(d2==f2) with _ | _
      ·have HE:Hid (foUp es i++foAt es i (i+1+(q+1))=foUp es i++FA):=hDD (by have hne:d2≠f2:=(by simpa using e1);rw[show i+1+(q+1)=i+1+q+1 by omega,HST.out];simp[fo2,hne])
       have hne: ¬d2=f2:=by simpa using e1
       have hne':(d2 != f2)=true:=by simpa using e1
       go_wp2
       go_roundw
       case rel=>exact⟨q+1,by omega,by go_num,by rw[HE.out];exact HO2.out.alloc _,HBW.out,x0',x1',x2',HXN.out,by simp<;>omega⟩
       case measure=>simp[intOf];omega
      have heq':(d2 != f2)=false:=by simpa using e1
      rcases e2:(d1==f1) with _ | _
      ·rcases e3:(d3==f3) with _ | _
       ·have HE:Hid (foUp es i++foAt es i (i+1+(q+1))=foUp es i++FA):=hDD (by have h1:d2=f2:=(by simpa using e1);have h2: ¬d1=f1:=(by simpa using e2);have h3: ¬d3=f3:=(by simpa using e3);rw[show i+1+(q+1)=i+1+q+1 by omega,HST.out];simp[fo2,h1,h2,h3])
        go_wp2
        go_roundw
        case rel=>exact⟨q+1,by omega,by go_num,by rw[HE.out];exact HO2.out.alloc _,HBW.out,x0',x1',x2',HXN.out,by simp<;>omega⟩
        case measure=>simp[intOf];omega
       ·have HE:Hid (foUp es i++foAt es i (i+1+(q+1))=(foUp es i++FA)++ [(min d1 f1,max d1 f1)]):=hDD (by have h1:d2=f2:=(by simpa using e1);have h2: ¬d1=f1:=(by simpa using e2);have h3:d3=f3:=(by simpa using e3);rw[show i+1+(q+1)=i+1+q+1 by omega,HST.out];simp[fo2,h1,h2,h3])
        go_wp2_with (at_builtin;refine push_fold rfl (.tmp 56) (.tmp 68) rfl (w.heap.size+1) _ _ ((HO2.out.alloc _).alloc _) rfl _ (min d1 f1,max d1 f1) rfl (fo_litN _ _ (by simp) _ _ _) (by omega) (by simp<;>omega) ?_;intro v6 w6 o6 g6 p6;have k0:=(grown_cellF g6 (b:=wi.heap.size) (o:=0) (by simp<;>omega) (fun c hc=>by have h1:=(HO2.out.lt c hc).2;have h2:=HXN.out c hc;omega)).trans (((((Below.refl wj.heap.size wj).alloc (Nat.le_refl _) (Obj.cells #[Value.int IntKind.i64 f1,Value.int IntKind.i64 f2,Value.int IntKind.i64 f3] 97)).alloc (by simp<;>omega) (Obj.cells #[Value.int IntKind.i64 (min d1 f1),Value.int IntKind.i64 (max d1 f1)] 106)).cell (p:=⟨wi.heap.size,0,none⟩) (by show wi.heap.size<_;omega)).trans x0);have k1:=(grown_cellF g6 (b:=wi.heap.size) (o:=1) (by simp<;>omega) (fun c hc=>by have h1:=(HO2.out.lt c hc).2;have h2:=HXN.out c hc;omega)).trans (((((Below.refl wj.heap.size wj).alloc (Nat.le_refl _) (Obj.cells #[Value.int IntKind.i64 f1,Value.int IntKind.i64 f2,Value.int IntKind.i64 f3] 97)).alloc (by simp<;>omega) (Obj.cells #[Value.int IntKind.i64 (min d1 f1),Value.int IntKind.i64 (max d1 f1)] 106)).cell (p:=⟨wi.heap.size,1,none⟩) (by show wi.heap.size<_;omega)).trans x1);have k2:=(grown_cellF g6 (b:=wi.heap.size) (o:=2) (by simp<;>omega) (fun c hc=>by have h1:=(HO2.out.lt c hc).2;have h2:=HXN.out c hc;omega)).trans (((((Below.refl wj.heap.size wj).alloc (Nat.le_refl _) (Obj.cells #[Value.int IntKind.i64 f1,Value.int IntKind.i64 f2,Value.int IntKind.i64 f3] 97)).alloc (by simp<;>omega) (Obj.cells #[Value.int IntKind.i64 (min d1 f1),Value.int IntKind.i64 (max d1 f1)] 106)).cell (p:=⟨wi.heap.size,2,none⟩) (by show wi.heap.size<_;omega)).trans x2);have k3:=(grown_cellF g6 (b:=wj.heap.size) (o:=0) (by simp<;>omega) (fun c hc=>by have h1:=(HO2.out.lt c hc).2;have h2:=HXN.out c hc;omega)).trans ((show((wj.alloc (Obj.cells #[Value.int IntKind.i64 f1,Value.int IntKind.i64 f2,Value.int IntKind.i64 f3] 97)).alloc (Obj.cells #[Value.int IntKind.i64 (min d1 f1),Value.int IntKind.i64 (max d1 f1)] 106)).cell? _=some (.int .i64 f1) by simp[go_sem]));have k4:=(grown_cellF g6 (b:=wj.heap.size) (o:=1) (by simp<;>omega) (fun c hc=>by have h1:=(HO2.out.lt c hc).2;have h2:=HXN.out c hc;omega)).trans ((show((wj.alloc (Obj.cells #[Value.int IntKind.i64 f1,Value.int IntKind.i64 f2,Value.int IntKind.i64 f3] 97)).alloc (Obj.cells #[Value.int IntKind.i64 (min d1 f1),Value.int IntKind.i64 (max d1 f1)] 106)).cell? _=some (.int .i64 f2) by simp[go_sem]));have k5:=(grown_cellF g6 (b:=wj.heap.size) (o:=2) (by simp<;>omega) (fun c hc=>by have h1:=(HO2.out.lt c hc).2;have h2:=HXN.out c hc;omega)).trans ((show((wj.alloc (Obj.cells #[Value.int IntKind.i64 f1,Value.int IntKind.i64 f2,Value.int IntKind.i64 f3] 97)).alloc (Obj.cells #[Value.int IntKind.i64 (min d1 f1),Value.int IntKind.i64 (max d1 f1)] 106)).cell? _=some (.int .i64 f3) by simp[go_sem]));have O6:=hDD o6;have B6:Hid (Below (w.heap.size+1) W w6):=hDD (((HB2.out.alloc (by omega) (Obj.cells #[Value.int IntKind.i64 f1,Value.int IntKind.i64 f2,Value.int IntKind.i64 f3] 97)).alloc (by simp<;>omega) (Obj.cells #[Value.int IntKind.i64 (min d1 f1),Value.int IntKind.i64 (max d1 f1)] 106)).grown g6 (by simp<;>omega) (fun k hk=>(HO2.out.lt k hk).1));have P6:=hDD p6;have hq6:wj.heap.size+2≤w6.heap.size:=(by have:=g6.size;simp at this;omega);clear o6 g6 p6)
        go_roundw
        case rel=>exact⟨q+1,by omega,by go_num,by rw[HE.out];exact O6.out,B6.out,k0,k1,k2,own_ne HXN.out P6.out (by simp<;>omega),by omega⟩
        case measure=>simp[intOf];omega
      ·rcases e3:(d3==f3) with _ | _
       ·have HE:Hid (foUp es i++foAt es i (i+1+(q+1))=(foUp es i++FA)++ [(min d3 f3,max d3 f3)]):=hDD (by have h1:d2=f2:=(by simpa using e1);have h2:d1=f1:=(by simpa using e2);have h3: ¬d3=f3:=(by simpa using e3);rw[show i+1+(q+1)=i+1+q+1 by omega,HST.out];simp[fo2,h1,h2,h3])
        go_wp2_with (at_builtin;refine push_fold rfl (.tmp 37) (.tmp 49) rfl (w.heap.size+1) _ _ ((HO2.out.alloc _).alloc _) rfl _ (min d3 f3,max d3 f3) rfl (fo_litN _ _ (by simp) _ _ _) (by omega) (by simp<;>omega) ?_;intro v5 w5 o5 g5 p5;have k0:=(grown_cellF g5 (b:=wi.heap.size) (o:=0) (by simp<;>omega) (fun c hc=>by have h1:=(HO2.out.lt c hc).2;have h2:=HXN.out c hc;omega)).trans (((((Below.refl wj.heap.size wj).alloc (Nat.le_refl _) (Obj.cells #[Value.int IntKind.i64 f1,Value.int IntKind.i64 f2,Value.int IntKind.i64 f3] 97)).alloc (by simp<;>omega) (Obj.cells #[Value.int IntKind.i64 (min d3 f3),Value.int IntKind.i64 (max d3 f3)] 106)).cell (p:=⟨wi.heap.size,0,none⟩) (by show wi.heap.size<_;omega)).trans x0);have k1:=(grown_cellF g5 (b:=wi.heap.size) (o:=1) (by simp<;>omega) (fun c hc=>by have h1:=(HO2.out.lt c hc).2;have h2:=HXN.out c hc;omega)).trans (((((Below.refl wj.heap.size wj).alloc (Nat.le_refl _) (Obj.cells #[Value.int IntKind.i64 f1,Value.int IntKind.i64 f2,Value.int IntKind.i64 f3] 97)).alloc (by simp<;>omega) (Obj.cells #[Value.int IntKind.i64 (min d3 f3),Value.int IntKind.i64 (max d3 f3)] 106)).cell (p:=⟨wi.heap.size,1,none⟩) (by show wi.heap.size<_;omega)).trans x1);have k2:=(grown_cellF g5 (b:=wi.heap.size) (o:=2) (by simp<;>omega) (fun c hc=>by have h1:=(HO2.out.lt c hc).2;have h2:=HXN.out c hc;omega)).trans (((((Below.refl wj.heap.size wj).alloc (Nat.le_refl _) (Obj.cells #[Value.int IntKind.i64 f1,Value.int IntKind.i64 f2,Value.int IntKind.i64 f3] 97)).alloc (by simp<;>omega) (Obj.cells #[Value.int IntKind.i64 (min d3 f3),Value.int IntKind.i64 (max d3 f3)] 106)).cell (p:=⟨wi.heap.size,2,none⟩) (by show wi.heap.size<_;omega)).trans x2);have k3:=(grown_cellF g5 (b:=wj.heap.size) (o:=0) (by simp<;>omega) (fun c hc=>by have h1:=(HO2.out.lt c hc).2;have h2:=HXN.out c hc;omega)).trans ((show((wj.alloc (Obj.cells #[Value.int IntKind.i64 f1,Value.int IntKind.i64 f2,Value.int IntKind.i64 f3] 97)).alloc (Obj.cells #[Value.int IntKind.i64 (min d3 f3),Value.int IntKind.i64 (max d3 f3)] 106)).cell? _=some (.int .i64 f1) by simp[go_sem]));have k4:=(grown_cellF g5 (b:=wj.heap.size) (o:=1) (by simp<;>omega) (fun c hc=>by have h1:=(HO2.out.lt c hc).2;have h2:=HXN.out c hc;omega)).trans ((show((wj.alloc (Obj.cells #[Value.int IntKind.i64 f1,Value.int IntKind.i64 f2,Value.int IntKind.i64 f3] 97)).alloc (Obj.cells #[Value.int IntKind.i64 (min d3 f3),Value.int IntKind.i64 (max d3 f3)] 106)).cell? _=some (.int .i64 f2) by simp[go_sem]));have k5:=(grown_cellF g5 (b:=wj.heap.size) (o:=2) (by simp<;>omega) (fun c hc=>by have h1:=(HO2.out.lt c hc).2;have h2:=HXN.out c hc;omega)).trans ((show((wj.alloc (Obj.cells #[Value.int IntKind.i64 f1,Value.int IntKind.i64 f2,Value.int IntKind.i64 f3] 97)).alloc (Obj.cells #[Value.int IntKind.i64 (min d3 f3),Value.int IntKind.i64 (max d3 f3)] 106)).cell? _=some (.int .i64 f3) by simp[go_sem]));have O5:=hDD o5;have B5:Hid (Below (w.heap.size+1) W w5):=hDD (((HB2.out.alloc (by omega) (Obj.cells #[Value.int IntKind.i64 f1,Value.int IntKind.i64 f2,Value.int IntKind.i64 f3] 97)).alloc (by simp<;>omega) (Obj.cells #[Value.int IntKind.i64 (min d3 f3),Value.int IntKind.i64 (max d3 f3)] 106)).grown g5 (by simp<;>omega) (fun k hk=>(HO2.out.lt k hk).1));have P5:=hDD p5;have G5:=hDD g5;have hz5:=B5.out.size;have hq5:wj.heap.size+2≤w5.heap.size:=(by have:=G5.out.size;simp at this;omega);clear o5 g5 p5)
        go_roundw
        case rel=>exact⟨q+1,by omega,by go_num,by rw[HE.out];exact O5.out,B5.out,k0,k1,k2,own_ne HXN.out P5.out (by simp<;>omega),by omega⟩
        case measure=>simp[intOf];omega
       ·have HE:Hid (foUp es i++foAt es i (i+1+(q+1))=((foUp es i++FA)++ [(min d3 f3,max d3 f3)])++ [(min d1 f1,max d1 f1)]):=hDD (by have h1:d2=f2:=(by simpa using e1);have h2:d1=f1:=(by simpa using e2);have h3:d3=f3:=(by simpa using e3);rw[show i+1+(q+1)=i+1+q+1 by omega,HST.out];simp[fo2,h1,h2,h3])
        go_wp2_with (first | (at_builtin;refine push_fold rfl (.tmp 37) (.tmp 49) rfl (w.heap.size+1) _ _ ((HO2.out.alloc _).alloc _) rfl _ (min d3 f3,max d3 f3) rfl (fo_litN _ _ (by simp) _ _ _) (by omega) (by simp<;>omega) ?_;intro v5 w5 o5 g5 p5;have k0:=(grown_cellF g5 (b:=wi.heap.size) (o:=0) (by simp<;>omega) (fun c hc=>by have h1:=(HO2.out.lt c hc).2;have h2:=HXN.out c hc;omega)).trans (((((Below.refl wj.heap.size wj).alloc (Nat.le_refl _) (Obj.cells #[Value.int IntKind.i64 f1,Value.int IntKind.i64 f2,Value.int IntKind.i64 f3] 97)).alloc (by simp<;>omega) (Obj.cells #[Value.int IntKind.i64 (min d3 f3),Value.int IntKind.i64 (max d3 f3)] 106)).cell (p:=⟨wi.heap.size,0,none⟩) (by show wi.heap.size<_;omega)).trans x0);have k1:=(grown_cellF g5 (b:=wi.heap.size) (o:=1) (by simp<;>omega) (fun c hc=>by have h1:=(HO2.out.lt c hc).2;have h2:=HXN.out c hc;omega)).trans (((((Below.refl wj.heap.size wj).alloc (Nat.le_refl _) (Obj.cells #[Value.int IntKind.i64 f1,Value.int IntKind.i64 f2,Value.int IntKind.i64 f3] 97)).alloc (by simp<;>omega) (Obj.cells #[Value.int IntKind.i64 (min d3 f3),Value.int IntKind.i64 (max d3 f3)] 106)).cell (p:=⟨wi.heap.size,1,none⟩) (by show wi.heap.size<_;omega)).trans x1);have k2:=(grown_cellF g5 (b:=wi.heap.size) (o:=2) (by simp<;>omega) (fun c hc=>by have h1:=(HO2.out.lt c hc).2;have h2:=HXN.out c hc;omega)).trans (((((Below.refl wj.heap.size wj).alloc (Nat.le_refl _) (Obj.cells #[Value.int IntKind.i64 f1,Value.int IntKind.i64 f2,Value.int IntKind.i64 f3] 97)).alloc (by simp<;>omega) (Obj.cells #[Value.int IntKind.i64 (min d3 f3),Value.int IntKind.i64 (max d3 f3)] 106)).cell (p:=⟨wi.heap.size,2,none⟩) (by show wi.heap.size<_;omega)).trans x2);have k3:=(grown_cellF g5 (b:=wj.heap.size) (o:=0) (by simp<;>omega) (fun c hc=>by have h1:=(HO2.out.lt c hc).2;have h2:=HXN.out c hc;omega)).trans ((show((wj.alloc (Obj.cells #[Value.int IntKind.i64 f1,Value.int IntKind.i64 f2,Value.int IntKind.i64 f3] 97)).alloc (Obj.cells #[Value.int IntKind.i64 (min d3 f3),Value.int IntKind.i64 (max d3 f3)] 106)).cell? _=some (.int .i64 f1) by simp[go_sem]));have k4:=(grown_cellF g5 (b:=wj.heap.size) (o:=1) (by simp<;>omega) (fun c hc=>by have h1:=(HO2.out.lt c hc).2;have h2:=HXN.out c hc;omega)).trans ((show((wj.alloc (Obj.cells #[Value.int IntKind.i64 f1,Value.int IntKind.i64 f2,Value.int IntKind.i64 f3] 97)).alloc (Obj.cells #[Value.int IntKind.i64 (min d3 f3),Value.int IntKind.i64 (max d3 f3)] 106)).cell? _=some (.int .i64 f2) by simp[go_sem]));have k5:=(grown_cellF g5 (b:=wj.heap.size) (o:=2) (by simp<;>omega) (fun c hc=>by have h1:=(HO2.out.lt c hc).2;have h2:=HXN.out c hc;omega)).trans ((show((wj.alloc (Obj.cells #[Value.int IntKind.i64 f1,Value.int IntKind.i64 f2,Value.int IntKind.i64 f3] 97)).alloc (Obj.cells #[Value.int IntKind.i64 (min d3 f3),Value.int IntKind.i64 (max d3 f3)] 106)).cell? _=some (.int .i64 f3) by simp[go_sem]));have O5:=hDD o5;have B5:Hid (Below (w.heap.size+1) W w5):=hDD (((HB2.out.alloc (by omega) (Obj.cells #[Value.int IntKind.i64 f1,Value.int IntKind.i64 f2,Value.int IntKind.i64 f3] 97)).alloc (by simp<;>omega) (Obj.cells #[Value.int IntKind.i64 (min d3 f3),Value.int IntKind.i64 (max d3 f3)] 106)).grown g5 (by simp<;>omega) (fun k hk=>(HO2.out.lt k hk).1));have P5:=hDD p5;have G5:=hDD g5;have hz5:=B5.out.size;have hq5:wj.heap.size+2≤w5.heap.size:=(by have:=G5.out.size;simp at this;omega);clear o5 g5 p5) | (at_builtin;have HXN5:Hid (∀c,v5.ownBlock=some c→c≠wi.heap.size):=(hDD (own_ne HXN.out P5.out (by simp<;>omega)));refine push_fold rfl (.tmp 56) (.tmp 68) rfl (w.heap.size+1) _ _ (O5.out.alloc _) rfl _ (min d1 f1,max d1 f1) rfl (fo_litN _ _ (by simp) _ _ _) (by rw[List.length_append];simp only[List.length_singleton];omega) (by simp<;>omega) ?_;intro v6 w6 o6 g6 p6;have k0':=(grown_cellF g6 (b:=wi.heap.size) (o:=0) (by simp<;>omega) (fun c hc=>HXN5.out c hc)).trans ((((Below.refl w5.heap.size w5).alloc (Nat.le_refl _) (Obj.cells #[Value.int IntKind.i64 (min d1 f1),Value.int IntKind.i64 (max d1 f1)] 106)).cell (p:=⟨wi.heap.size,0,none⟩) (by show wi.heap.size<_;omega)).trans k0);have k1':=(grown_cellF g6 (b:=wi.heap.size) (o:=1) (by simp<;>omega) (fun c hc=>HXN5.out c hc)).trans ((((Below.refl w5.heap.size w5).alloc (Nat.le_refl _) (Obj.cells #[Value.int IntKind.i64 (min d1 f1),Value.int IntKind.i64 (max d1 f1)] 106)).cell (p:=⟨wi.heap.size,1,none⟩) (by show wi.heap.size<_;omega)).trans k1);have k2':=(grown_cellF g6 (b:=wi.heap.size) (o:=2) (by simp<;>omega) (fun c hc=>HXN5.out c hc)).trans ((((Below.refl w5.heap.size w5).alloc (Nat.le_refl _) (Obj.cells #[Value.int IntKind.i64 (min d1 f1),Value.int IntKind.i64 (max d1 f1)] 106)).cell (p:=⟨wi.heap.size,2,none⟩) (by show wi.heap.size<_;omega)).trans k2);have O6:=hDD o6;have B6:Hid (Below (w.heap.size+1) W w6):=hDD ((B5.out.alloc (by omega) (Obj.cells #[Value.int IntKind.i64 (min d1 f1),Value.int IntKind.i64 (max d1 f1)] 106)).grown g6 (by simp<;>omega) (fun k hk=>(O5.out.lt k hk).1));have P6:=hDD p6;have hq6:w5.heap.size+1≤w6.heap.size:=(by have:=g6.size;simp at this;omega);clear o6 g6 p6))
        go_roundw
        case rel=>exact⟨q+1,by omega,by go_num,by rw[HE.out];exact O6.out,B6.out,k0',k1',k2',own_ne HXN5.out P6.out (by simp<;>omega),by omega⟩
        case measure=>simp[intOf];omega
     ·obtain rfl:q=rem:=by omega
      have HE:Hid (foUp es (i+1)=foUp es i++foAt es i (i+1+q)):=hDD (by rw[HFU.out,show i+1+q=es.length by omega])
      clear x0 x1 x2
      go_wp2
      go_roundw
      case rel=>exact⟨i+1,by omega,by go_num,by rw[HE.out];exact HO2.out,HB2.out⟩
      case measure=>simp[intOf];omega
  ·obtain rfl:i=es.length:=by omega
   obtain⟨Ao,co,hov,_⟩:=HO.out.form
   subst hov
   have HOF:=hDD (HO.out.mono (show w.heap.size≤w.heap.size+1 by omega))
   have HBF:Hid (Below w.heap.size w wi):=hDD (BX.out.trans (HB.out.mono (by omega)))
   go_wp2
   go_ret
   exact⟨_,rfl,HOF.out,HBF.out⟩
end Go.Proofs.YtnjpoljbagfdnaaGreat
namespace Go.Proofs.YtnjpoljbagfdnaaGreat
set_option maxRecDepth 20000
set_option linter.unusedVariables false
set_option linter.unusedSimpArgs false
open Go.RowKit
set_option maxHeartbeats 1000000 in
theorem implFirstFold_any (v:Value) (g:GrD) (w:World) (h:ArgG w v g):
  Calls Tryz.prog 242 #[v] w fun e w'=>e= .returned (.tuple #[.agg #[.int .i64 (firF g).1.1, .int .i64 (firF g).1.2], .bool (firF g).2])∧Below w.heap.size w w':=by
 have HG:=hDD h
 obtain⟨s,rfl,hi1,hi2,ha⟩:=h
 obtain⟨A,cap,rfl⟩:=ha.form
 obtain⟨g1,N,es⟩:=g
 simp only at*
 clear ha
 go_enter Tryz.func242,Tryz.ntmps242
 have bx:Below w.heap.size w ((w.alloc (Obj.cells #[Value.int IntKind.i64 g1,Value.int IntKind.i64 N, .slice A es.length cap] 26)).alloc (Obj.cells #[Value.int IntKind.i64 0,Value.int IntKind.i64 0] 106)):=(by repeat(first | exact Below.refl _ _ | (refine Below.setCell ?_ (by first | omega | (simp<;>omega)) _) | (refine bel_drewN ?_ _) | (refine Below.drew ?_) | (refine Below.alloc ?_ (by first | omega | (simp<;>omega)) _)))
 go_wp2_with fail
 obtain⟨W,hW⟩: ∃W,W=(w.alloc (Obj.cells #[Value.int IntKind.i64 g1,Value.int IntKind.i64 N, .slice A es.length cap] 26)).alloc (Obj.cells #[Value.int IntKind.i64 0,Value.int IntKind.i64 0] 106):=⟨_,rfl⟩
 rw[←hW] at bx⊢
 have hsW:W.heap.size=w.heap.size+2:=by rw[hW];simp
 have L0:Hid (W.cell? ⟨w.heap.size,0,none⟩=some (.int .i64 g1)):=hDD (by rw[hW];simp[go_sem])
 have L1:Hid (W.cell? ⟨w.heap.size,1,none⟩=some (.int .i64 N)):=hDD (by rw[hW];simp[go_sem])
 have L2:Hid (W.cell? ⟨w.heap.size,2,none⟩=some (.slice A es.length cap)):=hDD (by rw[hW];simp[go_sem])
 have R0:Hid (W.cell? ⟨w.heap.size+1,0,none⟩=some (.int .i64 0)):=hDD (by rw[hW];simp[go_sem])
 have R1:Hid (W.cell? ⟨w.heap.size+1,1,none⟩=some (.int .i64 0)):=hDD (by rw[hW];simp[go_sem])
 have RF:Hid (∀j,W.frozen? ⟨w.heap.size+1,j,none⟩=false):=hDD fun j=>by rw[hW];simp[go_sem]
 have BX:=hDD bx
 have HA:Hid (∀w',Below W.heap.size W w'→ArgG w' (.agg #[.int .i64 g1, .int .i64 N, .slice A es.length cap]) (g1,N,es)):=hDD fun w' hb=>HG.out.below (BX.out.trans (hb.mono BX.out.size))
 clear hW bx
 refine(implIsGraph_any _ (g1,N,es) W (HA.out _ (Below.refl _ _))).mono ?_
 rintro e w1 ⟨rfl,b1⟩
 have B1:=hDD b1
 have hs1:=b1.size
 have q0:=(b1.cell (p:=⟨w.heap.size,0,none⟩) (by show w.heap.size<_;omega)).trans L0.out
 have q1:=(b1.cell (p:=⟨w.heap.size,1,none⟩) (by show w.heap.size<_;omega)).trans L1.out
 have q2:=(b1.cell (p:=⟨w.heap.size,2,none⟩) (by show w.heap.size<_;omega)).trans L2.out
 have r0:=(b1.cell (p:=⟨w.heap.size+1,0,none⟩) (by show w.heap.size+1<_;omega)).trans R0.out
 have r1:=(b1.cell (p:=⟨w.heap.size+1,1,none⟩) (by show w.heap.size+1<_;omega)).trans R1.out
 have f0:=(b1.frozen (p:=⟨w.heap.size+1,0,none⟩) (by show w.heap.size+1<_;omega)).trans (RF.out 0)
 have f1:=(b1.frozen (p:=⟨w.heap.size+1,1,none⟩) (by show w.heap.size+1<_;omega)).trans (RF.out 1)
 clear b1
 rcases eg:grB (g1,N,es) with _ | _
 ·have F:Hid (firF (g1,N,es)=((0,0),false)):=hDD (by unfold firF;rw[eg];rfl)
  clear eg
  go_wp2
  obtain⟨c0,c1⟩:=cells2 (.int .i64 0) (.int .i64 0) r0 r1
  rw[F.out]
  have HB:Hid (Below w.heap.size w ((w1.setCell ⟨w.heap.size+1,0,none⟩ (.int .i64 0)).setCell ⟨w.heap.size+1,1,none⟩ (.int .i64 0))):=hDD (((BX.out.trans (B1.out.mono BX.out.size)).setCell (by simp) _).setCell (by simp) _)
  exact bodyPost_ret (v:= .tuple #[.agg #[.int .i64 0, .int .i64 0], .bool false]) (by simp[results,Tryz.results242,go_sem,c0,c1]) rfl ⟨rfl,HB.out⟩
 have HGR:=hDD eg
 have h120:=(grB_parts eg).2.2.1
 simp only at h120
 go_wp2_with fail
 refine(implFolds_any _ (g1,N,es) w1 (HA.out _ B1.out) h120).mono ?_
 rintro e w2 ⟨r,rfl,o2,b2⟩
 have O2:=hDD o2
 have B2:=hDD (B1.out.trans (b2.mono hs1))
 have hs2:=b2.size
 have k0:=(b2.cell (p:=⟨w.heap.size+1,0,none⟩) (by show w.heap.size+1<_;omega)).trans r0
 have k1:=(b2.cell (p:=⟨w.heap.size+1,1,none⟩) (by show w.heap.size+1<_;omega)).trans r1
 have j0:=(b2.frozen (p:=⟨w.heap.size+1,0,none⟩) (by show w.heap.size+1<_;omega)).trans f0
 have j1:=(b2.frozen (p:=⟨w.heap.size+1,1,none⟩) (by show w.heap.size+1<_;omega)).trans f1
 obtain⟨A2,c2,rfl,h2,_,_,hg2⟩:=o2.form
 clear o2 b2 q0 q1 q2 r0 r1 f0 f1
 rcases ef:foL es with _ | ⟨f,l⟩
 ·have F:Hid (firF (g1,N,es)=((0,0),false)):=hDD (by unfold firF;rw[if_pos HGR.out];simp only[ef])
  simp only[ef,List.length_nil] at*
  go_wp2
  obtain⟨c0,c1⟩:=cells2 (.int .i64 0) (.int .i64 0) k0 k1
  rw[F.out]
  have HB:Hid (Below w.heap.size w ((w2.setCell ⟨w.heap.size+1,0,none⟩ (.int .i64 0)).setCell ⟨w.heap.size+1,1,none⟩ (.int .i64 0))):=hDD (((BX.out.trans (B2.out.mono BX.out.size)).setCell (by simp) _).setCell (by simp) _)
  exact bodyPost_ret (v:= .tuple #[.agg #[.int .i64 0, .int .i64 0], .bool false]) (by simp[results,Tryz.results242,go_sem,c0,c1]) rfl ⟨rfl,HB.out⟩
 ·have F:Hid (firF (g1,N,es)=(f,true)):=hDD (by unfold firF;rw[if_pos HGR.out];simp only[ef])
  obtain⟨g',rfl,_,_⟩:=hg2 (by simp only[ef];simp)
  have O3:=O2.out
  simp only[ef] at O3
  obtain⟨p0,p1⟩:=O3.head
  have hne: ¬((foL es).length:Int)=0:=by rw[ef];simp;omega
  have hpos:(0:Int)<((foL es).length:Int):=by omega
  have HEF:=hDD ef
  obtain⟨fa,fb⟩:=f
  simp only at p0 p1
  clear ef O3
  generalize (foL es).length=nn at*
  go_wp2
  obtain⟨c0,c1⟩:=cells2 (.int .i64 fa) (.int .i64 fb) k0 k1
  rw[F.out]
  have HB:Hid (Below w.heap.size w ((w2.setCell ⟨w.heap.size+1,0,none⟩ (.int .i64 fa)).setCell ⟨w.heap.size+1,1,none⟩ (.int .i64 fb))):=hDD (((BX.out.trans (B2.out.mono BX.out.size)).setCell (by simp) _).setCell (by simp) _)
  exact bodyPost_ret (v:= .tuple #[.agg #[.int .i64 fa, .int .i64 fb], .bool true]) (by simp[results,Tryz.results242,go_sem,c0,c1]) rfl ⟨rfl,HB.out⟩
theorem place_any (v:Int) (f:FoD) (b:Nat) (w:World) (hv:0≤v∧v≤1000) (h0:w.cell? ⟨b,0,none⟩=some (.int .i64 f.1)) (h1:w.cell? ⟨b,1,none⟩=some (.int .i64 f.2)):
  Calls Tryz.prog 188 #[.int .i64 v, .pointer (some ⟨b,0,none⟩)] w fun e w'=>e= .returned (.int .i64 (plF f v))∧w=w':=by
 obtain⟨a,d⟩:=f
 simp only at h0 h1⊢
 have hw:IntKind.i64.wrap (v-1)=v-1:=by rw[IntKind.wrap_i64];omega
 rcases e1:(v==d) with _ | _
 ·have h1: ¬v=d:=by simpa using e1
  rcases e2:decide (d<v) with _ | _
  ·have h2: ¬d<v:=by simpa using e2
   go_enter Tryz.func188,Tryz.ntmps188
   go_wp2
   go_ret
   exact⟨ret_int (by unfold plF;rw[if_neg h1,if_neg (show ¬d<v by omega)]),rfl⟩
  ·have h2:d<v:=by simpa using e2
   go_enter Tryz.func188,Tryz.ntmps188
   go_wp2
   go_ret
   exact⟨ret_int (by unfold plF;rw[if_neg h1,if_pos h2]),rfl⟩
 ·have h1:v=d:=by simpa using e1
  go_enter Tryz.func188,Tryz.ntmps188
  go_wp2
  go_ret
  exact⟨ret_int (by unfold plF;rw[if_pos h1]),rfl⟩
theorem map_step (es:List EdD) (p:EdD→EdD) (k:Nat) (h:k<es.length):((es.take k).map p++es.drop k).set k (p es[k])=(es.take (k+1)).map p++es.drop (k+1):=by
 have hl:((es.take k).map p).length=k:=by rw[List.length_map,List.length_take];omega
 rw[List.set_append_right _ _ (by omega),hl,Nat.sub_self,List.drop_eq_getElem_cons h,List.set_cons_zero,List.take_succ_eq_append_getElem h,List.map_append]
 simp
set_option maxHeartbeats 2000000 in
theorem implMergeVertices_any (v:Value) (g:GrD) (f:FoD) (w:World) (h:ArgG w v g) (hg:grB g=true) (hf:0≤f.1∧f.1<f.2∧f.2<g.2.1):
  Calls Tryz.prog 122 #[v, .agg #[.int .i64 f.1, .int .i64 f.2]] w fun e w'=> ∃r,e= .returned (.tuple #[r, .bool true])∧OwG w' w.heap.size r (merG g f)∧Below w.heap.size w w':=by
 have HG:=hDD h
 have HGR:=hDD hg
 obtain⟨h13,h40,h120,_⟩:=grB_parts hg
 have HED:=hDD fun e (he:e∈g.2.2)=>edge_of_gr hg he
 obtain⟨s,rfl,hi1,hi2,ha⟩:=h
 obtain⟨A,cap,rfl⟩:=ha.form
 obtain⟨g1,N,es⟩:=g
 obtain⟨fa,fb⟩:=f
 simp only at*
 clear ha hg
 have hN1:IntKind.i64.wrap (N-1)=N-1:=by rw[IntKind.wrap_i64];omega
 have hc1:decide (fa<0)=false:=by simp;omega
 have hc2:decide (fb≤fa)=false:=by simp;omega
 have hc3:decide (N≤fb)=false:=by simp;omega
 have hmf: ∀(fn:Fn) (first cap:Array Value) (w:World),(Instr.makeFunc fn first cap).run Tryz.prog w= .ok (.func fn first cap) w:=fun _ _ _ _=>rfl
 go_enter Tryz.func122,Tryz.ntmps122
 have bx:Below w.heap.size w (((w.alloc (Obj.cells #[Value.int IntKind.i64 g1,Value.int IntKind.i64 N, .slice A es.length cap] 26)).alloc (Obj.cells #[Value.int IntKind.i64 fa,Value.int IntKind.i64 fb] 106)).alloc (Obj.cells #[Value.int IntKind.i64 0,Value.int IntKind.i64 0, .slice none 0 0] 26)):=(by repeat(first | exact Below.refl _ _ | (refine Below.setCell ?_ (by first | omega | (simp<;>omega)) _) | (refine bel_drewN ?_ _) | (refine Below.drew ?_) | (refine Below.alloc ?_ (by first | omega | (simp<;>omega)) _)))
 go_wp2_with fail
 obtain⟨W,hW⟩: ∃W,W=(((w.alloc (Obj.cells #[Value.int IntKind.i64 g1,Value.int IntKind.i64 N, .slice A es.length cap] 26)).alloc (Obj.cells #[Value.int IntKind.i64 fa,Value.int IntKind.i64 fb] 106)).alloc (Obj.cells #[Value.int IntKind.i64 0,Value.int IntKind.i64 0, .slice none 0 0] 26)):=⟨_,rfl⟩
 rw[←hW] at bx⊢
 have hsW:W.heap.size=w.heap.size+3:=by rw[hW];simp
 have L0:Hid (W.cell? ⟨w.heap.size,0,none⟩=some (.int .i64 g1)):=hDD (by rw[hW];simp[go_sem])
 have L1:Hid (W.cell? ⟨w.heap.size,1,none⟩=some (.int .i64 N)):=hDD (by rw[hW];simp[go_sem])
 have L2:Hid (W.cell? ⟨w.heap.size,2,none⟩=some (.slice A es.length cap)):=hDD (by rw[hW];simp[go_sem])
 have M0:Hid (W.cell? ⟨w.heap.size+1,0,none⟩=some (.int .i64 fa)):=hDD (by rw[hW];simp[go_sem])
 have M1:Hid (W.cell? ⟨w.heap.size+1,1,none⟩=some (.int .i64 fb)):=hDD (by rw[hW];simp[go_sem])
 have R0:Hid (W.cell? ⟨w.heap.size+1+1,0,none⟩=some (.int .i64 0)):=hDD (by rw[hW];simp[go_sem])
 have R1:Hid (W.cell? ⟨w.heap.size+1+1,1,none⟩=some (.int .i64 0)):=hDD (by rw[hW];simp[go_sem])
 have R2:Hid (W.cell? ⟨w.heap.size+1+1,2,none⟩=some (.slice none 0 0)):=hDD (by rw[hW];simp[go_sem])
 have RF:Hid (∀j,W.frozen? ⟨w.heap.size+1+1,j,none⟩=false):=hDD fun j=>by rw[hW];simp[go_sem]
 have BX:=hDD bx
 have HA:Hid (∀w',Below W.heap.size W w'→ArgG w' (.agg #[.int .i64 g1, .int .i64 N, .slice A es.length cap]) (g1,N,es)):=hDD fun w' hb=>HG.out.below (BX.out.trans (hb.mono BX.out.size))
 clear hW bx
 refine(copyGraph_any _ (g1,N,es) W (HA.out _ (Below.refl _ _)) (by simp only;omega)).mono ?_
 rintro e w1 ⟨r,rfl,o1,b1⟩
 have B1:=hDD b1
 have hs1:=b1.size
 obtain⟨s1,rfl,_,_,oe1⟩:=o1
 obtain⟨A1,c1,rfl,hc1n,hc1m,hA1,_⟩:=oe1.form
 simp only at*
 have OE1:=hDD oe1
 clear b1 oe1
 have bX:Below w1.heap.size w1 (w1.alloc (Obj.cells #[Value.int IntKind.i64 g1,Value.int IntKind.i64 N, .slice A1 es.length c1] 26)):=(Below.refl _ _).alloc (Nat.le_refl _) _
 have BA:=hDD (B1.out.trans (bX.mono hs1))
 have HCW:Hid (∀w',Below W.heap.size W w'→w'.cell? ⟨w.heap.size,0,none⟩=some (.int .i64 g1)∧w'.cell? ⟨w.heap.size,1,none⟩=some (.int .i64 N)∧w'.cell? ⟨w.heap.size,2,none⟩=some (.slice A es.length cap)∧w'.cell? ⟨w.heap.size+1,0,none⟩=some (.int .i64 fa)∧w'.cell? ⟨w.heap.size+1,1,none⟩=some (.int .i64 fb)):=hDD fun w' hb2=>
  ⟨(hb2.cell (p:=⟨w.heap.size,0,none⟩) (by show w.heap.size<_;omega)).trans L0.out,(hb2.cell (p:=⟨w.heap.size,1,none⟩) (by show w.heap.size<_;omega)).trans L1.out,(hb2.cell (p:=⟨w.heap.size,2,none⟩) (by show w.heap.size<_;omega)).trans L2.out,(hb2.cell (p:=⟨w.heap.size+1,0,none⟩) (by show w.heap.size+1<_;omega)).trans M0.out,(hb2.cell (p:=⟨w.heap.size+1,1,none⟩) (by show w.heap.size+1<_;omega)).trans M1.out⟩
 obtain⟨q0,q1,q2,q3,q4⟩:=HCW.out _ BA.out
 go_wp2_with fail
 obtain⟨W2,hW2⟩: ∃W,W=w1.alloc (Obj.cells #[Value.int IntKind.i64 g1,Value.int IntKind.i64 N, .slice A1 es.length c1] 26):=⟨_,rfl⟩
 have X0:Hid (W2.cell? ⟨w1.heap.size,0,none⟩=some (.int .i64 g1)):=hDD (by rw[hW2];simp[go_sem])
 have X1:Hid (W2.cell? ⟨w1.heap.size,1,none⟩=some (.int .i64 N)):=hDD (by rw[hW2];simp[go_sem])
 have X2:Hid (W2.cell? ⟨w1.heap.size,2,none⟩=some (.slice A1 es.length c1)):=hDD (by rw[hW2];simp[go_sem])
 have XF:Hid (∀j,W2.frozen? ⟨w1.heap.size,j,none⟩=false):=hDD fun j=>by rw[hW2];simp[go_sem]
 have hsW2:W2.heap.size=w1.heap.size+1:=by rw[hW2];simp
 rw[←hW2] at bX BA⊢
 clear hW2 q0 q1 q2 q3 q4
 have hgi:=implIsGraph_any _ (g1,N,es) W2 (HA.out _ BA.out)
 rw[HGR.out] at hgi
 refine hgi.mono ?_
 rintro e w3 ⟨rfl,b3⟩
 have hs3:=b3.size
 have B3:=hDD (BA.out.trans (b3.mono BA.out.size))
 obtain⟨q0,q1,q2,q3,q4⟩:=HCW.out _ B3.out
 have x0:=(b3.cell (p:=⟨w1.heap.size,0,none⟩) (by show w1.heap.size<_;omega)).trans X0.out
 have x1:=(b3.cell (p:=⟨w1.heap.size,1,none⟩) (by show w1.heap.size<_;omega)).trans X1.out
 have x2:=(b3.cell (p:=⟨w1.heap.size,2,none⟩) (by show w1.heap.size<_;omega)).trans X2.out
 have XF3:Hid (∀j,w3.frozen? ⟨w1.heap.size,j,none⟩=false):=hDD fun j=>(b3.frozen (p:=⟨w1.heap.size,j,none⟩) (by show w1.heap.size<_;omega)).trans (XF.out j)
 have OE3:=hDD ((OE1.out.below bX).below b3)
 clear b3 hgi bX
 have XX0:=hDD x0
 have XX1:=hDD x1
 have XX2:=hDD x2
 have HOB:Hid (∀b,(Value.slice A1 es.length c1).ownBlock=some b→W.heap.size≤b∧b<w1.heap.size):=hDD fun b hb=>OE1.out.1.lt b hb
 go_wp2
 have hne0: ∀b,(Value.slice A1 es.length c1).ownBlock=some b→b<w3.heap.size∧b≠w1.heap.size:=fun b hb=>by have:=HOB.out b hb;omega
 have HNE:=hDD hne0
 clear hne0 q0 q1 q2 q3 q4 x0 x1 x2
 go_loopw [39] (fun i wr=> ∃k:Nat,k≤es.length∧i= .int .i64 k∧OwE wr W.heap.size (.slice A1 es.length c1) ((es.take k).map (plE (fa,fb))++es.drop k)∧w3.grownBy wr (Value.slice A1 es.length c1).ownBlock) (fun i _=>es.length-(intOf i).toNat)
 case atStart=>exact⟨0,Nat.zero_le _,rfl,OE3.out,World.grownBy.refl _ _⟩
 case round=>
  obtain⟨k,hk,rfl,how,hgr⟩:=hrel
  have HOW:=hDD how
  have HGW:=hDD hgr
  obtain⟨wk,rfl⟩: ∃wk:World,wk=wr:=⟨_,rfl⟩
  have hsk:=hgr.size
  clear how hgr
  have HCK:Hid (∀b o,b<w3.heap.size→(∀c,(Value.slice A1 es.length c1).ownBlock=some c→c≠b)→wk.cell? ⟨b,o,none⟩=w3.cell? ⟨b,o,none⟩):=hDD fun b o hb hne=>grown_cellF HGW.out hb hne
  obtain⟨q0,q1,q2,q3,q4⟩:=HCW.out _ B3.out
  have hWs: ∀b,b<W.heap.size→ ∀c,(Value.slice A1 es.length c1).ownBlock=some c→c≠b:=fun b hb c hc=>by have:=(HOB.out c hc).1;omega
  have y3:=(HCK.out (w.heap.size+1) 0 (by omega) (hWs _ (by omega))).trans q3
  have y4:=(HCK.out (w.heap.size+1) 1 (by omega) (hWs _ (by omega))).trans q4
  have yx:=(HCK.out w1.heap.size 2 (by omega) (fun c hc=>(HNE.out c hc).2)).trans XX2.out
  clear q0 q1 q2 q3 q4 hWs hmf
  by_cases hlt:k<es.length
  ·have hlen:((es.take k).map (plE (fa,fb))++es.drop k).length=es.length:=by rw[List.length_append,List.length_map,List.length_take,List.length_drop];omega
   obtain⟨_,_,hv,_,_,_,hgl⟩:=HOW.out.form
   injection hv with hv1 hv2 hv3
   clear hv2 hv3
   obtain⟨gl,hA,_,hglt⟩:=hgl (by omega)
   rw[←hv1] at hA
   subst hA
   obtain⟨c0,c1',c2⟩:=HOW.out.cellAt k (by omega)
   have hgk:((es.take k).map (plE (fa,fb))++es.drop k)[k]'(by omega)=es[k]:=by
    rw[List.getElem_append_right (by rw[List.length_map,List.length_take];omega)]
    simp only[List.length_map,List.length_take,List.getElem_drop]
    congr 1
    omega
   rw[hgk] at c0 c1' c2
   have hed:=HED.out es[k] (List.getElem_mem hlt)
   have HST:Hid (((es.take k).map (plE (fa,fb))++es.drop k).set k (plE (fa,fb) es[k])=(es.take (k+1)).map (plE (fa,fb))++es.drop (k+1)):=hDD (map_step es (plE (fa,fb)) k hlt)
   have HFR:=hDD HOW.out.free
   have hkI:(k:Int)<(es.length:Int):=by omega
   have HPE:Hid (plE (fa,fb) es[k]=(plF (fa,fb) es[k].1,es[k].2.1,plF (fa,fb) es[k].2.2)):=hDD rfl
   have HP1:=hDD (plF_range (f:=(fa,fb)) (n:=N) (v:=es[k].1) hf hed.1)
   have HP2:=hDD (plF_range (f:=(fa,fb)) (n:=N) (v:=es[k].2.2) hf hed.2.2)
   have HLN:=hDD hlen
   clear hgk hlen hv1 hgl
   generalize es[k]=d at*
   obtain⟨a,l,c⟩:=d
   simp only at c0 c1' c2 hed
   have bE:Below wk.heap.size wk (wk.alloc (Obj.cells #[Value.int IntKind.i64 a,Value.int IntKind.i64 l,Value.int IntKind.i64 c] 97)):=(Below.refl _ _).alloc (Nat.le_refl _) _
   go_wp2_with fail
   obtain⟨WE,hWE⟩: ∃W,W=wk.alloc (Obj.cells #[Value.int IntKind.i64 a,Value.int IntKind.i64 l,Value.int IntKind.i64 c] 97):=⟨_,rfl⟩
   have l0:WE.cell? ⟨wk.heap.size,0,none⟩=some (.int .i64 a):=by rw[hWE];simp[go_sem]
   have l1:WE.cell? ⟨wk.heap.size,1,none⟩=some (.int .i64 l):=by rw[hWE];simp[go_sem]
   have l2:WE.cell? ⟨wk.heap.size,2,none⟩=some (.int .i64 c):=by rw[hWE];simp[go_sem]
   have hsE:WE.heap.size=wk.heap.size+1:=by rw[hWE];simp
   rw[←hWE] at bE⊢
   clear hWE
   have z3:=(bE.cell (p:=⟨w.heap.size+1,0,none⟩) (by show w.heap.size+1<_;omega)).trans y3
   have z4:=(bE.cell (p:=⟨w.heap.size+1,1,none⟩) (by show w.heap.size+1<_;omega)).trans y4
   have zx:=(bE.cell (p:=⟨w1.heap.size,2,none⟩) (by show w1.heap.size<_;omega)).trans yx
   have zc0:=(bE.cell (p:=⟨gl,k*3,none⟩) hglt).trans c0
   have zc1:=(bE.cell (p:=⟨gl,k*3+1,none⟩) hglt).trans c1'
   have zc2:=(bE.cell (p:=⟨gl,k*3+2,none⟩) hglt).trans c2
   have BE:=hDD bE
   clear bE y3 y4 yx c0 c1' c2
   have f0:=BelW.cell l0 (by omega)
   have f1:=BelW.cell l1 (by omega)
   have f2:=BelW.cell l2 (by omega)
   have f3:=BelW.cell z3 (by omega)
   have f4:=BelW.cell z4 (by omega)
   have f5:=BelW.cell zx (by omega)
   have HN:Hid (∀x:Int,0≤x∧x≤1000→ ∀p:BelW WE,Calls Tryz.prog 188 #[.int .i64 x, .pointer (some ⟨w.heap.size+1,0,none⟩)] p.W fun e w'=>e= .returned (.int .i64 (plF (fa,fb) x))∧p.W=w'):=hDD fun x hx p=>place_any x (fa,fb) (w.heap.size+1) p.W hx (f3 p) (f4 p)
   have hda:0≤a∧a≤1000:=by omega
   have hdc:0≤c∧c≤1000:=by omega
   (refine wp_region_quiet_last 15 (by kernel_rfl) (by rfl) (by kernel_rfl) (by kernel_rfl) ?_;dsimp only[dumL,lastL];(repeat(go_big_quiet_step ((go_at_call 188;exact Calls.bel_same (HN.out _ (by assumption) _)))));refine wpQuiet_nil ?_;intro wq hw';obtain⟨pq,hw''⟩:=hw';have bq:=pq.h;rw[←hw''] at bq;clear hw'' pq)
   clear f0 f1 f2 f3 f4 f5
   have v0:=(bq.cell (p:=⟨gl,k*3,none⟩) (by show gl<_;omega)).trans zc0
   have v1:=(bq.cell (p:=⟨gl,k*3+1,none⟩) (by show gl<_;omega)).trans zc1
   have v2:=(bq.cell (p:=⟨gl,k*3+2,none⟩) (by show gl<_;omega)).trans zc2
   have HFQ:Hid (∀j,wq.frozen? ⟨gl,j,none⟩=false):=hDD fun j=>(bq.frozen (p:=⟨gl,j,none⟩) (by show gl<_;omega)).trans ((BE.out.frozen (p:=⟨gl,j,none⟩) hglt).trans (HFR.out j))
   have g0:=HFQ.out (k*3)
   have g1':=HFQ.out (k*3+1)
   have g2:=HFQ.out (k*3+2)
   have hp1:=HP1.out
   have hp2:=HP2.out
   have HSET:=hDD (((HOW.out.below BE.out).below bq).set k (by rw[HLN.out];exact hlt) (x:=plF (fa,fb) a) (y:=l) (z:=plF (fa,fb) c) ⟨by omega,by omega⟩ ⟨by omega,by omega⟩ ⟨by omega,by omega⟩)
   have BQ:=hDD (BE.out.trans (bq.mono (by omega)))
   clear hp1 hp2 bq zc0 zc1 zc2 z3 z4 zx l0 l1 l2
   go_wp2
   go_roundw
   case rel=>exact⟨k+1,by omega,by go_num,by rw[←HST.out,HPE.out];exact HSET.out.1,(HGW.out.trans (grown_bel BQ.out)).trans HSET.out.2⟩
   case measure=>simp[intOf];omega
  ·obtain rfl:k=es.length:=by omega
   have HML:Hid ((es.take es.length).map (plE (fa,fb))++es.drop es.length=es.map (plE (fa,fb))):=hDD (by rw[List.take_length,List.drop_length,List.append_nil])
   rw[HML.out] at HOW
   have HARG:=hDD HOW.out.arg
   have y0:=(HCK.out w1.heap.size 0 (by omega) (fun c hc=>(HNE.out c hc).2)).trans XX0.out
   have y1:=(HCK.out w1.heap.size 1 (by omega) (fun c hc=>(HNE.out c hc).2)).trans XX1.out
   have YF:Hid (∀j,wk.frozen? ⟨w1.heap.size,j,none⟩=false):=hDD fun j=>(World.frozen?_of_block (HGW.out.block w1.heap.size (by omega) fun e=>(HNE.out _ e.symm).2 rfl)).trans (XF3.out j)
   have HRC:Hid (∀b o,b<W.heap.size→wk.cell? ⟨b,o,none⟩=w3.cell? ⟨b,o,none⟩∧wk.frozen? ⟨b,o,none⟩=w3.frozen? ⟨b,o,none⟩):=hDD fun b o hb=>⟨HCK.out b o (by omega) (fun c hc=>by have:=(HOB.out c hc).1;omega),World.frozen?_of_block (HGW.out.block b (by omega) fun e=>by have:=(HOB.out _ e.symm).1;omega)⟩
   have BWK:Hid (Below W.heap.size W wk):=hDD (B3.out.grown HGW.out B3.out.size (fun c hc=>(HOB.out c hc).1))
   clear y3 y4
   go_wp2_with fail
   refine(sortedD_any _ (es.map (plE (fa,fb))) wk HARG.out (by rw[List.length_map];omega)).mono ?_
   rintro e w8 ⟨r8,rfl,o8,b8⟩
   have hs8:=b8.size
   have HMG:Hid (merG (g1,N,es) (fa,fb)=(g1,N-1,srt cmpE (es.map (plE (fa,fb))))):=hDD rfl
   generalize srt cmpE (es.map (plE (fa,fb)))=L at*
   obtain⟨A8,c8,rfl,_⟩:=o8.form
   have O8:=hDD o8
   have B8:=hDD (BWK.out.trans (b8.mono (by omega)))
   have x0:=(b8.cell (p:=⟨w1.heap.size,0,none⟩) (by show w1.heap.size<_;omega)).trans y0
   have x1:=(b8.cell (p:=⟨w1.heap.size,1,none⟩) (by show w1.heap.size<_;omega)).trans y1
   have x2:=(b8.cell (p:=⟨w1.heap.size,2,none⟩) (by show w1.heap.size<_;omega)).trans yx
   have X8:Hid (∀j,w8.frozen? ⟨w1.heap.size,j,none⟩=false):=hDD fun j=>(b8.frozen (p:=⟨w1.heap.size,j,none⟩) (by show w1.heap.size<_;omega)).trans (YF.out j)
   have xf1:=X8.out 1
   have xf2:=X8.out 2
   have r0:=(B8.out.cell (p:=⟨w.heap.size+1+1,0,none⟩) (by show w.heap.size+1+1<_;omega)).trans R0.out
   have r1:=(B8.out.cell (p:=⟨w.heap.size+1+1,1,none⟩) (by show w.heap.size+1+1<_;omega)).trans R1.out
   have r2:=(B8.out.cell (p:=⟨w.heap.size+1+1,2,none⟩) (by show w.heap.size+1+1<_;omega)).trans R2.out
   have rf0:=(B8.out.frozen (p:=⟨w.heap.size+1+1,0,none⟩) (by show w.heap.size+1+1<_;omega)).trans (RF.out 0)
   have rf1:=(B8.out.frozen (p:=⟨w.heap.size+1+1,1,none⟩) (by show w.heap.size+1+1<_;omega)).trans (RF.out 1)
   have rf2:=(B8.out.frozen (p:=⟨w.heap.size+1+1,2,none⟩) (by show w.heap.size+1+1<_;omega)).trans (RF.out 2)
   have hRx:w.heap.size+1+1≠w1.heap.size:=by omega
   have HBF:=hDD (BX.out.trans (B8.out.mono BX.out.size))
   clear b8 o8 y0 y1 yx
   go_wp2
   have p0:=setc_other (b':=w1.heap.size) (o':=1) (u:= .int .i64 (N-1)) hRx (setc_other (b':=w1.heap.size) (o':=2) (u:= .slice A8 L.length c8) hRx r0)
   have p1:=setc_other (b':=w1.heap.size) (o':=1) (u:= .int .i64 (N-1)) hRx (setc_other (b':=w1.heap.size) (o':=2) (u:= .slice A8 L.length c8) hRx r1)
   have p2:=setc_other (b':=w1.heap.size) (o':=1) (u:= .int .i64 (N-1)) hRx (setc_other (b':=w1.heap.size) (o':=2) (u:= .slice A8 L.length c8) hRx r2)
   obtain⟨e0,e1,e2⟩:=cells3F (.int .i64 g1) (.int .i64 (N-1)) (.slice A8 L.length c8) p0 p1 p2
   have bw:Below w.heap.size w (((((w8.setCell ⟨w1.heap.size,2,none⟩ (.slice A8 L.length c8)).setCell ⟨w1.heap.size,1,none⟩ (.int .i64 (N-1))).setCell ⟨w.heap.size+1+1,0,none⟩ (.int .i64 g1)).setCell ⟨w.heap.size+1+1,1,none⟩ (.int .i64 (N-1))).setCell ⟨w.heap.size+1+1,2,none⟩ (.slice A8 L.length c8)):=(((((HBF.out.setCell (by simp<;>omega) _).setCell (by simp<;>omega) _).setCell (by simp<;>omega) _).setCell (by simp<;>omega) _).setCell (by simp<;>omega) _)
   have ow:OwE (((((w8.setCell ⟨w1.heap.size,2,none⟩ (.slice A8 L.length c8)).setCell ⟨w1.heap.size,1,none⟩ (.int .i64 (N-1))).setCell ⟨w.heap.size+1+1,0,none⟩ (.int .i64 g1)).setCell ⟨w.heap.size+1+1,1,none⟩ (.int .i64 (N-1))).setCell ⟨w.heap.size+1+1,2,none⟩ (.slice A8 L.length c8)) w.heap.size (.slice A8 L.length c8) L:=OwE.mono (((((O8.out.far (by show w1.heap.size<_;omega) _).far (by show w1.heap.size<_;omega) _).far (by show w.heap.size+1+1<_;omega) _).far (by show w.heap.size+1+1<_;omega) _).far (by show w.heap.size+1+1<_;omega) _) (by omega)
   generalize (((((w8.setCell ⟨w1.heap.size,2,none⟩ (.slice A8 L.length c8)).setCell ⟨w1.heap.size,1,none⟩ (.int .i64 (N-1))).setCell ⟨w.heap.size+1+1,0,none⟩ (.int .i64 g1)).setCell ⟨w.heap.size+1+1,1,none⟩ (.int .i64 (N-1))).setCell ⟨w.heap.size+1+1,2,none⟩ (.slice A8 L.length c8))=wf at*
   rw[HMG.out]
   exact bodyPost_ret (v:= .tuple #[.agg #[.int .i64 g1, .int .i64 (N-1), .slice A8 L.length c8], .bool true]) (by simp[results,Tryz.results122,go_sem,e0,e1,e2]) rfl ⟨_,rfl,⟨.slice A8 L.length c8,rfl,(by show I64 g1;unfold I64;omega),(by show I64 (N-1);unfold I64;omega),ow⟩,bw⟩
end Go.Proofs.YtnjpoljbagfdnaaGreat
