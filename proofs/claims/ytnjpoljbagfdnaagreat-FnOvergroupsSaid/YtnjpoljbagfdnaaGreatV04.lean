/- Parts of the proof: Part, Trim, TwP, FoldP. -/
import Derived.Test.YtnjpoljbagfdnaaGreatV01
import Derived.OrdersHeld
import Derived.Deep.RegionHeld3
import Derived.Test.YtnjpoljbagfdnaaGreatV03
import Derived.Test.YtnjpoljbagfdnaaGreatV02
namespace Go.Proofs.YtnjpoljbagfdnaaGreat
set_option maxRecDepth 20000
set_option linter.unusedVariables false
set_option linter.unusedSimpArgs false
open Go.RowKit
section
variable {P:Program} {ops:Array Oper} {Q:Exit→Act→World→Prop} {S:World→Prop} {n:Nat}
def wpAnyT (P:Program) (ops:Array Oper) (Q:Exit→Act→World→Prop) (S:World→Prop) (n:Nat):Nat→Array Bool→Act→World→Prop
 | 0,listed,a,w=>Region.ready .any ops listed= []∧Q .normal a w
 | f+1,listed,a,w=>(Region.ready .any ops listed= []→Q .normal a w)∧
   ∀i,i∈Region.ready .any ops listed→wpOp P ops Q i (fun a' w'=>(i≠n→S w')∧wpAnyT P ops Q S n f (listed.setIfInBounds i true) a' w') a w
theorem wpAny_of_T: ∀(f:Nat) (listed:Array Bool) (a:Act) (w:World),wpAnyT P ops Q S n f listed a w→wpAny P .any ops Q f listed a w:=by
 intro f
 induction f with
 | zero=>intro listed a w h;exact h
 | succ f ih=>intro listed a w h;exact⟨h.1,fun i hi=>wpOp_mono (fun a' w' hk=>ih _ a' w' hk.2) (h.2 i hi)⟩
theorem wpAnyT_first {st:Oper} (hok:LastOk ops ops n st st) {i:Nat} {oi:Oper} {v:Value} (hi:ops[i]? =some oi) (hin:i<n) (hsel:Region.noSelect ops=true)
  (hQ: ∀c a w,Q (.panic c) (a.put oi.dst v) w→Q (.panic c) a w):
  ∀(f:Nat) (listed:Array Bool) (a:Act) (w:World),Cl ops listed→
   (∀j oj,ops[j]? =some oj→j≠i→listed.getD j true=false→(∀e∈oj.after,Region.binds .any e=true→e.on≠i)→oi.apart ops oj=true)→
   i∈Region.ready .any ops listed→YieldsIf P ops S oi v a→S w→
   wpAnyT P ops Q S n f (listed.setIfInBounds i true) (a.put oi.dst v) w→wpAnyT P ops Q S n (f+1) listed a w:=by
 have hs:=Region.noSelect_spec hsel
 intro f
 induction f with
 | zero=>
   intro listed a w _ _ hr hy hS H
   refine⟨fun h0=>(by rw[h0] at hr;cases hr),fun j hj=> ?_⟩
   by_cases e:j=i
   ·subst e
    exact hy.wpOp hi hS ⟨fun _=>hS,H⟩
   ·have:=ready_mono hj e
    rw[H.1] at this
    cases this
 | succ f ih=>
   intro listed a w hc hfree hr hy hS H
   refine⟨fun h0=>(by rw[h0] at hr;cases hr),fun j hj=> ?_⟩
   by_cases e:j=i
   ·subst e
    exact hy.wpOp hi hS ⟨fun _=>hS,H⟩
   ·have hiu:=(mem_ready.1 hr).1
    have hsz:listed.size=n+1:=hc.1.trans hok.size
    have hjn:j≠n:=fun e'=>by
     subst e'
     have:=hok.all hc hj _ i rfl hin
     rw[getD_tf (by omega),this] at hiu
     cases hiu
    have h1:=H.2 j (ready_mono hj e)
    obtain⟨hju,oj,hoj,hall⟩:=mem_ready.1 hj
    have hno: ∀e∈oj.after,Region.binds .any e=true→e.on≠i:=fun e he hb h=>by
     have h2:=hall e he hb
     rw[h] at h2
     rw[getD_tf (by omega),h2] at hiu
     cases hiu
    have h2:=wpOp_putIf hoj (hfree j oj hoj e hju hno) (fun cs b=>hs i oi cs b hi) (fun cs b=>hs j oj cs b hoj) hQ hy h1
    refine wpOp_mono (fun a' w' hk=> ?_) h2
    obtain⟨hy',hS',hk⟩:=hk
    refine⟨fun _=>hS' hjn,ih _ a' w' (hc.set hj) (fun k ok hk' hki hun hno'=> ?_) (ready_mono hr (Ne.symm e)) hy' (hS' hjn) ?_⟩
    ·refine hfree k ok hk' hki ?_ hno'
     by_cases hjk:j=k
     ·subst hjk;exact hju
     ·rwa [getD_set_ne true hjk] at hun
    ·rw[Array.setIfInBounds_comm _ _ e]
     exact hk
def clB (ops:Array Oper) (listed:Array Bool):Bool:=
 decide (listed.size=ops.size)&&(List.range ops.size).all fun j=> !listed.getD j false||match ops[j]? with
  | some o=>o.after.all fun e=> !Region.binds .any e||listed.getD e.on false
  | none=>true
theorem cl_of {listed:Array Bool} (h:clB ops listed=true):Cl ops listed:=by
 unfold clB at h
 simp only[Bool.and_eq_true,decide_eq_true_eq,List.all_eq_true,List.mem_range,Bool.or_eq_true,Bool.not_eq_true'] at h
 refine⟨h.1,fun j o ho hl e he hb=> ?_⟩
 have hj:=(Array.getElem?_eq_some_iff.1 ho).1
 rcases h.2 j hj with h1 | h1
 ·rw[hl] at h1;cases h1
 ·rw[ho] at h1
  have:=Array.all_eq_true_iff_forall_mem.1 h1 e he
  rw[hb] at this
  simpa using this
theorem wpAnyT_take {l:List Oper} {i f:Nat} {oi:Oper} {v:Value} {listed:Array Bool} {a:Act} {w:World} (hl:l.length=n+1) (hL:lastB l.toArray n=true)
  (hi:l.toArray[i]? =some oi) (hin:i<n) (hs:Region.noSelect l.toArray=true) (hc:clB l.toArray listed=true) (hf:Region.free .any l.toArray listed i=true) (hr:(Region.ready .any l.toArray listed).contains i=true)
  (hQ: ∀c a w,Q (.panic c) (a.put oi.dst v) w→Q (.panic c) a w) (hy:YieldsIf P l.toArray S oi v a) (hS:S w)
  (h:wpAnyT P l.toArray Q S n f (listed.setIfInBounds i true) (a.put oi.dst v) w):wpAnyT P l.toArray Q S n (f+1) listed a w:=by
 obtain⟨st,_,hok⟩:=lastOk_of hl hL
 have hok2:LastOk l.toArray l.toArray n st st:=⟨hok.size,hok.size,fun _ _=>⟨rfl,rfl⟩,hok.hst,hok.hst,rfl,hok.dst,hok.dst,hok.guard,hok.guard,hok.back,hok.chain⟩
 exact wpAnyT_first hok2 hi hin hs hQ f listed a w (cl_of hc) (Region.free_spec hi hf) (by simpa using hr) hy hS h
theorem wpAnyT_one {i f:Nat} {listed:Array Bool} {a:Act} {w:World} (hr:Region.ready .any ops listed= [i])
  (h:wpOp P ops Q i (fun a' w'=>(i≠n→S w')∧wpAnyT P ops Q S n f (listed.setIfInBounds i true) a' w') a w):wpAnyT P ops Q S n (f+1) listed a w:=by
 refine⟨fun h0=>(by rw[hr] at h0;cases h0),fun j hj=> ?_⟩
 rw[hr,List.mem_singleton] at hj
 subst hj
 exact h
theorem wpAnyT_done {listed:Array Bool} {a:Act} {w:World} (hr:Region.ready .any ops listed= []) (h:Q .normal a w): ∀f,wpAnyT P ops Q S n f listed a w
 | 0=>⟨hr,h⟩
 | _+1=>⟨fun _=>h,fun i hi=>by rw[hr] at hi;cases hi⟩
theorem wp_region_T {id:Nat} {a:Act} {w:World} (hm:P.follows .mixedOrders=true) (h:wpAnyT P ops Q S n ops.size (Array.replicate ops.size false) a w.drew):(Code.region id ops true).wp P Q a w:=
 wp_region_any hm (wpAny_of_T _ _ _ _ h)
end
section
variable {P:Program} {ops:Array Oper} {Q:Exit→Act→World→Prop} {S:World→Prop} {n:Nat}
theorem wpAnyT_step {i f:Nat} {o:Oper} {listed:Array Bool} {a:Act} {w:World} (hr:Region.ready .any ops listed= [i]) (ho:ops[i]? =some o)
  (h: ∀K':Act→World→Prop,Shut (∀a' w',S w'→(S w'→wpAnyT P ops Q S n f (listed.setIfInBounds i true) a' w')→K' a' w')→if Region.wanted o (yielded ops a.tmps)=true then Oper.wp P o a w K' Q else K' (a.put o.dst undef) w):
  wpAnyT P ops Q S n (f+1) listed a w:=
 wpAnyT_one hr (wpOp_step ho fun K' hK=>h K' (fun a' w' hS hW=>hK a' w' ⟨fun _=>hS,hW hS⟩))
theorem wpAnyT_last {f:Nat} {o:Oper} {listed:Array Bool} {a:Act} {w:World} (hr:Region.ready .any ops listed= [n]) (ho:ops[n]? =some o) (hd:Region.ready .any ops (listed.setIfInBounds n true)= [])
  (h: ∀K':Act→World→Prop,Shut (∀a' w',Q .normal a' w'→K' a' w')→if Region.wanted o (yielded ops a.tmps)=true then Oper.wp P o a w K' Q else K' (a.put o.dst undef) w):
  wpAnyT P ops Q S n (f+1) listed a w:=
 wpAnyT_one hr (wpOp_step ho fun K' hK=>h K' (fun a' w' hQ=>hK a' w' ⟨fun hn=>absurd rfl hn,wpAnyT_done hd hQ f⟩))
theorem wp_region_T' {id m:Nat} {a:Act} {w:World} (hm:P.follows .mixedOrders=true) (hz:ops.size=m) (hS:S w.drew) (h:S w.drew→wpAnyT P ops Q S n m (Array.replicate m false) a w.drew):(Code.region id ops true).wp P Q a w:=
 wp_region_T hm (by rw[hz];exact h hS)
end
theorem wp_push_edge {w:World} {o:Oper} {a:Act} {K:Act→World→Prop} {Q:Exit→Act→World→Prop} (s x:Operand)
  (ho:o.op= .call {callee:= .builtin .append,args:= #[s,x],argTypes:= #[24,24]})
  (base:Nat) (v:Value) (es:List EdD) (hown:OwE w base v es) (hs:a.eval s=v) (b:Nat) (e:EdD) (hx:a.eval x= .slice (some ⟨b,0,none⟩) 1 1)
  (hc: ∀j u,(edC e)[j]? =some u→w.cell? ⟨b,j,none⟩=some u) (he:E64 e) (hl:es.length≤1073741824) (hbase:base≤w.heap.size)
  (h: ∀v' w',OwE w' base v' (es++ [e])→w.grownBy w' v.ownBlock→(v'.ownBlock=v.ownBlock∨v'.ownBlock=some w.heap.size)→K (a.put o.dst v') w'):
  o.wp Tryz.prog a w K Q:=by
 obtain⟨i0,hi0,hz0,hz1,hz2⟩:=info_parts edge_info
 obtain⟨v',w',hrun,h1,h2,_,h5⟩:=run_append_own_at (P:=Tryz.prog) w base 24 o.type 97 i0 _ 3 24 Tryz.underlying24 hi0 hz0 hz1 hz2 rfl (by decide) v es.length (edCs es) hown.1 ⟨b,0,none⟩ 1 1 (edC e) rfl
  (fun j u hj=>by rw[Addr.add_lit,Nat.zero_add];exact hc j u hj) (by intro u hu;simp[edC] at hu;rcases hu with rfl | rfl | rfl<;>rfl) (by unfold maxLen;omega) (by omega) hbase
 unfold Oper.wp execOp
 simp only[ho,resolve,invoke,builtin,Sem.run_bind,Sem.run_pure,Result.andThen_ok,List.map_toArray,List.map_cons,List.map_nil,hs,hx,hrun]
 refine h v' w' ⟨?_,E64s_append hown.2 (E64s_one he)⟩ h2 h5
 have e1:edCs (es++ [e])=edCs es++edC e:=by rw[edCs_append];simp[edCs]
 rw[e1,List.length_append]
 exact h1
theorem set_minus (N k:Nat) (h:k<N):((List.replicate k (-1:Int))++List.replicate (N-k) 0).set k (-1)=List.replicate (k+1) (-1)++List.replicate (N-(k+1)) 0:=by
 obtain⟨m,hm⟩: ∃m,N-k=m+1:=⟨N-k-1,by omega⟩
 rw[hm,show N-(k+1)=m by omega,List.set_append_right _ _ (by simp),List.length_replicate,Nat.sub_self,List.replicate_succ,List.set_cons_zero,List.replicate_succ']
 simp
set_option maxHeartbeats 1000000 in
theorem part_anyN (v vo:Value) (g:GrD) (o:List Int) (w:World) (h:ArgG w v g) (ho:RdI w vo o) (hg:grB g=true) (hok:OrdN g.2.1 o):
  Calls Tryz.prog 160 #[v,vo] w fun e w'=> ∃r,e= .returned r∧OwG w' w.heap.size r (rnG g o)∧Below w.heap.size w w':=by
 have HG:=hDD h
 have HOK:=hDD hok
 have HOR:=hDD ho
 obtain⟨hr13,hsz40,hl120,_⟩:=grB_parts hg
 have HED:=hDD (fun e he=>edge_of_gr hg (e:=e) he)
 have HND:=hDD hok.1
 have HNDE:=hDD (gr_nodup hg).2
 obtain⟨r,n,es⟩:=g
 simp only at hr13 hsz40 hl120 HG HED hok HOK HNDE
 obtain⟨N,rfl⟩: ∃N:Nat,n=(N:Int):=⟨n.toNat,by omega⟩
 have hN1:1≤N:=by omega
 have hN2:N≤40:=by omega
 have hol:o.length≤N:=nodup_len N o hok.1 fun y hy=>by have:=hok.2.1 y hy;omega
 have HRANGE:Hid (∀k (hk:k<o.length),∃u:Nat,o[k]=(u:Int)∧u<N):=hDD fun k hk=>by
  have:=hok.2.1 o[k] (by simp)
  exact⟨o[k].toNat,by omega,by omega⟩
 clear hsz40 hg hok h
 obtain⟨A,cap,rfl,HE⟩: ∃A cap,v= .agg #[.int .i64 r, .int .i64 N, .slice A es.length cap]∧Hid (ArgE w (.slice A es.length cap) es):=by
  obtain⟨s,hv,_,_,ha⟩:=HG.out
  obtain⟨A,cap,rfl⟩:=ha.form
  exact⟨A,cap,hv,hDD ha⟩
 obtain⟨Ao,capo,rfl,hco,hmo,_⟩:=ho.arg
 have hbndE:es.length≤cap∧cap≤maxLen:=by
  obtain⟨_,_,hv,h1,h2,_⟩:=HE.out
  injection hv with _ _ e3
  subst e3
  exact⟨h1,h2⟩
 obtain⟨hcap,hm⟩:=hbndE
 unfold maxLen at hmo hm
 clear ho
 have bx:Below w.heap.size w ((w.alloc (Obj.cells #[Value.int IntKind.i64 r,Value.int IntKind.i64 N, .slice A es.length cap] 26)).alloc (Obj.cells #[Value.int IntKind.i64 0,Value.int IntKind.i64 0, .slice none 0 0] 26)):=(by repeat(first | exact Below.refl _ _ | (refine Below.setCell ?_ (by first | omega | (simp<;>omega)) _) | (refine bel_drewN ?_ _) | (refine Below.drew ?_) | (refine Below.alloc ?_ (by first | omega | (simp<;>omega)) _)))
 go_enter Tryz.func160,Tryz.ntmps160
 obtain⟨i0,hi0,hz0,hz1,hz2⟩:=info_parts int_info
 go_wp2_with (at_make;refine wpList_make_full _ rfl _ _ 37 rfl (w.heap.size+1+1) 3 i0 (.int .i64 0) 1 Tryz.underlying37 hi0 hz0 hz1 _ _ _ _ N rfl rfl rfl rfl (by rw[hz2];omega) (by unfold maxLen;omega) (by simp) ?_)
 obtain⟨W0,hW0⟩: ∃W,W=(w.alloc (Obj.cells #[Value.int IntKind.i64 r,Value.int IntKind.i64 N, .slice A es.length cap] 26)).alloc (Obj.cells #[Value.int IntKind.i64 0,Value.int IntKind.i64 0, .slice none 0 0] 26):=⟨_,rfl⟩
 rw[←hW0] at bx⊢
 have hsW:W0.heap.size=w.heap.size+1+1:=by rw[hW0];simp
 have B0:Hid (W0.cell? ⟨w.heap.size,0,none⟩=some (.int .i64 r)):=hDD (by rw[hW0];simp[go_sem])
 have B2:Hid (W0.cell? ⟨w.heap.size,2,none⟩=some (.slice A es.length cap)):=hDD (by rw[hW0];simp[go_sem])
 have R0:Hid (W0.cell? ⟨w.heap.size+1,0,none⟩=some (.int .i64 0)):=hDD (by rw[hW0];simp[go_sem])
 have R1:Hid (W0.cell? ⟨w.heap.size+1,1,none⟩=some (.int .i64 0)):=hDD (by rw[hW0];simp[go_sem])
 have R2:Hid (W0.cell? ⟨w.heap.size+1,2,none⟩=some (.slice none 0 0)):=hDD (by rw[hW0];simp[go_sem])
 have RF:Hid (∀j,W0.frozen? ⟨w.heap.size+1,j,none⟩=false):=hDD fun j=>by rw[hW0];simp[go_sem]
 clear hW0
 rw[←hsW]
 have BX:=hDD bx
 have HSW:=hDD hsW
 have hltw:w.heap.size<W0.heap.size:=by omega
 have hltw1:w.heap.size+1<W0.heap.size:=by omega
 clear bx hsW
 intro w2 hown0 hgrow0
 have own0:OwI w2 W0.heap.size (.slice (some ⟨W0.heap.size,0,none⟩) N N) (List.replicate 0 (-1)++List.replicate (N-0) 0):=by
  refine⟨?_,fun y hy=> ?_⟩
  ·simp only[List.replicate_zero,List.nil_append,Nat.sub_zero,List.length_replicate]
   have:ints (List.replicate N 0)=List.replicate N (Value.int .i64 0):=by simp[ints]
   rw[this]
   simpa[toList_madeCells_one] using hown0
  ·simp only[List.replicate_zero,List.nil_append,Nat.sub_zero] at hy
   obtain⟨_,rfl⟩:=List.mem_replicate.1 hy
   exact⟨by decide,by decide⟩
 have HO0:=hDD own0
 have HB0:=hDD ((Below.refl W0.heap.size W0).grown hgrow0 (Nat.le_refl _) (fun k h=>by cases h))
 clear own0 hown0 hgrow0
 go_wp2
 go_loopw [17] (fun i wr=> ∃k:Nat,k≤N∧i= .int .i64 k∧OwI wr W0.heap.size (.slice (some ⟨W0.heap.size,0,none⟩) N N) (List.replicate k (-1)++List.replicate (N-k) 0)∧Below W0.heap.size W0 wr) (fun i _=>N-(intOf i).toNat)
 case atStart=>exact⟨0,Nat.zero_le _,rfl,HO0.out,HB0.out⟩
 case round=>
  obtain⟨k,hk,rfl,hown,hbel⟩:=hrel
  have HB:=hDD hbel
  have hs:=hbel.size
  have HO:=hDD hown
  by_cases hlt:k<N
  ·have hcell:=hown.cellAt k (by simp;omega)
   have hfz:=hown.free k
   have HS:=hDD (hown.set k (-1) ⟨by decide,by decide⟩)
   have HSET:=hDD (set_minus N k hlt)
   clear hown hbel
   generalize (List.replicate k (-1:Int)++List.replicate (N-k) 0)[k]'(by simp;omega)=z0 at hcell
   go_wp2
   go_roundw
   case rel=>exact⟨k+1,by omega,by go_num,by rw[←HSET.out];exact HS.out.1,HB.out.grown HS.out.2 (by omega) (fun j hj=>by cases hj;exact Nat.le_refl _)⟩
   case measure=>simp[intOf];omega
  ·obtain rfl:k=N:=by omega
   have HO1:Hid (OwI wr W0.heap.size (.slice (some ⟨W0.heap.size,0,none⟩) k k) (plc k (o.take 0) 1)):=hDD (by
    rw[List.take_zero,plc_nil]
    simpa using HO.out)
   clear hown hbel
   go_wp2
   go_loopw [26] (fun i wr=> ∃j:Nat,j≤o.length∧i= .int .i64 j∧OwI wr W0.heap.size (.slice (some ⟨W0.heap.size,0,none⟩) k k) (plc k (o.take j) 1)∧Below W0.heap.size W0 wr) (fun i _=>o.length-(intOf i).toNat)
   case atStart=>exact⟨0,Nat.zero_le _,rfl,HO1.out,HB.out⟩
   case round=>
    obtain⟨j,hj,rfl,hown,hbel⟩:=hrel
    have HB1:=hDD hbel
    have hs1:=hbel.size
    have HO2:=hDD hown
    by_cases hlt2:j<o.length
    ·obtain⟨bo,offo,rfl,hbo,hco2⟩:=(HOR.out.below (BX.out.trans (hbel.mono (by omega)))).at (by omega)
     have c0:=hco2 j hlt2
     obtain⟨u,hu,huN⟩:=HRANGE.out j hlt2
     rw[hu] at c0
     have hcur:=hown.cellAt u (by rw[plc_len];exact huN)
     have hfz:=hown.free u
     have HSET:=hDD (hown.set u (j:Int) ⟨by omega,by omega⟩)
     have HSUC:Hid ((plc k (o.take j) 1).set u (j:Int)=plc k (o.take (j+1)) 1):=hDD (by
      have:=plc_succ k o 1 j hlt2 HND.out u hu
      rwa [Int.add_sub_cancel] at this)
     generalize (plc k (o.take j) 1)[u]'(by rw[plc_len];exact huN)=z0 at hcur
     have j0:(0:Int)≤(u:Int):=by omega
     have j1:(u:Int)<(k:Int):=by omega
     clear hco2 hu hown hbel
     go_wp2
     go_roundw
     case rel=>exact⟨j+1,by omega,by go_num,by rw[←HSUC.out];exact HSET.out.1,HB1.out.grown HSET.out.2 (by omega) (fun j hj=>by cases hj;exact Nat.le_refl _)⟩
     case measure=>simp[intOf];omega
    ·obtain rfl:j=o.length:=by omega
     rw[List.take_length] at HO2
     have hP:=(HO2.out.1.lt W0.heap.size rfl).2
     have q0:=(hbel.cell (p:=⟨w.heap.size,0,none⟩) hltw).trans B0.out
     have q2:=(hbel.cell (p:=⟨w.heap.size,2,none⟩) hltw).trans B2.out
     have hlt3:w.heap.size<wr.heap.size:=by omega
     have hlt4:w.heap.size+1<wr.heap.size:=by omega
     have hA: ∀ob o',(wr.alloc ob).cell? ⟨w.heap.size,o',none⟩=wr.cell? ⟨w.heap.size,o',none⟩:=fun ob o'=>World.cell?_of_block (Below.heap_alloc wr ob (w.heap.size) hlt3)
     clear hown hbel
     go_wp2
     generalize hw5:wr=w5 at*
     clear hw5
     have HPL:Hid (∀(wl:World),w5.grownBy wl (some w5.heap.size)→ ∀u:Nat,u<k→wl.cell? ⟨W0.heap.size,u,none⟩=some (.int .i64 (plv o u-1))):=hDD fun wl hg u hu=>by
      rw[grown_cell hg hP (by omega),HO2.out.cellAt u (by rw[plc_len];exact hu),plc_get _ _ _ _ hu]
     have PLR:Hid (∀v:Int,0≤plv o v∧plv o v≤40):=hDD fun v=>by have:=plv_range o v;omega
     go_loopw [44] (fun i wl=> ∃(j:Nat) (A2:Option Addr) (cap2:Nat),j≤es.length∧i= .int .i64 j∧wl.cell? ⟨w5.heap.size,2,none⟩=some (.slice A2 (rnL (es.take j) o).length cap2)∧OwE wl (w5.heap.size+1) (.slice A2 (rnL (es.take j) o).length cap2) (rnL (es.take j) o)∧w5.grownBy wl (some w5.heap.size)∧wl.cell? ⟨w5.heap.size,0,none⟩=some (.int .i64 r)∧wl.cell? ⟨w5.heap.size,1,none⟩=some (.int .i64 o.length)∧(∀j,wl.frozen? ⟨w5.heap.size,j,none⟩=false)∧w5.heap.size<wl.heap.size) (fun i _=>es.length-(intOf i).toNat)
     case atStart=>exact⟨0,none,0,Nat.zero_le _,rfl,by show _=some (Value.slice none 0 0);simp[go_sem],OwE.nil,grown_bel ((Below.refl _ _).alloc (Nat.le_refl _) _),by simp[go_sem],by simp[go_sem],fun j=>by simp[go_sem],by simp⟩
     case round=>
      obtain⟨j,A2,cap2,hk2,rfl,hx2,hown2,hgr,hx0,hx1,hxf,hXr⟩:=hrel
      have HGW:=hDD hgr
      have hsz2:=hgr.size
      have HBw:=hDD (BX.out.trans (HB1.out.mono (show w.heap.size≤W0.heap.size by omega)))
      have HBw2:=hDD (HBw.out.grown hgr (by omega) (fun j hj=>by cases hj;omega))
      have b2:=(grown_cell (o:=2) hgr (show w.heap.size<w5.heap.size by omega) (by omega)).trans q2
      have HX2:=hDD hx2
      have HX0:=hDD hx0
      have HX1:=hDD hx1
      have HXF:=hDD hxf
      clear hx0 hx1 hxf
      have HOW2:=hDD hown2
      clear hgr hown2
      by_cases hlt3:j<es.length
      ·obtain⟨be,offe,rfl,hbe,c0,c1,c2,he64⟩:=(HE.out.below HBw2.out).at hlt3
       obtain⟨e1,e2,e3⟩:=HED.out es[j] (by simp)
       have HS:=hDD (rnL_succ es o j hlt3)
       have HSS:Hid (∀x,rnE o es[j]=some x→rnL (es.take (j+1)) o=rnL (es.take j) o++ [x]):=hDD fun x hx=>by
        rw[HS.out,hx]
        rfl
       have HSN:Hid (rnE o es[j]=none→rnL (es.take (j+1)) o=rnL (es.take j) o):=hDD fun hx=>by rw[HS.out,hx];simp
       have hlr:(rnL (es.take j) o).length≤120:=by
        have h2:=rnL_len (es.take j) o
        rw[List.length_take] at h2
        omega
       generalize es[j]=e at*
       obtain⟨f,l,t⟩:=e
       simp only at e1 e2 e3 c0 c1 c2
       obtain⟨a,rfl⟩: ∃a:Nat,f=(a:Int):=⟨f.toNat,by omega⟩
       obtain⟨c,rfl⟩: ∃c:Nat,t=(c:Int):=⟨t.toNat,by omega⟩
       have pa:=HPL.out wr HGW.out a (by omega)
       have pc:=HPL.out wr HGW.out c (by omega)
       obtain⟨ra1,ra2⟩:=PLR.out a
       obtain⟨rc1,rc2⟩:=PLR.out c
       have RN:Hid (rnE o ((a:Int),l,(c:Int))=if 0<plv o a∧0<plv o c then some (plv o a-1,l,plv o c-1) else none):=hDD rfl
       have ja:(a:Int)<(k:Int):=by omega
       have jc:(c:Int)<(k:Int):=by omega
       have ja0:(0:Int)≤(a:Int):=by omega
       have jc0:(0:Int)≤(c:Int):=by omega
       have hPr:W0.heap.size<wr.heap.size:=by omega
       have hl64:I64 l:=by unfold I64;omega
       have HL64:=hDD hl64
       generalize plv o a=pav at*
       generalize plv o c=pcv at*
       generalize hL:rnL (es.take j) o=L at*
       clear hl64 HS he64
       have bA:Below wr.heap.size wr (wr.alloc (Obj.cells #[Value.int IntKind.i64 a,Value.int IntKind.i64 l,Value.int IntKind.i64 c] 97)):=(Below.refl _ _).alloc (Nat.le_refl _) _
       by_cases t1:0≤pav-1
       ·by_cases t2:0≤pcv-1
        ·have F:=hDD (HSS.out _ (by rw[RN.out,if_pos ⟨by omega,by omega⟩]))
         go_wp2_with fail
         have sA:wr.heap.size<(wr.alloc (Obj.cells #[Value.int IntKind.i64 a,Value.int IntKind.i64 l,Value.int IntKind.i64 c] 97)).heap.size:=by simp
         have l0:(wr.alloc (Obj.cells #[Value.int IntKind.i64 a,Value.int IntKind.i64 l,Value.int IntKind.i64 c] 97)).cell? ⟨wr.heap.size,0,none⟩=some (.int .i64 a):=by simp[go_sem]
         have l1:(wr.alloc (Obj.cells #[Value.int IntKind.i64 a,Value.int IntKind.i64 l,Value.int IntKind.i64 c] 97)).cell? ⟨wr.heap.size,1,none⟩=some (.int .i64 l):=by simp[go_sem]
         have l2:(wr.alloc (Obj.cells #[Value.int IntKind.i64 a,Value.int IntKind.i64 l,Value.int IntKind.i64 c] 97)).cell? ⟨wr.heap.size,2,none⟩=some (.int .i64 c):=by simp[go_sem]
         generalize wr.alloc (Obj.cells #[Value.int IntKind.i64 a,Value.int IntKind.i64 l,Value.int IntKind.i64 c] 97)=W at bA sA l0 l1 l2⊢
         have la:=(bA.cell (p:=⟨W0.heap.size,a,none⟩) hPr).trans pa
         have lc:=(bA.cell (p:=⟨W0.heap.size,c,none⟩) hPr).trans pc
         have lx:=(bA.cell (p:=⟨w5.heap.size,2,none⟩) hXr).trans HX2.out
         have LX0:=hDD ((bA.cell (p:=⟨w5.heap.size,0,none⟩) hXr).trans HX0.out)
         have LX1:=hDD ((bA.cell (p:=⟨w5.heap.size,1,none⟩) hXr).trans HX1.out)
         have LXF:Hid (∀j,W.frozen? ⟨w5.heap.size,j,none⟩=false):=hDD fun j=>(bA.frozen (p:=⟨w5.heap.size,j,none⟩) hXr).trans (HXF.out j)
         have OW:=hDD (HOW2.out.below bA)
         have GW:=hDD (HGW.out.trans (grown_bel bA))
         have hXW:w5.heap.size<W.heap.size:=by omega
         have hPW:W0.heap.size<W.heap.size:=by omega
         have hPX:W0.heap.size≠w5.heap.size:=by omega
         clear bA pa pc hx2
         refine wp_region_T' (n:=18) (S:=fun w'=>w'.cell? ⟨w5.heap.size,2,none⟩=some (.slice A2 L.length cap2)∧w'.cell? ⟨W0.heap.size,a,none⟩=some (.int .i64 (pav-1))∧w'.cell? ⟨W0.heap.size,c,none⟩=some (.int .i64 (pcv-1))∧w'.cell? ⟨wr.heap.size,0,none⟩=some (.int .i64 a)∧w'.cell? ⟨wr.heap.size,1,none⟩=some (.int .i64 l)∧w'.cell? ⟨wr.heap.size,2,none⟩=some (.int .i64 c)) (by kernel_rfl) (by rfl) ⟨lx,la,lc,l0,l1,l2⟩ (fun hHeld=> ?_)
         (refine wpAnyT_take (n:=18) (i:=0) (v:= ?_) rfl (by kernel_rfl) rfl (by decide) (by kernel_rfl) (by kernel_rfl) (by kernel_rfl) (by kernel_rfl) (fun _ _ _ h=>h) (Or.inl ⟨by rfl,?_⟩) (by assumption) ?_;rotate_left;focus (intro ww hSw;(try dsimp only at hSw);go_simp;try with_reducible rfl);(try simp only[Act.put,List.setIfInBounds_toArray,List.set_cons_zero,List.set_cons_succ]));(refine wpAnyT_take (n:=18) (i:=1) (v:= ?_) rfl (by kernel_rfl) rfl (by decide) (by kernel_rfl) (by kernel_rfl) (by kernel_rfl) (by kernel_rfl) (fun _ _ _ h=>h) (Or.inl ⟨by rfl,?_⟩) (by assumption) ?_;rotate_left;focus (intro ww hSw;(try dsimp only at hSw);go_simp;try with_reducible rfl);(try simp only[Act.put,List.setIfInBounds_toArray,List.set_cons_zero,List.set_cons_succ]));(refine wpAnyT_take (n:=18) (i:=2) (v:= ?_) rfl (by kernel_rfl) rfl (by decide) (by kernel_rfl) (by kernel_rfl) (by kernel_rfl) (by kernel_rfl) (fun _ _ _ h=>h) (Or.inl ⟨by rfl,?_⟩) (by assumption) ?_;rotate_left;focus (intro ww hSw;(try dsimp only at hSw);go_simp;try with_reducible rfl);(try simp only[Act.put,List.setIfInBounds_toArray,List.set_cons_zero,List.set_cons_succ]));(refine wpAnyT_take (n:=18) (i:=3) (v:= ?_) rfl (by kernel_rfl) rfl (by decide) (by kernel_rfl) (by kernel_rfl) (by kernel_rfl) (by kernel_rfl) (fun _ _ _ h=>h) (Or.inl ⟨by rfl,?_⟩) (by assumption) ?_;rotate_left;focus (intro ww hSw;(try dsimp only at hSw);go_simp;try with_reducible rfl);(try simp only[Act.put,List.setIfInBounds_toArray,List.set_cons_zero,List.set_cons_succ]));(refine wpAnyT_take (n:=18) (i:=4) (v:= ?_) rfl (by kernel_rfl) rfl (by decide) (by kernel_rfl) (by kernel_rfl) (by kernel_rfl) (by kernel_rfl) (fun _ _ _ h=>h) (Or.inl ⟨by rfl,?_⟩) (by assumption) ?_;rotate_left;focus (intro ww hSw;(try dsimp only at hSw);go_simp;try with_reducible rfl);(try simp only[Act.put,List.setIfInBounds_toArray,List.set_cons_zero,List.set_cons_succ]));(refine wpAnyT_take (n:=18) (i:=5) (v:= ?_) rfl (by kernel_rfl) rfl (by decide) (by kernel_rfl) (by kernel_rfl) (by kernel_rfl) (by kernel_rfl) (fun _ _ _ h=>h) (Or.inl ⟨by rfl,?_⟩) (by assumption) ?_;rotate_left;focus (intro ww hSw;(try dsimp only at hSw);go_simp;try with_reducible rfl);(try simp only[Act.put,List.setIfInBounds_toArray,List.set_cons_zero,List.set_cons_succ]));(refine wpAnyT_take (n:=18) (i:=6) (v:= ?_) rfl (by kernel_rfl) rfl (by decide) (by kernel_rfl) (by kernel_rfl) (by kernel_rfl) (by kernel_rfl) (fun _ _ _ h=>h) (Or.inl ⟨by rfl,?_⟩) (by assumption) ?_;rotate_left;focus (intro ww hSw;(try dsimp only at hSw);go_simp;try with_reducible rfl);(try simp only[Act.put,List.setIfInBounds_toArray,List.set_cons_zero,List.set_cons_succ]));(refine wpAnyT_take (n:=18) (i:=7) (v:= ?_) rfl (by kernel_rfl) rfl (by decide) (by kernel_rfl) (by kernel_rfl) (by kernel_rfl) (by kernel_rfl) (fun _ _ _ h=>h) (Or.inl ⟨by rfl,?_⟩) (by assumption) ?_;rotate_left;focus (intro ww hSw;(try dsimp only at hSw);go_simp;try with_reducible rfl);(try simp only[Act.put,List.setIfInBounds_toArray,List.set_cons_zero,List.set_cons_succ]));(refine wpAnyT_take (n:=18) (i:=8) (v:= ?_) rfl (by kernel_rfl) rfl (by decide) (by kernel_rfl) (by kernel_rfl) (by kernel_rfl) (by kernel_rfl) (fun _ _ _ h=>h) (Or.inl ⟨by rfl,?_⟩) (by assumption) ?_;rotate_left;focus (intro ww hSw;(try dsimp only at hSw);go_simp;try with_reducible rfl);(try simp only[Act.put,List.setIfInBounds_toArray,List.set_cons_zero,List.set_cons_succ]));(refine wpAnyT_take (n:=18) (i:=9) (v:= ?_) rfl (by kernel_rfl) rfl (by decide) (by kernel_rfl) (by kernel_rfl) (by kernel_rfl) (by kernel_rfl) (fun _ _ _ h=>h) (Or.inl ⟨by rfl,?_⟩) (by assumption) ?_;rotate_left;focus (intro ww hSw;(try dsimp only at hSw);go_simp;try with_reducible rfl);(try simp only[Act.put,List.setIfInBounds_toArray,List.set_cons_zero,List.set_cons_succ]));(refine wpAnyT_take (n:=18) (i:=10) (v:= ?_) rfl (by kernel_rfl) rfl (by decide) (by kernel_rfl) (by kernel_rfl) (by kernel_rfl) (by kernel_rfl) (fun _ _ _ h=>h) (Or.inl ⟨by rfl,?_⟩) (by assumption) ?_;rotate_left;focus (intro ww hSw;(try dsimp only at hSw);go_simp;try with_reducible rfl);(try simp only[Act.put,List.setIfInBounds_toArray,List.set_cons_zero,List.set_cons_succ]));(refine wpAnyT_take (n:=18) (i:=11) (v:= ?_) rfl (by kernel_rfl) rfl (by decide) (by kernel_rfl) (by kernel_rfl) (by kernel_rfl) (by kernel_rfl) (fun _ _ _ h=>h) (Or.inl ⟨by rfl,?_⟩) (by assumption) ?_;rotate_left;focus (intro ww hSw;(try dsimp only at hSw);go_simp;try with_reducible rfl);(try simp only[Act.put,List.setIfInBounds_toArray,List.set_cons_zero,List.set_cons_succ]));(refine wpAnyT_take (n:=18) (i:=12) (v:= ?_) rfl (by kernel_rfl) rfl (by decide) (by kernel_rfl) (by kernel_rfl) (by kernel_rfl) (by kernel_rfl) (fun _ _ _ h=>h) (Or.inl ⟨by rfl,?_⟩) (by assumption) ?_;rotate_left;focus (intro ww hSw;(try dsimp only at hSw);go_simp;try with_reducible rfl);(try simp only[Act.put,List.setIfInBounds_toArray,List.set_cons_zero,List.set_cons_succ]));(refine wpAnyT_take (n:=18) (i:=13) (v:= ?_) rfl (by kernel_rfl) rfl (by decide) (by kernel_rfl) (by kernel_rfl) (by kernel_rfl) (by kernel_rfl) (fun _ _ _ h=>h) (Or.inl ⟨by rfl,?_⟩) (by assumption) ?_;rotate_left;focus (intro ww hSw;(try dsimp only at hSw);go_simp;try with_reducible rfl);(try simp only[Act.put,List.setIfInBounds_toArray,List.set_cons_zero,List.set_cons_succ]));(refine wpAnyT_take (n:=18) (i:=14) (v:= ?_) rfl (by kernel_rfl) rfl (by decide) (by kernel_rfl) (by kernel_rfl) (by kernel_rfl) (by kernel_rfl) (fun _ _ _ h=>h) (Or.inl ⟨by rfl,?_⟩) (by assumption) ?_;rotate_left;focus (intro ww hSw;(try dsimp only at hSw);go_simp;try with_reducible rfl);(try simp only[Act.put,List.setIfInBounds_toArray,List.set_cons_zero,List.set_cons_succ]))
         refine wpAnyT_step (i:=15) (by kernel_rfl) rfl fun K' hK=> ?_
         go_simp
         have hNW:W0.heap.size≠W.heap.size:=by omega
         have hNX:w5.heap.size≠W.heap.size:=by omega
         have hNe:wr.heap.size≠W.heap.size:=by omega
         have bB:Below W.heap.size W (W.alloc (Obj.cells #[Value.int IntKind.i64 (pav-1),Value.int IntKind.i64 l,Value.int IntKind.i64 (pcv-1)] 97)).drew:=(by repeat(first | exact Below.refl _ _ | (refine Below.setCell ?_ (by first | omega | (simp<;>omega)) _) | (refine bel_drewN ?_ _) | (refine Below.drew ?_) | (refine Below.alloc ?_ (by first | omega | (simp<;>omega)) _)))
         have nE: ∀j u,(edC (pav-1,l,pcv-1))[j]? =some u→(W.alloc (Obj.cells #[Value.int IntKind.i64 (pav-1),Value.int IntKind.i64 l,Value.int IntKind.i64 (pcv-1)] 97)).drew.cell? ⟨W.heap.size,j,none⟩=some u:=fun j u hj=>by
          rcases j with _ | _ | _ | j<;>simp[edC] at hj<;>subst hj<;>simp[go_sem]
         have sB:W.heap.size<(W.alloc (Obj.cells #[Value.int IntKind.i64 (pav-1),Value.int IntKind.i64 l,Value.int IntKind.i64 (pcv-1)] 97)).drew.heap.size:=by simp
         have hHeld2:(W.alloc (Obj.cells #[Value.int IntKind.i64 (pav-1),Value.int IntKind.i64 l,Value.int IntKind.i64 (pcv-1)] 97)).drew.cell? ⟨w5.heap.size,2,none⟩=some (.slice A2 L.length cap2)∧(W.alloc (Obj.cells #[Value.int IntKind.i64 (pav-1),Value.int IntKind.i64 l,Value.int IntKind.i64 (pcv-1)] 97)).drew.cell? ⟨W0.heap.size,a,none⟩=some (.int .i64 (pav-1))∧(W.alloc (Obj.cells #[Value.int IntKind.i64 (pav-1),Value.int IntKind.i64 l,Value.int IntKind.i64 (pcv-1)] 97)).drew.cell? ⟨W0.heap.size,c,none⟩=some (.int .i64 (pcv-1))∧(W.alloc (Obj.cells #[Value.int IntKind.i64 (pav-1),Value.int IntKind.i64 l,Value.int IntKind.i64 (pcv-1)] 97)).drew.cell? ⟨wr.heap.size,0,none⟩=some (.int .i64 a)∧(W.alloc (Obj.cells #[Value.int IntKind.i64 (pav-1),Value.int IntKind.i64 l,Value.int IntKind.i64 (pcv-1)] 97)).drew.cell? ⟨wr.heap.size,1,none⟩=some (.int .i64 l)∧(W.alloc (Obj.cells #[Value.int IntKind.i64 (pav-1),Value.int IntKind.i64 l,Value.int IntKind.i64 (pcv-1)] 97)).drew.cell? ⟨wr.heap.size,2,none⟩=some (.int .i64 c):=
          ⟨(bB.cell (p:=⟨w5.heap.size,2,none⟩) hXW).trans lx,(bB.cell (p:=⟨W0.heap.size,a,none⟩) hPW).trans la,(bB.cell (p:=⟨W0.heap.size,c,none⟩) hPW).trans lc,(bB.cell (p:=⟨wr.heap.size,0,none⟩) sA).trans l0,(bB.cell (p:=⟨wr.heap.size,1,none⟩) sA).trans l1,(bB.cell (p:=⟨wr.heap.size,2,none⟩) sA).trans l2⟩
         clear hHeld
         refine hK.out _ _ hHeld2 (fun _=> ?_)
         clear hK
         generalize (W.alloc (Obj.cells #[Value.int IntKind.i64 (pav-1),Value.int IntKind.i64 l,Value.int IntKind.i64 (pcv-1)] 97)).drew=V at bB nE sB hHeld2⊢
         have sV:W.heap.size<V.heap.size:=sB
         refine wpAnyT_step (i:=16) (by kernel_rfl) rfl fun K' hK=> ?_
         rw[if_pos (by rfl)]
         refine wp_push_edge (.tmp 63) (.tmp 77) rfl (w5.heap.size+1) _ L (OW.out.below bB) rfl W.heap.size (pav-1,l,pcv-1) rfl nE ⟨⟨by simp only;omega,by simp only;omega⟩,HL64.out,⟨by simp only;omega,by simp only;omega⟩⟩ (by omega) (by omega) ?_
         intro v' w' o' g' p'
         obtain⟨A9,cap9,rfl,_⟩:=OwE.form o'
         have O9:=hDD o'
         clear o'
         have hrow: ∀x,(Value.slice A2 L.length cap2).ownBlock=some x→w5.heap.size+1≤x∧x<wr.heap.size:=fun x hx=>HOW2.out.1.lt x hx
         have ne1: ∀y,y<V.heap.size→(y≤w5.heap.size∨y=wr.heap.size)→some y≠(Value.slice A2 L.length cap2).ownBlock:=fun y _ h he=>by
          have:=hrow y he.symm
          omega
         have cW: ∀y o u,y<V.heap.size→(y≤w5.heap.size∨y=wr.heap.size)→V.cell? ⟨y,o,none⟩=some u→w'.cell? ⟨y,o,none⟩=some u:=fun y o u h1 h2 h3=>(World.cell?_of_block (w:=V) (g'.block y h1 (ne1 y h1 h2))).trans h3
         obtain⟨k1,k2,k3,k4,k5,k6⟩:=hHeld2
         have hHeld3:w'.cell? ⟨w5.heap.size,2,none⟩=some (.slice A2 L.length cap2)∧w'.cell? ⟨W0.heap.size,a,none⟩=some (.int .i64 (pav-1))∧w'.cell? ⟨W0.heap.size,c,none⟩=some (.int .i64 (pcv-1))∧w'.cell? ⟨wr.heap.size,0,none⟩=some (.int .i64 a)∧w'.cell? ⟨wr.heap.size,1,none⟩=some (.int .i64 l)∧w'.cell? ⟨wr.heap.size,2,none⟩=some (.int .i64 c):=
          ⟨cW _ _ _ (by omega) (by omega) k1,cW _ _ _ (by omega) (by omega) k2,cW _ _ _ (by omega) (by omega) k3,cW _ _ _ (by omega) (by omega) k4,cW _ _ _ (by omega) (by omega) k5,cW _ _ _ (by omega) (by omega) k6⟩
         refine hK.out _ _ hHeld3 (fun _=> ?_)
         clear hK
         simp only[Act.put,List.setIfInBounds_toArray,List.set_cons_zero,List.set_cons_succ]
         (refine wpAnyT_take (n:=18) (i:=17) (v:= ?_) rfl (by kernel_rfl) rfl (by decide) (by kernel_rfl) (by kernel_rfl) (by kernel_rfl) (by kernel_rfl) (fun _ _ _ h=>h) (Or.inl ⟨by rfl,?_⟩) (by assumption) ?_;rotate_left;focus (intro ww hSw;(try dsimp only at hSw);go_simp;try with_reducible rfl);(try simp only[Act.put,List.setIfInBounds_toArray,List.set_cons_zero,List.set_cons_succ]))
         have qf:w'.frozen? ⟨w5.heap.size,2,none⟩=false:=((World.frozen?_of_block (w:=V) (g'.block w5.heap.size (by omega) (ne1 _ (by omega) (by omega)))).trans (bB.frozen (p:=⟨w5.heap.size,2,none⟩) hXW)).trans (LXF.out 2)
         have qx:=hHeld3.1
         refine wpAnyT_last (n:=18) (by kernel_rfl) rfl (by kernel_rfl) fun K' hK=> ?_
         go_simp
         refine hK.out _ _ ?_
         clear hK
         go_wp2
         go_roundw
         case rel=>
          have GV:w5.grownBy V (some w5.heap.size):=GW.out.trans (grown_bel bB)
          have hVw:=g'.size
          have G9:w5.grownBy w' (some w5.heap.size):=⟨g'.os.trans GV.os,g'.tape.trans GV.tape,g'.output.trans GV.output,by omega,fun b hb hne=>(g'.block b (by omega) (ne1 b (by omega) (by omega))).trans (GV.block b hb hne)⟩
          refine⟨j+1,A9,cap9,by omega,by go_num,by rw[F.out,List.length_append];exact World.cell?_setCell_same _ _ _ qx,?_,G9.trans (set_grown _ _ _ _),?_,?_,fun j=> ?_,by simp;omega⟩
          ·rw[F.out]
           have:=O9.out.far (p:=⟨w5.heap.size,2,none⟩) (show w5.heap.size<w5.heap.size+1 by omega) (Value.slice A9 (L.length+1) cap9)
           simpa[List.length_append] using this
          ·rw[World.cell?_setCell_other _ _ _ _ (by simp)]
           exact cW _ _ _ (by omega) (by omega) ((bB.cell (p:=⟨w5.heap.size,0,none⟩) hXW).trans LX0.out)
          ·rw[World.cell?_setCell_other _ _ _ _ (by simp)]
           exact cW _ _ _ (by omega) (by omega) ((bB.cell (p:=⟨w5.heap.size,1,none⟩) hXW).trans LX1.out)
          ·rw[World.frozen?_setCell]
           exact((World.frozen?_of_block (w:=V) (g'.block w5.heap.size (by omega) (ne1 _ (by omega) (by omega)))).trans (bB.frozen (p:=⟨w5.heap.size,j,none⟩) hXW)).trans (LXF.out j)
         case measure=>simp[intOf];omega
        ·have F:=hDD (HSN.out (by rw[RN.out,if_neg (fun h=>t2 (by omega))]))
         go_wp2
         go_roundw
         case rel=>exact⟨j+1,A2,cap2,by omega,by go_num,by rw[F.out];exact(bA.cell (p:=⟨w5.heap.size,2,none⟩) hXr).trans HX2.out,by rw[F.out];exact HOW2.out.below bA,HGW.out.trans (grown_bel bA),(bA.cell (p:=⟨w5.heap.size,0,none⟩) hXr).trans HX0.out,(bA.cell (p:=⟨w5.heap.size,1,none⟩) hXr).trans HX1.out,fun j=>(bA.frozen (p:=⟨w5.heap.size,j,none⟩) hXr).trans (HXF.out j),by simp;omega⟩
         case measure=>simp[intOf];omega
       ·have F:=hDD (HSN.out (by rw[RN.out,if_neg (fun h=>t1 (by omega))]))
        go_wp2
        go_roundw
        case rel=>exact⟨j+1,A2,cap2,by omega,by go_num,by rw[F.out];exact(bA.cell (p:=⟨w5.heap.size,2,none⟩) hXr).trans HX2.out,by rw[F.out];exact HOW2.out.below bA,HGW.out.trans (grown_bel bA),(bA.cell (p:=⟨w5.heap.size,0,none⟩) hXr).trans HX0.out,(bA.cell (p:=⟨w5.heap.size,1,none⟩) hXr).trans HX1.out,fun j=>(bA.frozen (p:=⟨w5.heap.size,j,none⟩) hXr).trans (HXF.out j),by simp;omega⟩
        case measure=>simp[intOf];omega
      ·obtain rfl:j=es.length:=by omega
       rw[List.take_length] at hx2 HOW2
       have HNDR:=hDD (rnL_nodup o HNDE.out)
       have hlr:(rnL es o).length≤120:=by
        have h2:=rnL_len es o
        omega
       have hxf2:=HXF.out 2
       go_wp2_with fail
       refine(sorted_any _ _ _ HOW2.out.arg HNDR.out (by omega)).mono ?_
       rintro e' w9 ⟨r9,rfl,o9,b9⟩
       have B9:=hDD b9
       have qx0:=(b9.cell (p:=⟨w5.heap.size,0,none⟩) hXr).trans HX0.out
       have qx1:=(b9.cell (p:=⟨w5.heap.size,1,none⟩) hXr).trans HX1.out
       have qx2:=(b9.cell (p:=⟨w5.heap.size,2,none⟩) hXr).trans hx2
       have qf2:=(b9.frozen (p:=⟨w5.heap.size,2,none⟩) hXr).trans hxf2
       obtain⟨A9,cap9,rfl,_⟩:=OwE.form o9
       have O9:=hDD o9
       have RR0:=(b9.cell (p:=⟨w.heap.size+1,0,none⟩) (by show w.heap.size+1<wr.heap.size;omega)).trans ((grown_cell (o:=0) HGW.out (show w.heap.size+1<w5.heap.size by omega) (by omega)).trans ((HB1.out.cell (p:=⟨w.heap.size+1,0,none⟩) hltw1).trans R0.out))
       have RR1:=(b9.cell (p:=⟨w.heap.size+1,1,none⟩) (by show w.heap.size+1<wr.heap.size;omega)).trans ((grown_cell (o:=1) HGW.out (show w.heap.size+1<w5.heap.size by omega) (by omega)).trans ((HB1.out.cell (p:=⟨w.heap.size+1,1,none⟩) hltw1).trans R1.out))
       have RR2:=(b9.cell (p:=⟨w.heap.size+1,2,none⟩) (by show w.heap.size+1<wr.heap.size;omega)).trans ((grown_cell (o:=2) HGW.out (show w.heap.size+1<w5.heap.size by omega) (by omega)).trans ((HB1.out.cell (p:=⟨w.heap.size+1,2,none⟩) hltw1).trans R2.out))
       have rrf: ∀j,w9.frozen? ⟨w.heap.size+1,j,none⟩=false:=fun j=>(b9.frozen (p:=⟨w.heap.size+1,j,none⟩) (by show w.heap.size+1<wr.heap.size;omega)).trans ((grown_frozen (o:=j) HGW.out (show w.heap.size+1<w5.heap.size by omega) (by omega)).trans ((HB1.out.frozen (p:=⟨w.heap.size+1,j,none⟩) hltw1).trans (RF.out j)))
       have rf0:=rrf 0
       have rf1:=rrf 1
       have rf2:=rrf 2
       have s9:=b9.size
       clear rrf b9 o9
       generalize hL:srt cmpE (rnL es o)=L at*
       have HLL:=hDD hL
       clear hL
       have nX: ¬w5.heap.size=w.heap.size+1:=by omega
       have nX': ¬w.heap.size+1=w5.heap.size:=by omega
       go_wp2
       have hRw:w.heap.size+1<w9.heap.size:=by omega
       have c0:((((w9.setCell ⟨w5.heap.size,2,none⟩ (.slice A9 L.length cap9)).setCell ⟨w.heap.size+1,0,none⟩ (.int .i64 r)).setCell ⟨w.heap.size+1,1,none⟩ (.int .i64 o.length)).setCell ⟨w.heap.size+1,2,none⟩ (.slice A9 L.length cap9)).cell? ⟨w.heap.size+1,0,none⟩=some (.int .i64 r):=by
        rw[World.cell?_setCell_other _ _ _ _ (by simp),World.cell?_setCell_other _ _ _ _ (by simp)]
        exact World.cell?_setCell_same _ _ _ ((cell_set_other _ _ _ _ _ _ (by omega)).trans RR0)
       have c1:((((w9.setCell ⟨w5.heap.size,2,none⟩ (.slice A9 L.length cap9)).setCell ⟨w.heap.size+1,0,none⟩ (.int .i64 r)).setCell ⟨w.heap.size+1,1,none⟩ (.int .i64 o.length)).setCell ⟨w.heap.size+1,2,none⟩ (.slice A9 L.length cap9)).cell? ⟨w.heap.size+1,1,none⟩=some (.int .i64 o.length):=by
        rw[World.cell?_setCell_other _ _ _ _ (by simp)]
        exact World.cell?_setCell_same _ _ _ ((World.cell?_setCell_other _ _ _ _ (by simp)).trans ((cell_set_other _ _ _ _ _ _ (by omega)).trans RR1))
       have c2:((((w9.setCell ⟨w5.heap.size,2,none⟩ (.slice A9 L.length cap9)).setCell ⟨w.heap.size+1,0,none⟩ (.int .i64 r)).setCell ⟨w.heap.size+1,1,none⟩ (.int .i64 o.length)).setCell ⟨w.heap.size+1,2,none⟩ (.slice A9 L.length cap9)).cell? ⟨w.heap.size+1,2,none⟩=some (.slice A9 L.length cap9):=
        World.cell?_setCell_same _ _ _ ((World.cell?_setCell_other _ _ _ _ (by simp)).trans ((World.cell?_setCell_other _ _ _ _ (by simp)).trans ((cell_set_other _ _ _ _ _ _ (by omega)).trans RR2)))
       have HBw9:=hDD (HBw2.out.trans (B9.out.mono (show w.heap.size≤wr.heap.size by omega)))
       have bw:Below w.heap.size w ((((w9.setCell ⟨w5.heap.size,2,none⟩ (.slice A9 L.length cap9)).setCell ⟨w.heap.size+1,0,none⟩ (.int .i64 r)).setCell ⟨w.heap.size+1,1,none⟩ (.int .i64 o.length)).setCell ⟨w.heap.size+1,2,none⟩ (.slice A9 L.length cap9)):=(by repeat(first | exact Below.refl _ _ | (refine Below.setCell ?_ (by first | omega | (simp<;>omega)) _) | (refine bel_drewN ?_ _) | (refine Below.drew ?_) | (refine Below.alloc ?_ (by first | omega | (simp<;>omega)) _) | (refine Below.trans ?_ (Below.mono (Hid.out HBw9) (by first | omega | (simp<;>omega))))))
       have ow:OwE ((((w9.setCell ⟨w5.heap.size,2,none⟩ (.slice A9 L.length cap9)).setCell ⟨w.heap.size+1,0,none⟩ (.int .i64 r)).setCell ⟨w.heap.size+1,1,none⟩ (.int .i64 o.length)).setCell ⟨w.heap.size+1,2,none⟩ (.slice A9 L.length cap9)) wr.heap.size (.slice A9 L.length cap9) L:=
        (((O9.out.far (p:=⟨w5.heap.size,2,none⟩) (by show w5.heap.size<_;omega) _).far (p:=⟨w.heap.size+1,0,none⟩) (by show w.heap.size+1<_;omega) _).far (p:=⟨w.heap.size+1,1,none⟩) (by show w.heap.size+1<_;omega) _).far (p:=⟨w.heap.size+1,2,none⟩) (by show w.heap.size+1<_;omega) _
       generalize (((w9.setCell ⟨w5.heap.size,2,none⟩ (.slice A9 L.length cap9)).setCell ⟨w.heap.size+1,0,none⟩ (.int .i64 r)).setCell ⟨w.heap.size+1,1,none⟩ (.int .i64 o.length)).setCell ⟨w.heap.size+1,2,none⟩ (.slice A9 L.length cap9)=wf at*
       refine bodyPost_ret (v:= .agg #[.int .i64 r, .int .i64 o.length, .slice A9 L.length cap9]) (by simp[results,Tryz.results160,go_sem,c0,c1,c2]) rfl ⟨_,rfl,⟨.slice A9 L.length cap9,?_,?_,?_,?_⟩,bw⟩
       ·rfl
       ·show I64 r
        unfold I64
        omega
       ·show I64 (o.length:Int)
        unfold I64
        omega
       ·show OwE wf w.heap.size (.slice A9 L.length cap9) (srt cmpE (rnL es o))
        rw[HLL.out]
        exact ow.mono (by omega)
theorem part_any (v vo:Value) (g:GrD) (o:List Int) (w:World) (h:ArgG w v g) (ho:RdI w vo o) (hg:grB g=true) (hok:OrdOk g.2.1 o):
  Calls Tryz.prog 160 #[v,vo] w fun e w'=> ∃r,e= .returned r∧OwG w' w.heap.size r (rnG g o)∧Below w.heap.size w w':=part_anyN v vo g o w h ho hg hok.toN
end Go.Proofs.YtnjpoljbagfdnaaGreat
namespace Go.Proofs.YtnjpoljbagfdnaaGreat
set_option maxRecDepth 20000
set_option linter.unusedVariables false
set_option linter.unusedSimpArgs false
open Go.RowKit
def bools (bs:List Bool):List Value:=bs.map Value.bool
def OwB (w:World) (base:Nat) (v:Value) (bs:List Bool):Prop:=w.ownsRow base 4 1 v bs.length (bools bs)
section
variable {w w':World} {base n g cap:Nat} {v:Value} {bs:List Bool}
theorem OwB.len (h:OwB w base (.slice (some ⟨g,0,none⟩) n cap) bs):n=bs.length:=by
 rcases h.2 with ⟨hv,_⟩ | ⟨g',cap',cur,hv,_⟩
 ·cases hv
 ·injection hv
theorem OwB.set (h:OwB w base (.slice (some ⟨g,0,none⟩) n cap) bs) (j:Nat) (z:Bool):
  OwB (w.setCell ⟨g,j,none⟩ (.bool z)) base (.slice (some ⟨g,0,none⟩) n cap) (bs.set j z)∧w.grownBy (w.setCell ⟨g,j,none⟩ (.bool z)) (some g):=by
 have hn:=h.len
 subst hn
 obtain⟨h1,h2⟩:=World.ownsRow.stored h j (.bool z)
 refine⟨?_,h2⟩
 unfold OwB
 rw[List.length_set]
 simpa[bools,List.map_set] using h1
theorem OwB.cellAt (h:OwB w base (.slice (some ⟨g,0,none⟩) n cap) bs) (j:Nat) (hj:j<bs.length):w.cell? ⟨g,j,none⟩=some (.bool bs[j]):=by
 have hn:=h.len
 subst hn
 rw[World.ownsRow.cellAt h j (by omega)]
 simp[bools,hj]
theorem OwB.free (h:OwB w base (.slice (some ⟨g,0,none⟩) n cap) bs) (j:Nat):w.frozen? ⟨g,j,none⟩=false:=by
 have hn:=h.len
 subst hn
 exact World.ownsRow.frozenAt h j
end
theorem OwB.below {w w':World} {base:Nat} {v:Value} {bs:List Bool} (h:OwB w base v bs) (hb:Below w.heap.size w w'):OwB w' base v bs:=ownsRow_below h hb
theorem OwB.mono {w:World} {base base':Nat} {v:Value} {bs:List Bool} (h:OwB w base v bs) (hb:base'≤base):OwB w base' v bs:=by
 refine⟨h.1,?_⟩
 rcases h.2 with h0 | ⟨g,cap,cur,hv,hg,r⟩
 ·exact .inl h0
 ·exact .inr ⟨g,cap,cur,hv,by omega,r⟩
def cellF (w:World) (b v:Nat):Nat:=match w.cell? ⟨b,v,none⟩ with
 | some (.bool false)=>1
 | _=>0
def mB (w:World) (b n:Nat):Nat:=((List.range n).map (cellF w b)).sum
theorem sum_count (bs:List Bool):(bs.map fun b=>if b=false then 1 else 0).sum=bs.count false:=by
 induction bs with
 | nil=>rfl
 | cons b bs ih=>cases b<;>simp[ih];omega
theorem mB_eq {w:World} {base g n cap:Nat} {bs:List Bool} (h:OwB w base (.slice (some ⟨g,0,none⟩) n cap) bs):mB w g bs.length=bs.count false:=by
 rw[←sum_count]
 unfold mB
 congr 1
 refine List.ext_getElem (by simp) fun i h1 h2=> ?_
 have hi:i<bs.length:=by simpa using h2
 simp only[List.getElem_map,List.getElem_range]
 unfold cellF
 rw[h.cellAt i hi]
 cases bs[i]<;>rfl
def JI (es:List EdD) (n:Nat) (bs:List Bool):Prop:=bs.length=n∧bs[0]? =some true∧ ∀v:Nat,bs[v]? =some true→Conn es 0 v
theorem set_true_get {bs:List Bool} {a v:Nat}:(bs.set a true)[v]? =some true↔(v=a∧a<bs.length)∨bs[v]? =some true:=by
 rw[List.getElem?_set]
 by_cases e:a=v
 ·subst e
  by_cases hl:a<bs.length
  ·simp[hl]
  ·simp[hl]
 ·rw[if_neg e]
  constructor
  ·exact .inr
  ·rintro(⟨h,_⟩ | h)
   ·exact absurd h.symm e
   ·exact h
theorem count_set_true {bs:List Bool} {a:Nat} (ha:a<bs.length):(bs.set a true).count false+(if bs[a]=false then 1 else 0)=bs.count false:=by
 induction bs generalizing a with
 | nil=>simp at ha
 | cons b bs ih=>
   cases a with
   | zero=>cases b<;>simp
   | succ a=>
     have:=ih (a:=a) (by simpa using ha)
     cases b<;>simp[List.count_cons]<;>omega
theorem JI.step {es:List EdD} {n a c:Nat} {bs:List Bool} {l:Int} (h:JI es n bs) (he:((a:Int),l,(c:Int))∈es) (ha:a<n) (hc:c<n) (hne:bs[a]? ≠bs[c]?):
  JI es n ((bs.set a true).set c true)∧((bs.set a true).set c true).count false<bs.count false:=by
 obtain⟨h1,h2,h3⟩:=h
 have hla:a<bs.length:=by omega
 have hlc:c<bs.length:=by omega
 have e1:bs[a]? =some bs[a]:=by simp[hla]
 have e2:bs[c]? =some bs[c]:=by simp[hlc]
 have hor:bs[a]? =some true∨bs[c]? =some true:=by
  rw[e1,e2] at hne⊢
  cases h:bs[a]<;>cases h':bs[c]<;>simp[h,h'] at hne⊢
 refine⟨⟨by simp[h1],?_,fun v hv=> ?_⟩,?_⟩
 ·rw[set_true_get,set_true_get]
  exact .inr (.inr h2)
 ·rw[set_true_get,set_true_get] at hv
  rcases hv with ⟨rfl,_⟩ | ⟨rfl,_⟩ | hv
  ·rcases hor with h | h
   ·exact Conn.fwd _ he (h3 _ h)
   ·exact h3 _ h
  ·rcases hor with h | h
   ·exact h3 _ h
   ·exact Conn.back _ he (h3 _ h)
  ·exact h3 _ hv
 ·have k1:=count_set_true hla
  have k2:=count_set_true (bs:=bs.set a true) (a:=c) (by simpa using hlc)
  rw[e1,e2] at hne
  have hac:a≠c:=fun e=>by subst e;exact hne rfl
  have k3:(bs.set a true)[c]'(by simpa using hlc)=bs[c]:=by rw[List.getElem_set_ne hac]
  rw[k3] at k2
  cases h:bs[a]<;>cases h':bs[c]<;>simp[h,h'] at hne k1 k2<;>omega
theorem JI.done {es:List EdD} {n:Nat} {bs:List Bool} (h:JI es n bs) (hr: ∀e∈es,0≤e.1∧0≤e.2.2) (hcl: ∀e∈es,bs[e.1.toNat]? =bs[e.2.2.toNat]?):
  ∀v (hv:v<bs.length),bs[v]=hasB (reachL es 0) v:=by
 intro v hv
 have key:bs[v]? =some true↔Conn es 0 v:=by
  refine⟨h.2.2 v,fun hc=> ?_⟩
  have:=conn_of_closed (S:=fun x=>0≤x→bs[x.toNat]? =some true) (v:=0) (fun _=>h.2.1) ?_ hc (by omega)
  ·simpa using this
  ·intro e he
   obtain⟨a,b⟩:=hr e he
   have:=hcl e he
   exact⟨fun hx _=>by rw[←this];exact hx a,fun hx _=>by rw[this];exact hx b⟩
 rw[Bool.eq_iff_iff,hasB_iff,reachL_mem,←key]
 simp[hv]
theorem heapSize_setCell' (w:World) (a:Addr) (u:Value):(w.setCell a u).heap.size=w.heap.size:=by simp
theorem bool_info:(Tryz.prog.info? 4).map (fun i=>(i.zero,i.size,i.bytes))=some (some (.bool false),1,1):=by kernel_rfl
def joinL (g:GrD):List Bool:=(List.range g.2.1.toNat).map fun v=>hasB (reachL g.2.2 0) (v:Nat)
theorem joinL_of {g:GrD} {bs:List Bool} (hl:bs.length=g.2.1.toNat) (h: ∀v (hv:v<bs.length),bs[v]=hasB (reachL g.2.2 0) v):bs=joinL g:=by
 refine List.ext_getElem (by simp[joinL,hl]) fun i h1 h2=> ?_
 rw[h i h1]
 simp[joinL]
set_option maxHeartbeats 1000000 in
theorem joined_any (v:Value) (g:GrD) (w:World) (h:ArgG w v g) (hg:grB g=true):
  Calls Tryz.prog 215 #[v, .int .i64 0] w fun e w'=> ∃r,e= .returned r∧OwB w' w.heap.size r (joinL g)∧Below w.heap.size w w':=by
 have HG:=hDD h
 obtain⟨hr13,hsz40,hl120,_⟩:=grB_parts hg
 have HED:=hDD (fun e he=>edge_of_gr hg (e:=e) he)
 have HJ:Hid (∀bs:List Bool,bs.length=g.2.1.toNat→(∀v (hv:v<bs.length),bs[v]=hasB (reachL g.2.2 0) v)→bs=joinL g):=hDD fun bs=>joinL_of
 generalize joinL g=JL at*
 clear hg h
 obtain⟨r,n,es⟩:=g
 simp only at hr13 hsz40 hl120 HG HED HJ
 obtain⟨N,rfl⟩: ∃N:Nat,n=(N:Int):=⟨n.toNat,by omega⟩
 have hN1:1≤N:=by omega
 have hN2:N≤40:=by omega
 clear hsz40 hr13
 obtain⟨A,cap,rfl,HE⟩: ∃A cap,v= .agg #[.int .i64 r, .int .i64 N, .slice A es.length cap]∧Hid (ArgE w (.slice A es.length cap) es):=by
  obtain⟨s,hv,_,_,ha⟩:=HG.out
  obtain⟨A,cap,rfl⟩:=ha.form
  exact⟨A,cap,hv,hDD ha⟩
 have hbndE:es.length≤cap∧cap≤maxLen:=by
  obtain⟨_,_,hv,h1,h2,_⟩:=HE.out
  injection hv with _ _ e3
  subst e3
  exact⟨h1,h2⟩
 obtain⟨hcap,hm⟩:=hbndE
 unfold maxLen at hm
 have bx:Below w.heap.size w (w.alloc (Obj.cells #[Value.int IntKind.i64 r,Value.int IntKind.i64 N, .slice A es.length cap] 26)):=(by repeat(first | exact Below.refl _ _ | (refine Below.setCell ?_ (by first | omega | (simp<;>omega)) _) | (refine bel_drewN ?_ _) | (refine Below.drew ?_) | (refine Below.alloc ?_ (by first | omega | (simp<;>omega)) _)))
 go_enter Tryz.func215,Tryz.ntmps215
 obtain⟨i0,hi0,hz0,hz1,hz2⟩:=info_parts bool_info
 go_wp2_with (at_make;refine wpList_make_full _ rfl _ _ 64 rfl (w.heap.size+1) 4 i0 (.bool false) 1 Tryz.underlying64 hi0 hz0 hz1 _ _ _ _ N rfl rfl rfl rfl (by rw[hz2];omega) (by unfold maxLen;omega) (by simp) ?_)
 have b1:(w.alloc (Obj.cells #[Value.int IntKind.i64 r,Value.int IntKind.i64 N, .slice A es.length cap] 26)).cell? ⟨w.heap.size,1,none⟩=some (.int .i64 N):=by simp[go_sem]
 have b2:(w.alloc (Obj.cells #[Value.int IntKind.i64 r,Value.int IntKind.i64 N, .slice A es.length cap] 26)).cell? ⟨w.heap.size,2,none⟩=some (.slice A es.length cap):=by simp[go_sem]
 have hsW:(w.alloc (Obj.cells #[Value.int IntKind.i64 r,Value.int IntKind.i64 N, .slice A es.length cap] 26)).heap.size=w.heap.size+1:=by simp
 generalize w.alloc (Obj.cells #[Value.int IntKind.i64 r,Value.int IntKind.i64 N, .slice A es.length cap] 26)=w1 at bx b1 b2 hsW⊢
 rw[←hsW]
 have hlt1:w.heap.size<w1.heap.size:=by omega
 have HSW:=hDD hsW
 clear hsW
 have B2:=hDD b2
 have BX:=hDD bx
 clear b2 bx
 intro w2 hown0 hgrow0
 have own0:OwB w2 w1.heap.size (.slice (some ⟨w1.heap.size,0,none⟩) N N) (List.replicate N false):=by
  unfold OwB
  rw[List.length_replicate]
  have:bools (List.replicate N false)=List.replicate N (Value.bool false):=by simp[bools]
  rw[this]
  simpa[toList_madeCells_one] using hown0
 have hc0:=own0.cellAt 0 (by simp;omega)
 have hf0:=own0.free 0
 have O1:=hDD (own0.set 0 true)
 have G0:=hDD hgrow0
 have hP2:w1.heap.size<w2.heap.size:=(own0.lt w1.heap.size rfl).2
 have j1:(0:Int)<(N:Int):=by omega
 clear hown0 own0 hgrow0
 simp only[List.getElem_replicate] at hc0
 have JI0:Hid (JI es N ((List.replicate N false).set 0 true)):=hDD (by
  refine⟨by simp,?_,fun v hv=> ?_⟩
  ·rw[set_true_get];left;exact⟨rfl,by simp;omega⟩
  ·rw[set_true_get] at hv
   rcases hv with ⟨rfl,_⟩ | hv
   ·exact Conn.base
   ·rw[List.getElem?_replicate] at hv
    split at hv
    ·injection hv with hv;cases hv
    ·cases hv)
 have HR0:Hid (∀e∈es,0≤e.1∧0≤e.2.2):=hDD fun e he=>by have:=HED.out e he;omega
 go_wp2
 go_loopw [6] (fun a wr=> ∃(ag:Bool) (bs:List Bool),a= .bool ag∧JI es N bs∧OwB wr w1.heap.size (.slice (some ⟨w1.heap.size,0,none⟩) N N) bs∧Below w1.heap.size w1 wr∧(ag=false→ ∀e∈es,bs[e.1.toNat]? =bs[e.2.2.toNat]?)) (fun a wr=>2*mB wr w1.heap.size N+(match a with | .bool true=>1 | _=>0))
 case atStart=>exact⟨true,_,rfl,JI0.out,O1.out.1,((Below.refl _ _).grown G0.out (Nat.le_refl _) (fun k h=>by cases h)).grown O1.out.2 (by omega) (fun k h=>by cases h;omega),fun h=>by cases h⟩
 case round=>
  obtain⟨ag,bs,rfl,hji,hown,hbel,hcl⟩:=hrel
  have HJI:=hDD hji
  have HO:=hDD hown
  have HB:=hDD hbel
  have HCL:=hDD hcl
  have hbl:=hji.1
  have hm0:=mB_eq hown
  rw[hbl] at hm0
  have HM:=hDD hm0
  clear hm0
  clear hji hown hcl
  cases ag with
  | false=>
    have HF:Hid (bs=JL):=hDD (HJ.out bs (by simpa using hbl) (HJI.out.done HR0.out (HCL.out rfl)))
    have BB:Hid (Below w.heap.size w wr):=hDD (BX.out.trans (hbel.mono (by omega)))
    have hbase:w.heap.size≤w1.heap.size:=by omega
    clear hbel
    have HOJ:Hid (OwB wr w.heap.size (.slice (some ⟨w1.heap.size,0,none⟩) N N) JL):=hDD (by rw[←HF.out];exact HO.out.mono hbase)
    go_wp2
    exact bodyPost_ret (v:= .slice (some ⟨w1.heap.size,0,none⟩) N N) (by simp[results,Tryz.results215]) rfl ⟨_,rfl,HOJ.out,BB.out⟩
  | true=>
    have q2:=(hbel.cell (p:=⟨w.heap.size,2,none⟩) (show w.heap.size<w1.heap.size from hlt1)).trans B2.out
    clear hbel hbl
    obtain⟨wo,hwo⟩: ∃wo:World,wo=wr:=⟨_,rfl⟩
    have HWO:=hDD hwo
    clear hwo
    go_wp2
    go_loopw [6,19] (fun a i wr=> ∃(k:Nat) (ag:Bool) (b2:List Bool),k≤es.length∧i= .int .i64 k∧a= .bool ag∧JI es N b2∧OwB wr w1.heap.size (.slice (some ⟨w1.heap.size,0,none⟩) N N) b2∧Below w1.heap.size w1 wr∧b2.count false≤bs.count false∧(ag=true→b2.count false<bs.count false)∧(ag=false→ ∀j (hj:j<es.length),j<k→b2[es[j].1.toNat]? =b2[es[j].2.2.toNat]?)) (fun _ i _=>es.length-(intOf i).toNat)
    case atStart=>exact⟨0,false,bs,Nat.zero_le _,rfl,rfl,HJI.out,HO.out,HB.out,Nat.le_refl _,(fun h=>by cases h),fun _ j hj h=>absurd h (by omega)⟩
    case round=>
     obtain⟨k,ag,b2,hk,rfl,rfl,hji2,hown2,hbel2,hle2,hlt2,hcl2⟩:=hrel
     have HJ2:=hDD hji2
     have HO2:=hDD hown2
     have HB2:=hDD hbel2
     have HLE:=hDD hle2
     have HLT:=hDD hlt2
     have HC2:=hDD hcl2
     have hbl2:=hji2.1
     have hP:=(hown2.lt w1.heap.size rfl).2
     have s12:=hbel2.size
     clear hji2 hle2 hlt2 hcl2
     by_cases hlt:k<es.length
     ·obtain⟨be,offe,rfl,hbe,c0,c1,c2,he64⟩:=(HE.out.below (BX.out.trans (hbel2.mono (by omega)))).at hlt
      obtain⟨e1,e2,e3⟩:=HED.out es[k] (by simp)
      have hmem:es[k]∈es:=by simp
      have HX:Hid (∃x,es[k]=x):=hDD ⟨_,rfl⟩
      generalize hx:es[k]=e at c0 c1 c2 he64 e1 e2 e3 hmem
      have HX:=hDD hx
      clear hx
      obtain⟨f,l,t⟩:=e
      simp only at e1 e2 e3 c0 c1 c2
      obtain⟨a,rfl⟩: ∃a:Nat,f=(a:Int):=⟨f.toNat,by omega⟩
      obtain⟨c,rfl⟩: ∃c:Nat,t=(c:Int):=⟨t.toNat,by omega⟩
      have ha:a<b2.length:=by omega
      have hc:c<b2.length:=by omega
      have ca:=hown2.cellAt a ha
      have cc:=hown2.cellAt c hc
      have ga:b2[a]? =some b2[a]:=by simp[ha]
      have gc:b2[c]? =some b2[c]:=by simp[hc]
      have GA:=hDD ga
      have GC:=hDD gc
      have ja:(a:Int)<(N:Int):=by omega
      have jc:(c:Int)<(N:Int):=by omega
      have ja0:(0:Int)≤(a:Int):=by omega
      have jc0:(0:Int)≤(c:Int):=by omega
      have hfa:=hown2.free a
      have hfc:=hown2.free c
      have HSTEP:Hid (b2[a]? ≠b2[c]? →JI es N ((b2.set a true).set c true)∧((b2.set a true).set c true).count false<b2.count false):=hDD fun h=>HJ2.out.step hmem (by omega) (by omega) h
      have HMEM:=hDD hmem
      have bA:Below wr.heap.size wr (wr.alloc (Obj.cells #[Value.int IntKind.i64 a,Value.int IntKind.i64 l,Value.int IntKind.i64 c] 97)):=(Below.refl _ _).alloc (Nat.le_refl _) _
      have BA:=hDD bA
      generalize b2[a]=ba at*
      generalize b2[c]=bc at*
      clear ga gc he64 hown2 hbel2 hmem bA ha hc hbl2
      go_wp2_with fail
      have l0:(wr.alloc (Obj.cells #[Value.int IntKind.i64 a,Value.int IntKind.i64 l,Value.int IntKind.i64 c] 97)).cell? ⟨wr.heap.size,0,none⟩=some (.int .i64 a):=by simp[go_sem]
      have l2:(wr.alloc (Obj.cells #[Value.int IntKind.i64 a,Value.int IntKind.i64 l,Value.int IntKind.i64 c] 97)).cell? ⟨wr.heap.size,2,none⟩=some (.int .i64 c):=by simp[go_sem]
      have la:=(BA.out.cell (p:=⟨w1.heap.size,a,none⟩) hP).trans ca
      have lc:=(BA.out.cell (p:=⟨w1.heap.size,c,none⟩) hP).trans cc
      have lfa:=(BA.out.frozen (p:=⟨w1.heap.size,a,none⟩) hP).trans hfa
      have lfc:=(BA.out.frozen (p:=⟨w1.heap.size,c,none⟩) hP).trans hfc
      have hsA:wr.heap.size<(wr.alloc (Obj.cells #[Value.int IntKind.i64 a,Value.int IntKind.i64 l,Value.int IntKind.i64 c] 97)).heap.size:=by simp
      clear ca cc hfa hfc c0 c1 c2
      generalize wr.alloc (Obj.cells #[Value.int IntKind.i64 a,Value.int IntKind.i64 l,Value.int IntKind.i64 c] 97)=W at BA l0 l2 la lc lfa lfc hsA⊢
      have hPW:w1.heap.size<W.heap.size:=by omega
      have hne1:wr.heap.size≠w1.heap.size:=by omega
      cases ba<;>cases bc
      ·have CLX:Hid (b2[a]? =b2[c]?):=hDD (by rw[GA.out,GC.out])
       go_quiet (fail)
       go_wp2
       go_roundw
       case rel=>
        refine⟨k+1,ag,b2,by omega,by go_num,rfl,HJ2.out,HO2.out.below (bel_drewN BA.out _),HB2.out.trans ((bel_drewN BA.out _).mono (by omega)),HLE.out,HLT.out,fun h j hj hjk=> ?_⟩
        rcases Nat.lt_or_eq_of_le (Nat.le_of_lt_succ hjk) with h2 | rfl
        ·exact HC2.out h j hj h2
        ·rw[HX.out];simpa using CLX.out
       case measure=>simp[intOf];omega
      ·have STP:=hDD (HSTEP.out (by rw[GA.out,GC.out];simp))
       go_quiet (fail)
       have O3:=hDD ((HO2.out.below (bel_drewN BA.out nq)).set a true)
       have O4:=hDD (O3.out.1.set c true)
       have l9:=O3.out.1.cellAt c (by rw[List.length_set];have:=HJ2.out.1;omega)
       have f9:=O3.out.1.free c
       generalize (b2.set a true)[c]'(by rw[List.length_set];have:=HJ2.out.1;omega)=z9 at l9
       go_wp2
       go_roundw
       case rel=>
        refine⟨k+1,true,_,by omega,by go_num,rfl,STP.out.1,O4.out.1,?_,?_,fun _=> ?_,fun h=>by cases h⟩
        ·have b5:=HB2.out.trans ((bel_drewN BA.out nq).mono (by omega))
         exact(b5.grown O3.out.2 (show w1.heap.size≤W.heap.size by omega) (fun j hj=>by cases hj;exact Nat.le_refl _)).grown O4.out.2 (by rw[heapSize_setCell'];exact Nat.le_of_lt hPW) (fun j hj=>by cases hj;exact Nat.le_refl _)
        ·have:=STP.out.2;have:=HLE.out;omega
        ·have:=STP.out.2;have:=HLE.out;omega
       case measure=>simp[intOf];omega
      ·have STP:=hDD (HSTEP.out (by rw[GA.out,GC.out];simp))
       go_quiet (fail)
       have O3:=hDD ((HO2.out.below (bel_drewN BA.out nq)).set a true)
       have O4:=hDD (O3.out.1.set c true)
       have l9:=O3.out.1.cellAt c (by rw[List.length_set];have:=HJ2.out.1;omega)
       have f9:=O3.out.1.free c
       generalize (b2.set a true)[c]'(by rw[List.length_set];have:=HJ2.out.1;omega)=z9 at l9
       go_wp2
       go_roundw
       case rel=>
        refine⟨k+1,true,_,by omega,by go_num,rfl,STP.out.1,O4.out.1,?_,?_,fun _=> ?_,fun h=>by cases h⟩
        ·have b5:=HB2.out.trans ((bel_drewN BA.out nq).mono (by omega))
         exact(b5.grown O3.out.2 (show w1.heap.size≤W.heap.size by omega) (fun j hj=>by cases hj;exact Nat.le_refl _)).grown O4.out.2 (by rw[heapSize_setCell'];exact Nat.le_of_lt hPW) (fun j hj=>by cases hj;exact Nat.le_refl _)
        ·have:=STP.out.2;have:=HLE.out;omega
        ·have:=STP.out.2;have:=HLE.out;omega
       case measure=>simp[intOf];omega
      ·have CLX:Hid (b2[a]? =b2[c]?):=hDD (by rw[GA.out,GC.out])
       go_quiet (fail)
       go_wp2
       go_roundw
       case rel=>
        refine⟨k+1,ag,b2,by omega,by go_num,rfl,HJ2.out,HO2.out.below (bel_drewN BA.out _),HB2.out.trans ((bel_drewN BA.out _).mono (by omega)),HLE.out,HLT.out,fun h j hj hjk=> ?_⟩
        rcases Nat.lt_or_eq_of_le (Nat.le_of_lt_succ hjk) with h2 | rfl
        ·exact HC2.out h j hj h2
        ·rw[HX.out];simpa using CLX.out
       case measure=>simp[intOf];omega
     ·obtain rfl:k=es.length:=by omega
      have hm2:=mB_eq hown2
      rw[hbl2] at hm2
      have HM2:=hDD hm2
      clear hm2 hown2 hbel2
      go_wp2
      go_roundw
      case rel=>exact⟨ag,b2,rfl,HJ2.out,HO2.out,HB2.out,fun h e he=>by obtain⟨j,hj,rfl⟩:=List.getElem_of_mem he;exact HC2.out h j hj hj⟩
      case measure=>
       rw[HM.out,HM2.out]
       cases ag with
       | false=>
         have:=HLE.out
         show 2*_+0<2*_+1
         omega
       | true=>
         have:=HLT.out rfl
         show 2*_+1<2*_+1
         omega
theorem delO_len2 (x:Int): ∀n:Nat,(delO n x).length=if 0≤x∧x<n then n-1 else n
 | 0=>by
   rw[if_neg (by omega)]
   rfl
 | n+1=>by
   rw[delO_succ]
   have ih:=delO_len2 x n
   by_cases h:(n:Int)≠x
   ·rw[if_pos h,List.length_append,ih]
    by_cases h2:0≤x∧x<n
    ·rw[if_pos h2,if_pos (by omega)]
     simp
     omega
    ·rw[if_neg h2,if_neg (by omega)]
     rfl
   ·rw[if_neg h,ih,if_neg (by omega),if_pos (by omega)]
    omega
def trimF:Nat→GrD→List Int→GrD×List Int
 | 0,g,l=>(g,l)
 | f+1,g,l=>if leafV g.2.2 g.2.1.toNat<0 then(g,l) else trimF f (rnG g (delO g.2.1.toNat (leafV g.2.2 g.2.1.toNat))) (l.take (leafV g.2.2 g.2.1.toNat).toNat++l.drop ((leafV g.2.2 g.2.1.toNat).toNat+1))
theorem trimF_stop {g:GrD} (l:List Int) (h:leafV g.2.2 g.2.1.toNat<0): ∀f,trimF f g l=(g,l)
 | 0=>rfl
 | f+1=>by unfold trimF;rw[if_pos h]
theorem rnG_size (g:GrD) (o:List Int):(rnG g o).2.1=(o.length:Int):=rfl
theorem trimF_step {g:GrD} (l:List Int) {u:Nat} (hu:leafV g.2.2 g.2.1.toNat=(u:Int)) (hn:u<g.2.1.toNat):
  trimF g.2.1.toNat g l=trimF (rnG g (delO g.2.1.toNat u)).2.1.toNat (rnG g (delO g.2.1.toNat u)) (l.take u++l.drop (u+1)):=by
 rw[rnG_size,delO_len2,if_pos (by omega)]
 obtain⟨f,hf⟩: ∃f,g.2.1.toNat=f+1:=⟨g.2.1.toNat-1,by omega⟩
 have e:((g.2.1.toNat-1:Nat):Int).toNat=f:=by omega
 rw[e]
 have e2:trimF (f+1) g l=if leafV g.2.2 g.2.1.toNat<0 then(g,l) else trimF f (rnG g (delO g.2.1.toNat (leafV g.2.2 g.2.1.toNat))) (l.take (leafV g.2.2 g.2.1.toNat).toNat++l.drop ((leafV g.2.2 g.2.1.toNat).toNat+1)):=rfl
 rw[show trimF g.2.1.toNat g l=trimF (f+1) g l by rw[hf],e2,hu,if_neg (by omega)]
 simp
theorem trimF_le: ∀(f:Nat) (g:GrD) (l:List Int),grB g=true→(trimF f g l).1.2.1≤g.2.1:=by
 intro f
 induction f with
 | zero=>intro g l _;exact Int.le_refl _
 | succ f ih=>
   intro g l hg
   unfold trimF
   obtain⟨_,hsz,_,_⟩:=grB_parts hg
   rcases leafV_range g.2.2 g.2.1.toNat with h | ⟨h1,h2⟩
   ·rw[if_pos (by omega)]
    exact Int.le_refl _
   ·rw[if_neg (by omega)]
    have hd:=delO_len2 (leafV g.2.2 g.2.1.toNat) g.2.1.toNat
    rw[if_pos (by omega)] at hd
    have hok:=delO_ok (n:=g.2.1.toNat) (by omega) h1
    rw[show((g.2.1.toNat:Nat):Int)=g.2.1 by omega] at hok
    have:=ih (rnG g (delO g.2.1.toNat (leafV g.2.2 g.2.1.toNat))) (l.take (leafV g.2.2 g.2.1.toNat).toNat++l.drop ((leafV g.2.2 g.2.1.toNat).toNat+1)) (grB_rnG hg hok)
    rw[rnG_size,hd] at this
    omega
def trimG (g:GrD):GrD×List Int:=trimF g.2.1.toNat g ((List.range g.2.1.toNat).map fun v=>((v:Nat):Int))
theorem trimG_size {g:GrD} (hg:grB g=true):decide ((trimG g).1.2.1=g.2.1)=decide (leafV g.2.2 g.2.1.toNat<0):=by
 obtain⟨_,hsz,_,_⟩:=grB_parts hg
 unfold trimG
 rcases leafV_range g.2.2 g.2.1.toNat with h | ⟨h1,h2⟩
 ·rw[trimF_stop _ (by omega)]
  simp[h]
 ·obtain⟨u,hu⟩: ∃u:Nat,leafV g.2.2 g.2.1.toNat=(u:Int):=⟨(leafV g.2.2 g.2.1.toNat).toNat,by omega⟩
  rw[trimF_step _ hu (by omega)]
  have hok:=delO_ok (n:=g.2.1.toNat) (x:=(u:Int)) (by omega) (by omega)
  rw[show((g.2.1.toNat:Nat):Int)=g.2.1 by omega] at hok
  have hd:=delO_len2 (u:Int) g.2.1.toNat
  rw[if_pos (by omega)] at hd
  have:=trimF_le (rnG g (delO g.2.1.toNat u)).2.1.toNat (rnG g (delO g.2.1.toNat u)) (((List.range g.2.1.toNat).map fun v=>((v:Nat):Int)).take u++((List.range g.2.1.toNat).map fun v=>((v:Nat):Int)).drop (u+1)) (grB_rnG hg hok)
  rw[rnG_size g,hd] at this
  have e1:decide (leafV g.2.2 g.2.1.toNat<0)=false:=by rw[hu];simp
  rw[e1]
  rw[decide_eq_false_iff_not]
  rw[rnG_size,hd]
  omega
def slN:Value→Nat
 | .slice _ n _=>n
 | _=>0
def rng (n:Nat):List Int:=(List.range n).map fun v=>((v:Nat):Int)
theorem rng_succ (n:Nat):rng (n+1)=rng n++ [(n:Int)]:=by simp[rng,List.range_succ]
theorem rng_len (n:Nat):(rng n).length=n:=by simp[rng]
theorem joinL_get {g:GrD} (k:Nat) (h:k<g.2.1.toNat):(joinL g)[k]'(by simpa[joinL] using h)=hasB (reachL g.2.2 0) k:=by simp[joinL]
theorem joinL_len (g:GrD):(joinL g).length=g.2.1.toNat:=by simp[joinL]
set_option maxHeartbeats 2000000 in
theorem trimGraph_any (v:Value) (g:GrD) (w:World) (h:ArgG w v g) (hg:grB g=true):
  Calls Tryz.prog 170 #[v] w fun e w'=> ∃r l,e= .returned (.tuple #[r,l])∧OwG w' w.heap.size r (trimG g).1∧OwI w' w.heap.size l (trimG g).2∧Below w.heap.size w w':=by
 have HG:=hDD h
 have HGR:=hDD hg
 obtain⟨hr13,hsz40,hl120,_⟩:=grB_parts hg
 have HT:Hid (trimG g=trimF g.2.1.toNat g (rng g.2.1.toNat)):=hDD rfl
 generalize trimG g=R at*
 clear hg h
 obtain⟨r,n,es⟩:=g
 simp only at hr13 hsz40 hl120 HG HT
 obtain⟨N,rfl⟩: ∃N:Nat,n=(N:Int):=⟨n.toNat,by omega⟩
 simp only[Int.toNat_natCast] at HT
 have hN1:1≤N:=by omega
 have hN2:N≤40:=by omega
 clear hsz40
 obtain⟨A,cap,rfl⟩: ∃A cap,v= .agg #[.int .i64 r, .int .i64 N, .slice A es.length cap]:=by
  obtain⟨s,hv,_,_,ha⟩:=HG.out
  obtain⟨A,cap,rfl⟩:=ha.form
  exact⟨A,cap,hv⟩
 have bx:Below w.heap.size w ((w.alloc (Obj.cells #[Value.int IntKind.i64 r,Value.int IntKind.i64 N, .slice A es.length cap] 26)).alloc (Obj.cells #[Value.int IntKind.i64 0,Value.int IntKind.i64 0, .slice none 0 0] 26)):=(by repeat(first | exact Below.refl _ _ | (refine Below.setCell ?_ (by first | omega | (simp<;>omega)) _) | (refine bel_drewN ?_ _) | (refine Below.drew ?_) | (refine Below.alloc ?_ (by first | omega | (simp<;>omega)) _)))
 go_enter Tryz.func170,Tryz.ntmps170
 go_wp2_with fail
 obtain⟨W0,hW0⟩: ∃W,W=(w.alloc (Obj.cells #[Value.int IntKind.i64 r,Value.int IntKind.i64 N, .slice A es.length cap] 26)).alloc (Obj.cells #[Value.int IntKind.i64 0,Value.int IntKind.i64 0, .slice none 0 0] 26):=⟨_,rfl⟩
 rw[←hW0] at bx⊢
 have hsW:W0.heap.size=w.heap.size+1+1:=by rw[hW0];simp
 have B0:Hid (W0.cell? ⟨w.heap.size,0,none⟩=some (.int .i64 r)):=hDD (by rw[hW0];simp[go_sem])
 have B1:Hid (W0.cell? ⟨w.heap.size,1,none⟩=some (.int .i64 N)):=hDD (by rw[hW0];simp[go_sem])
 have B2:Hid (W0.cell? ⟨w.heap.size,2,none⟩=some (.slice A es.length cap)):=hDD (by rw[hW0];simp[go_sem])
 have R0:Hid (W0.cell? ⟨w.heap.size+1,0,none⟩=some (.int .i64 0)):=hDD (by rw[hW0];simp[go_sem])
 have R1:Hid (W0.cell? ⟨w.heap.size+1,1,none⟩=some (.int .i64 0)):=hDD (by rw[hW0];simp[go_sem])
 have R2:Hid (W0.cell? ⟨w.heap.size+1,2,none⟩=some (.slice none 0 0)):=hDD (by rw[hW0];simp[go_sem])
 have RF:Hid (∀j,W0.frozen? ⟨w.heap.size+1,j,none⟩=false):=hDD fun j=>by rw[hW0];simp[go_sem]
 clear hW0
 have BX:=hDD bx
 have HSW:=hDD hsW
 have hltw:w.heap.size<W0.heap.size:=by omega
 have hltw1:w.heap.size+1<W0.heap.size:=by omega
 refine(copyGraph_any _ (r,(N:Int),es) W0 (HG.out.below bx) (by simp only;omega)).mono ?_
 clear bx hsW
 rintro e w1 ⟨r1,rfl,o1,b1⟩
 obtain⟨s1,rfl,hi1,hi2,oe⟩:=o1
 simp only at hi1 hi2 oe⊢
 obtain⟨A1,cap1,rfl,hcap1,hm1,_⟩:=OwE.form oe
 have OE:=hDD oe
 have hlt1: ∀b,(Value.slice A1 es.length cap1).ownBlock=some b→b<w1.heap.size:=fun b hb=>(oe.1.lt b hb).2
 have q0:=(b1.cell (p:=⟨w.heap.size,0,none⟩) hltw).trans B0.out
 have q1:=(b1.cell (p:=⟨w.heap.size,1,none⟩) hltw).trans B1.out
 have q2:=(b1.cell (p:=⟨w.heap.size,2,none⟩) hltw).trans B2.out
 have RQ0:=hDD ((b1.cell (p:=⟨w.heap.size+1,0,none⟩) hltw1).trans R0.out)
 have RQ1:=hDD ((b1.cell (p:=⟨w.heap.size+1,1,none⟩) hltw1).trans R1.out)
 have RQ2:=hDD ((b1.cell (p:=⟨w.heap.size+1,2,none⟩) hltw1).trans R2.out)
 have RQF:Hid (∀j,w1.frozen? ⟨w.heap.size+1,j,none⟩=false):=hDD fun j=>(b1.frozen (p:=⟨w.heap.size+1,j,none⟩) hltw1).trans (RF.out j)
 have HB1:Hid (Below w.heap.size w w1):=hDD (BX.out.trans (b1.mono (by omega)))
 have s1:=b1.size
 have HLT1:=hDD hlt1
 clear oe hlt1 b1 B0 B1 B2 R0 R1 R2 RF
 have hw1:w.heap.size<w1.heap.size:=by omega
 have hw11:w.heap.size+1<w1.heap.size:=by omega
 go_wp2_with fail
 have bA:Below w1.heap.size w1 ((w1.alloc (Obj.cells #[Value.int IntKind.i64 r,Value.int IntKind.i64 N, .slice A1 es.length cap1] 26)).alloc (Obj.cells #[] 3)):=(by repeat(first | exact Below.refl _ _ | (refine Below.setCell ?_ (by first | omega | (simp<;>omega)) _) | (refine bel_drewN ?_ _) | (refine Below.drew ?_) | (refine Below.alloc ?_ (by first | omega | (simp<;>omega)) _)))
 obtain⟨W2,hW2⟩: ∃W,W=(w1.alloc (Obj.cells #[Value.int IntKind.i64 r,Value.int IntKind.i64 N, .slice A1 es.length cap1] 26)).alloc (Obj.cells #[] 3):=⟨_,rfl⟩
 have o0:OwI W2 (w1.heap.size+1) (.slice (some ⟨w1.heap.size+1,0,none⟩) 0 0) (rng 0):=by
  rw[hW2]
  exact OwI_litN _ [] (w1.heap.size+1) (by simp) (fun _ h=>by cases h) (by simp) (Nat.le_refl _)
 have G0:Hid (W2.cell? ⟨w1.heap.size,0,none⟩=some (.int .i64 r)):=hDD (by rw[hW2];simp[go_sem])
 have G1:Hid (W2.cell? ⟨w1.heap.size,1,none⟩=some (.int .i64 N)):=hDD (by rw[hW2];simp[go_sem])
 have G2:Hid (W2.cell? ⟨w1.heap.size,2,none⟩=some (.slice A1 es.length cap1)):=hDD (by rw[hW2];simp[go_sem])
 have GF:Hid (∀j,W2.frozen? ⟨w1.heap.size,j,none⟩=false):=hDD fun j=>by rw[hW2];simp[go_sem]
 have hs2:W2.heap.size=w1.heap.size+1+1:=by rw[hW2];simp
 rw[←hW2] at bA⊢
 clear hW2
 have hig:=implIsGraph_any _ (r,(N:Int),es) W2 ((HG.out.below HB1.out).below bA)
 rw[HGR.out] at hig
 have HIG:=hDD hig
 clear hig
 refine HIG.out.mono ?_
 rintro e w3 ⟨rfl,b3⟩
 have s3:=b3.size
 have hg03:w1.heap.size<W2.heap.size:=by omega
 have bA3:=bA.trans (b3.mono (by omega))
 have BA3:=hDD bA3
 have B3:=hDD b3
 have OE3:=hDD (OE.out.below bA3)
 have O03:=hDD (o0.below b3)
 have QN:=hDD ((bA3.cell (p:=⟨w.heap.size,1,none⟩) hw1).trans q1)
 have G03:=hDD ((b3.cell (p:=⟨w1.heap.size,0,none⟩) hg03).trans G0.out)
 have G13:=hDD ((b3.cell (p:=⟨w1.heap.size,1,none⟩) hg03).trans G1.out)
 have G23:=hDD ((b3.cell (p:=⟨w1.heap.size,2,none⟩) hg03).trans G2.out)
 have GF3:Hid (∀j,w3.frozen? ⟨w1.heap.size,j,none⟩=false):=hDD fun j=>(b3.frozen (p:=⟨w1.heap.size,j,none⟩) hg03).trans (GF.out j)
 clear bA b3 bA3 o0 q0 q1 q2 G0 G1 G2 GF HIG
 go_wp2
 go_loopw [5,6] (fun l i wr=> ∃k:Nat,k≤N∧i= .int .i64 k∧OwI wr (w1.heap.size+1) l (rng k)∧Below (w1.heap.size+1) w3 wr) (fun _ i _=>N-(intOf i).toNat)
 case atStart=>exact⟨0,Nat.zero_le _,rfl,O03.out,Below.refl _ _⟩
 case round=>
  obtain⟨k,hk,rfl,hown,hbel⟩:=hrel
  have HO:=hDD hown
  have HB:=hDD hbel
  have hs:=hbel.size
  have qn:=(hbel.cell (p:=⟨w.heap.size,1,none⟩) (by show w.heap.size<w1.heap.size+1;omega)).trans QN.out
  have hlk:=rng_len k
  obtain⟨Al,capl,rfl,_⟩:=OwI.form hown
  clear hown hbel
  by_cases hlt:k<N
  ·have HK:Hid (I64 (k:Int)):=hDD ⟨by omega,by omega⟩
   have HRS:=hDD (rng_succ k)
   go_wp2_with (at_builtin;refine push_int rfl (.tmp 26) (.tmp 28) rfl _ _ _ (OwI.alloc HO.out _) rfl _ _ rfl (cell_new1 _ _ _) HK.out (by first | omega | (simp<;>omega)) (by first | omega | (simp<;>omega)) ?_;intro v9 wv9 o9 g9 p9)
   go_roundw
   case rel=>exact⟨k+1,by omega,by go_num,by rw[HRS.out];exact o9,bel_push HB.out (by omega) HO.out.1 (Nat.le_refl _) g9⟩
   case measure=>simp[intOf];omega
  ·obtain rfl:k=N:=by omega
   have GE:Hid (OwE wr W0.heap.size (.slice A1 es.length cap1) es):=hDD (OE3.out.keep fun b hb=>HB.out.block b (by have:=HLT1.out b hb;omega))
   have GC0:=hDD ((HB.out.cell (p:=⟨w1.heap.size,0,none⟩) (by show w1.heap.size<w1.heap.size+1;omega)).trans G03.out)
   have GC1:=hDD ((HB.out.cell (p:=⟨w1.heap.size,1,none⟩) (by show w1.heap.size<w1.heap.size+1;omega)).trans G13.out)
   have GC2:=hDD ((HB.out.cell (p:=⟨w1.heap.size,2,none⟩) (by show w1.heap.size<w1.heap.size+1;omega)).trans G23.out)
   have GCF:Hid (∀j,wr.frozen? ⟨w1.heap.size,j,none⟩=false):=hDD fun j=>(HB.out.frozen (p:=⟨w1.heap.size,j,none⟩) (by show w1.heap.size<w1.heap.size+1;omega)).trans (GF3.out j)
   have BB:Hid (Below w1.heap.size w1 wr):=hDD (BA3.out.trans (HB.out.mono (by omega)))
   have hwlt:w1.heap.size<wr.heap.size:=by omega
   clear G03 G13 G23 GF3 O03 OE3 BA3 B3 QN
   go_wp2
   go_loopw [5] (fun l wr=> ∃(gg:GrD) (xs:List Int) (A':Option Addr) (cap':Nat),grB gg=true∧R=trimF gg.2.1.toNat gg xs∧xs.length=gg.2.1.toNat∧OwI wr (w1.heap.size+1) l xs∧wr.cell? ⟨w1.heap.size,0,none⟩=some (.int .i64 gg.1)∧wr.cell? ⟨w1.heap.size,1,none⟩=some (.int .i64 gg.2.1)∧wr.cell? ⟨w1.heap.size,2,none⟩=some (.slice A' gg.2.2.length cap')∧(∀j,wr.frozen? ⟨w1.heap.size,j,none⟩=false)∧OwE wr W0.heap.size (.slice A' gg.2.2.length cap') gg.2.2∧(∀b,(Value.slice A' gg.2.2.length cap').ownBlock=some b→l.ownBlock≠some b)∧Below w1.heap.size w1 wr∧w1.heap.size<wr.heap.size) (fun l _=>slN l)
   case atStart=>exact⟨(r,(k:Int),es),rng k,A1,cap1,HGR.out,HT.out,hlk,HO.out,GC0.out,GC1.out,GC2.out,GCF.out,GE.out,fun b hb he=>by have h1:=HLT1.out b hb;have h2:=HO.out.1.lt b he;omega,BB.out,hwlt⟩
   case round=>
    clear HT HO GC0 GC1 GC2 GCF GE BB HLT1
    obtain⟨gg,xs,A',cap',hgg,hR,hxl,hown,hc0,hc1,hc2,hcf,hoe,hne,hbel,hlw⟩:=hrel
    obtain⟨wq,rfl⟩: ∃wq:World,wq=wr:=⟨_,rfl⟩
    obtain⟨hr2,hsz2,hle2,_⟩:=grB_parts hgg
    obtain⟨r2,n2,es2⟩:=gg
    simp only at hR hxl hc0 hc1 hc2 hoe hne hsz2 hle2 hr2
    obtain⟨M,rfl⟩: ∃M:Nat,n2=(M:Int):=⟨n2.toNat,by omega⟩
    simp only[Int.toNat_natCast] at hxl hR
    have hM1:1≤M:=by omega
    have hM2:M≤40:=by omega
    clear hsz2
    have HGG:=hDD hgg
    have HR:=hDD hR
    have HO:=hDD hown
    have HOE:=hDD hoe
    have HNE:=hDD hne
    have HCF:=hDD hcf
    have HBEL:=hDD hbel
    have hs:=hbel.size
    obtain⟨Al,capl,rfl,hlc,hml,_,hf⟩:=OwI.form hown
    obtain⟨gl,rfl,hgl1,hgl2⟩:=hf (by omega)
    have hcapE:es2.length≤cap':=by obtain⟨_,_,e,h1,_⟩:=OwE.form hoe;injection e with _ _ e3;subst e3;exact h1
    have HA:Hid (∀w',Below wq.heap.size wq w'→ArgG w' (.agg #[.int .i64 r2, .int .i64 M, .slice A' es2.length cap']) (r2,(M:Int),es2)):=hDD fun w' hb=>⟨_,rfl,by show I64 r2;unfold I64;omega,by show I64 (M:Int);unfold I64;omega,(HOE.out.below hb).arg⟩
    clear hgg hR hown hoe hne hcf hbel hf
    go_wp2_with fail
    refine(joined_any _ (r2,(M:Int),es2) wq (HA.out _ (Below.refl _ _)) HGG.out).mono ?_
    rintro e wj ⟨rj,rfl,oj,bj⟩
    obtain⟨Aj,capj,rfl,hjc,_,_,hfj⟩:=owns_form oj
    rw[joinL_len] at hfj hjc⊢
    simp only[Int.toNat_natCast] at hfj hjc⊢
    obtain⟨gj,rfl,hgj1,hgj2⟩:=hfj (by omega)
    have sj:=bj.size
    have HJC:Hid (∀k:Nat,k<M→wj.cell? ⟨gj,k,none⟩=some (.bool (hasB (reachL es2 0) k))):=hDD fun k hk=>by
     have h1:=OwB.cellAt oj k (by rw[joinL_len];simpa using hk)
     rw[joinL_get k (by simpa using hk)] at h1
     exact h1
    have HBJ:=hDD bj
    have d0:=hDD ((bj.cell (p:=⟨w1.heap.size,0,none⟩) hlw).trans hc0)
    have d1:=hDD ((bj.cell (p:=⟨w1.heap.size,1,none⟩) hlw).trans hc1)
    have d2:=hDD ((bj.cell (p:=⟨w1.heap.size,2,none⟩) hlw).trans hc2)
    have dF:Hid (∀j,wj.frozen? ⟨w1.heap.size,j,none⟩=false):=hDD fun j=>(bj.frozen (p:=⟨w1.heap.size,j,none⟩) hlw).trans (HCF.out j)
    have hlj:w1.heap.size<wj.heap.size:=by omega
    clear oj bj hfj hc0 hc1 hc2 HCF
    obtain⟨U,hU⟩: ∃U,U=leafV es2 M:=⟨_,rfl⟩
    have HU:=hDD hU
    have HLB:Hid (∀k:Nat,leafB es2 k=(decide (degL es2 k<2)|| !hasB (reachL es2 0) k)):=hDD fun k=>rfl
    clear hU
    go_wp2
    go_loopw [8,9] (fun a i wg=> ∃k:Nat,i= .int .i64 k∧1≤k∧k≤M∧((a= .int .i64 0∧leafFrom es2 M (M-k) k=U)∨(∃u:Nat,a= .int .i64 u∧U=(u:Int)∧1≤u∧u<M∧k=u+1))∧Below wj.heap.size wj wg) (fun _ i _=>M+1-(intOf i).toNat)
    case atStart=>exact⟨1,rfl,Nat.le_refl _,hM1, .inl ⟨rfl,by rw[HU.out];rfl⟩,Below.refl _ _⟩
    case round=>
     obtain⟨k,rfl,hk1,hk,hcase,hbg⟩:=hrel
     have HBG:=hDD hbg
     have hsg:=hbg.size
     have e0:=(hbg.cell (p:=⟨w1.heap.size,0,none⟩) hlj).trans d0.out
     have e1:=(hbg.cell (p:=⟨w1.heap.size,1,none⟩) hlj).trans d1.out
     have e2:=(hbg.cell (p:=⟨w1.heap.size,2,none⟩) hlj).trans d2.out
     clear hbg
     rcases hcase with ⟨rfl,hlf⟩ | ⟨u,rfl,hUu,hu1,huM,rfl⟩
     ·have HLF:=hDD hlf
      clear hlf
      by_cases hlt:k<M
      ·have hj0:=(HBG.out.cell (p:=⟨gj,k,none⟩) hgj2).trans (HJC.out k hlt)
       have LB:=hDD (HLB.out k)
       have hki:(k:Int)<(M:Int):=by omega
       have hdle:degL es2 k≤240:=by have:=degL_le es2 k es2.length;rw[List.take_length] at this;omega
       go_wp2_with fail
       refine(implDegreeOf_any _ (r2,(M:Int),es2) k _ (HA.out _ (HBJ.out.trans (HBG.out.mono sj))) (by simp only;omega)).mono ?_
       rintro e w7 ⟨rfl,b7⟩
       have B7:=hDD b7
       have s7:=b7.size
       have hj7:=(b7.cell (p:=⟨gj,k,none⟩) (by show gj<wr.heap.size;omega)).trans hj0
       clear b7 hj0
       simp only
       generalize degL es2 k=d at*
       by_cases hd:d<2
       ·have hdi:(d:Int)<2:=by omega
        have F:=hDD (leafFrom_hit hlt (by rw[LB.out];simp[hd]))
        go_wp2
        go_roundw
        case rel=>exact⟨k+1,by go_num,by omega,by omega, .inr ⟨k,rfl,by rw[←HLF.out,F.out],hk1,hlt,rfl⟩,HBG.out.trans (B7.out.mono hsg)⟩
        case measure=>simp[intOf];omega
       ·have hdi: ¬(d:Int)<2:=by omega
        rcases h1:hasB (reachL es2 0) k with _ | _
        ·have F:=hDD (leafFrom_hit hlt (by rw[LB.out,h1];simp))
         rw[h1] at hj7
         go_wp2
         go_roundw
         case rel=>exact⟨k+1,by go_num,by omega,by omega, .inr ⟨k,rfl,by rw[←HLF.out,F.out],hk1,hlt,rfl⟩,HBG.out.trans (B7.out.mono hsg)⟩
         case measure=>simp[intOf];omega
        ·have F:=hDD (leafFrom_miss hlt (by rw[LB.out,h1];simp[hd]))
         rw[h1] at hj7
         go_wp2
         go_roundw
         case rel=>exact⟨k+1,by go_num,by omega,by omega, .inl ⟨rfl,by rw[←F.out,HLF.out]⟩,HBG.out.trans (B7.out.mono hsg)⟩
         case measure=>simp[intOf];omega
      ·obtain rfl:k=M:=by omega
       have hUn:U= -1:=by rw[←HLF.out,leafFrom_end]
       have HE:Hid (R=((r2,(k:Int),es2),xs)):=hDD (by rw[HR.out];exact trimF_stop _ (show leafV es2 ((k:Int)).toNat<0 by rw[Int.toNat_natCast,←HU.out,hUn];decide) _)
       have bb:Hid (Below w1.heap.size w1 wr):=hDD (HBEL.out.trans ((HBJ.out.trans (HBG.out.mono sj)).mono (by omega)))
       have rq0:=(bb.out.cell (p:=⟨w.heap.size+1,0,none⟩) hw11).trans RQ0.out
       have rq1:=(bb.out.cell (p:=⟨w.heap.size+1,1,none⟩) hw11).trans RQ1.out
       have rq2:=(bb.out.cell (p:=⟨w.heap.size+1,2,none⟩) hw11).trans RQ2.out
       have rf0:=(bb.out.frozen (p:=⟨w.heap.size+1,0,none⟩) hw11).trans (RQF.out 0)
       have rf1:=(bb.out.frozen (p:=⟨w.heap.size+1,1,none⟩) hw11).trans (RQF.out 1)
       have rf2:=(bb.out.frozen (p:=⟨w.heap.size+1,2,none⟩) hw11).trans (RQF.out 2)
       have ow:=HOE.out.below (HBJ.out.trans (HBG.out.mono sj))
       have ol:=HO.out.below (HBJ.out.trans (HBG.out.mono sj))
       have OW:Hid (OwE (((wr.setCell ⟨w.heap.size+1,0,none⟩ (.int .i64 r2)).setCell ⟨w.heap.size+1,1,none⟩ (.int .i64 k)).setCell ⟨w.heap.size+1,2,none⟩ (.slice A' es2.length cap')) W0.heap.size (.slice A' es2.length cap') es2):=hDD
        (((ow.far (p:=⟨w.heap.size+1,0,none⟩) (by show w.heap.size+1<_;omega) _).far (p:=⟨w.heap.size+1,1,none⟩) (by show w.heap.size+1<_;omega) _).far (p:=⟨w.heap.size+1,2,none⟩) (by show w.heap.size+1<_;omega) _)
       have OL:Hid (OwI (((wr.setCell ⟨w.heap.size+1,0,none⟩ (.int .i64 r2)).setCell ⟨w.heap.size+1,1,none⟩ (.int .i64 k)).setCell ⟨w.heap.size+1,2,none⟩ (.slice A' es2.length cap')) (w1.heap.size+1) (.slice (some ⟨gl,0,none⟩) xs.length capl) xs):=hDD
        (((ol.far (p:=⟨w.heap.size+1,0,none⟩) (by show w.heap.size+1<_;omega) _).far (p:=⟨w.heap.size+1,1,none⟩) (by show w.heap.size+1<_;omega) _).far (p:=⟨w.heap.size+1,2,none⟩) (by show w.heap.size+1<_;omega) _)
       have BBW:=hDD (HB1.out.trans (bb.out.mono (show w.heap.size≤w1.heap.size by omega)))
       clear ow ol
       go_wp2
       obtain⟨c0,c1,c2⟩:=set3_cells wr (w.heap.size+1) (.int .i64 r2) (.int .i64 k) (.slice A' es2.length cap') rq0 rq1 rq2
       have bw:Below w.heap.size w (((wr.setCell ⟨w.heap.size+1,0,none⟩ (.int .i64 r2)).setCell ⟨w.heap.size+1,1,none⟩ (.int .i64 k)).setCell ⟨w.heap.size+1,2,none⟩ (.slice A' es2.length cap')):=(by repeat(first | exact Below.refl _ _ | (refine Below.setCell ?_ (by first | omega | (simp<;>omega)) _) | (refine bel_drewN ?_ _) | (refine Below.drew ?_) | (refine Below.alloc ?_ (by first | omega | (simp<;>omega)) _) | (refine Below.trans ?_ (Below.mono (Hid.out BBW) (by first | omega | (simp<;>omega))))))
       generalize ((wr.setCell ⟨w.heap.size+1,0,none⟩ (.int .i64 r2)).setCell ⟨w.heap.size+1,1,none⟩ (.int .i64 k)).setCell ⟨w.heap.size+1,2,none⟩ (.slice A' es2.length cap')=wf at*
       refine bodyPost_ret (v:= .tuple #[.agg #[.int .i64 r2, .int .i64 k, .slice A' es2.length cap'], .slice (some ⟨gl,0,none⟩) xs.length capl]) (by simp[results,Tryz.results170,go_sem,c0,c1,c2,hxl]) rfl ⟨_,_,rfl,?_,?_,bw⟩
       ·rw[HE.out]
        refine⟨.slice A' es2.length cap',rfl,?_,?_,OW.out.mono (by omega)⟩
        ·show I64 r2
         unfold I64
         omega
        ·show I64 (k:Int)
         unfold I64
         omega
       ·rw[HE.out]
        exact OL.out.mono (by omega)
     ·obtain⟨wg,rfl⟩: ∃wg:World,wg=wr:=⟨_,rfl⟩
      have HUu:Hid (leafV es2 M=(u:Int)):=hDD (by rw[←HU.out,hUu])
      have hok:OrdOk (M:Int) (delO M u):=delO_ok hM1 (by omega)
      have HOK:=hDD hok
      have hdl:(delO M u).length=M-1:=by rw[delO_len2,if_pos (by omega)]
      have HRN:Hid (rnG (r2,(M:Int),es2) (delO M u)=(r2,((M-1:Nat):Int),srt cmpE (rnL es2 (delO M u)))):=hDD (by rw[←hdl];rfl)
      have HR2:Hid (R=trimF (M-1) (r2,((M-1:Nat):Int),srt cmpE (rnL es2 (delO M u))) (xs.take u++xs.drop (u+1))):=hDD (by
       have h1:=trimF_step (g:=(r2,(M:Int),es2)) (u:=u) xs (by simpa using HUu.out) (by simpa using huM)
       simp only[Int.toNat_natCast] at h1
       rw[HRN.out] at h1
       simp only[Int.toNat_natCast] at h1
       rw[HR.out,h1])
      have HGB:Hid (grB (r2,((M-1:Nat):Int),srt cmpE (rnL es2 (delO M u)))=true):=hDD (by rw[←HRN.out];exact grB_rnG HGG.out hok)
      have hw5:(wg.alloc (Obj.cells #[] 3)).heap.size=wg.heap.size+1:=by simp
      have o5:OwI (wg.alloc (Obj.cells #[] 3)) wg.heap.size (.slice (some ⟨wg.heap.size,0,none⟩) 0 0) (delO 0 u):=OwI_lit wg [] (fun _ h=>by cases h) (by simp) (Nat.le_refl _)
      have O5:=hDD o5
      have B5:Hid (Below wg.heap.size wg (wg.alloc (Obj.cells #[] 3))):=hDD (by repeat(first | exact Below.refl _ _ | (refine Below.setCell ?_ (by first | omega | (simp<;>omega)) _) | (refine bel_drewN ?_ _) | (refine Below.drew ?_) | (refine Below.alloc ?_ (by first | omega | (simp<;>omega)) _)))
      have HW5:=hDD hw5
      have E0:=hDD e0
      have E1:=hDD e1
      have E2:=hDD e2
      have EF:Hid (∀j,wg.frozen? ⟨w1.heap.size,j,none⟩=false):=hDD fun j=>(HBG.out.frozen (p:=⟨w1.heap.size,j,none⟩) hlj).trans (dF.out j)
      have hlg:w1.heap.size<wg.heap.size:=by omega
      have g0:((u:Int)==0)=false:=by rw[beq_eq_false_iff_ne];omega
      clear hok o5 hw5 hUu hdl
      obtain⟨kk,hkk⟩: ∃kk:Int,((u+1:Nat):Int)=kk:=⟨_,rfl⟩
      rw[hkk]
      have hqc:kk<(M:Int)∨ ¬kk<(M:Int):=by omega
      clear hk hk1 hkk
      rcases hqc with hq | hq
      all_goals
       go_wp2
       generalize wg.alloc (Obj.cells #[] 3)=W5 at O5 B5 HW5⊢
       go_loopw [10,11] (fun o i wo=> ∃k:Nat,k≤M∧i= .int .i64 k∧OwI wo wg.heap.size o (delO k u)∧Below wg.heap.size wg wo) (fun _ i _=>M-(intOf i).toNat)
       case atStart=>exact⟨0,Nat.zero_le _,rfl,O5.out,B5.out⟩
       case round=>
        obtain⟨k,hk,rfl,hown,hbo⟩:=hrel
        have HOO:=hDD hown
        have HBO:=hDD hbo
        have hso:=hbo.size
        have e1':=(hbo.cell (p:=⟨w1.heap.size,1,none⟩) hlg).trans E1.out
        have e0':=(hbo.cell (p:=⟨w1.heap.size,0,none⟩) hlg).trans E0.out
        have e2':=(hbo.cell (p:=⟨w1.heap.size,2,none⟩) hlg).trans E2.out
        obtain⟨Ao,capo,rfl,_⟩:=OwI.form hown
        clear hown hbo
        by_cases hlt:k<M
        ·by_cases hku:k=u
         ·subst hku
          have F:Hid (delO (k+1) (k:Int)=delO k (k:Int)):=hDD (by rw[delO_succ];simp)
          go_wp2
          go_roundw
          case rel=>exact⟨k+1,by omega,by go_num,by rw[F.out];exact HOO.out,HBO.out⟩
          case measure=>simp[intOf];omega
         ·have hne1: ¬(k:Int)=(u:Int):=by omega
          have F:Hid (delO (k+1) (u:Int)=delO k (u:Int)++ [(k:Int)]):=hDD (by rw[delO_succ,if_pos hne1])
          have HK:Hid (I64 (k:Int)):=hDD ⟨by omega,by omega⟩
          have hdk:(delO k (u:Int)).length≤40:=by rw[delO_len2];split<;>omega
          go_wp2_with (at_builtin;refine push_int rfl (.tmp 68) (.tmp 70) rfl _ _ _ (OwI.alloc HOO.out _) rfl _ _ rfl (cell_new1 _ _ _) HK.out (by first | omega | (simp<;>omega)) (by first | omega | (simp<;>omega)) ?_;intro v9 wv9 o9 g9 p9)
          go_roundw
          case rel=>exact⟨k+1,by omega,by go_num,by rw[F.out];exact o9,bel_push HBO.out (by omega) HOO.out.1 (Nat.le_refl _) g9⟩
          case measure=>simp[intOf];omega
        ·obtain rfl:k=M:=by omega
         go_wp2_with fail
         refine(part_any _ _ (r2,(k:Int),es2) (delO k u) _ (HA.out _ ((HBJ.out.trans (HBG.out.mono sj)).trans (HBO.out.mono (by omega)))) HOO.out.rd HGG.out HOK.out).mono ?_
         rintro e w6 ⟨r6,rfl,o6,b6⟩
         rw[HRN.out] at o6
         obtain⟨s6,rfl,_,_,oe6⟩:=o6
         simp only at oe6⊢
         generalize srt cmpE (rnL es2 (delO k (u:Int)))=es6 at*
         generalize hm:k-1=m at*
         have HM:=hDD hm
         clear hm
         have B6:=hDD b6
         have s6':=b6.size
         have OE6:=hDD oe6
         obtain⟨A6,cap6,rfl,hcap6,hm6,_⟩:=OwE.form oe6
         have hE6: ∀b,(Value.slice A6 es6.length cap6).ownBlock=some b→wr.heap.size≤b∧b<w6.heap.size:=fun b hb=>oe6.1.lt b hb
         have HE6:=hDD hE6
         have f0:=(b6.cell (p:=⟨w1.heap.size,0,none⟩) (by show w1.heap.size<wr.heap.size;omega)).trans e0'
         have f1:=(b6.cell (p:=⟨w1.heap.size,1,none⟩) (by show w1.heap.size<wr.heap.size;omega)).trans e1'
         have f2:=(b6.cell (p:=⟨w1.heap.size,2,none⟩) (by show w1.heap.size<wr.heap.size;omega)).trans e2'
         have FF:Hid (∀j,w6.frozen? ⟨w1.heap.size,j,none⟩=false):=hDD fun j=>(b6.frozen (p:=⟨w1.heap.size,j,none⟩) (by show w1.heap.size<wr.heap.size;omega)).trans ((HBO.out.frozen (p:=⟨w1.heap.size,j,none⟩) hlg).trans (EF.out j))
         have ff0:=FF.out 0
         have ff1:=FF.out 1
         have ff2:=FF.out 2
         clear oe6 b6 hE6 e0' e1' e2'
         go_wp2
         obtain⟨c0,c1,c2⟩:=set3_cells w6 w1.heap.size (.int .i64 r2) (.int .i64 m) (.slice A6 es6.length cap6) f0 f1 f2
         have hB6:Hid (Below wq.heap.size wq w6):=hDD ((HBJ.out.trans (HBG.out.mono sj)).trans (((HBO.out.trans (B6.out.mono (by omega)))).mono (by omega)))
         have ol7:OwI (((w6.setCell ⟨w1.heap.size,0,none⟩ (.int .i64 r2)).setCell ⟨w1.heap.size,1,none⟩ (.int .i64 m)).setCell ⟨w1.heap.size,2,none⟩ (.slice A6 es6.length cap6)) (w1.heap.size+1) (.slice (some ⟨gl,0,none⟩) xs.length capl) xs:=
          ((((HO.out.below hB6.out).far (p:=⟨w1.heap.size,0,none⟩) (by show w1.heap.size<_;omega) _).far (p:=⟨w1.heap.size,1,none⟩) (by show w1.heap.size<_;omega) _).far (p:=⟨w1.heap.size,2,none⟩) (by show w1.heap.size<_;omega) _)
         have oe7:OwE (((w6.setCell ⟨w1.heap.size,0,none⟩ (.int .i64 r2)).setCell ⟨w1.heap.size,1,none⟩ (.int .i64 m)).setCell ⟨w1.heap.size,2,none⟩ (.slice A6 es6.length cap6)) wr.heap.size (.slice A6 es6.length cap6) es6:=
          (((OE6.out.far (p:=⟨w1.heap.size,0,none⟩) (by show w1.heap.size<_;omega) _).far (p:=⟨w1.heap.size,1,none⟩) (by show w1.heap.size<_;omega) _).far (p:=⟨w1.heap.size,2,none⟩) (by show w1.heap.size<_;omega) _)
         have hb7:Below w1.heap.size w1 (((w6.setCell ⟨w1.heap.size,0,none⟩ (.int .i64 r2)).setCell ⟨w1.heap.size,1,none⟩ (.int .i64 m)).setCell ⟨w1.heap.size,2,none⟩ (.slice A6 es6.length cap6)):=
          (((HBEL.out.trans (hB6.out.mono (by omega))).setCell (p:=⟨w1.heap.size,0,none⟩) (by show w1.heap.size≤_;exact Nat.le_refl _) _).setCell (p:=⟨w1.heap.size,1,none⟩) (by show w1.heap.size≤_;exact Nat.le_refl _) _).setCell (p:=⟨w1.heap.size,2,none⟩) (by show w1.heap.size≤_;exact Nat.le_refl _) _
         have fz7: ∀j,(((w6.setCell ⟨w1.heap.size,0,none⟩ (.int .i64 r2)).setCell ⟨w1.heap.size,1,none⟩ (.int .i64 m)).setCell ⟨w1.heap.size,2,none⟩ (.slice A6 es6.length cap6)).frozen? ⟨w1.heap.size,j,none⟩=false:=fun j=>by
          rw[World.frozen?_setCell,World.frozen?_setCell,World.frozen?_setCell];exact FF.out j
         have sz7:(((w6.setCell ⟨w1.heap.size,0,none⟩ (.int .i64 r2)).setCell ⟨w1.heap.size,1,none⟩ (.int .i64 m)).setCell ⟨w1.heap.size,2,none⟩ (.slice A6 es6.length cap6)).heap.size=w6.heap.size:=by simp
         generalize ((w6.setCell ⟨w1.heap.size,0,none⟩ (.int .i64 r2)).setCell ⟨w1.heap.size,1,none⟩ (.int .i64 m)).setCell ⟨w1.heap.size,2,none⟩ (.slice A6 es6.length cap6)=w7 at*
         have OL7:=hDD ol7
         have OE7:=hDD oe7
         have HB7:=hDD hb7
         have FZ7:=hDD fz7
         have C0:=hDD c0
         have C1:=hDD c1
         have C2:=hDD c2
         have hx1:u≤xs.length:=by omega
         have hx2:u+1≤xs.length:=by omega
         have OC:=hDD (owI_cut ol7 hx1)
         have RC:=hDD (RdI.cut (k:=u+1) (A:=some ⟨gl,0,none⟩) (cap:=capl) ol7.rd rfl hx2)
         clear ol7 oe7 hb7 fz7 c0 c1 c2 f0 f1 f2 ff0 ff1 ff2 FF
         have z1:(0:Int)≤(u:Int):=by omega
         have z2:(u:Int)≤(capl:Int):=by omega
         have z3:(u:Int)+1≤(k:Int):=by omega
         have z4:(k:Int)≤(capl:Int):=by omega
         have z5:(0:Int)≤(u:Int)+1:=by omega
         have z6:(u:Int)+1≤(capl:Int):=by omega
         have zw:IntKind.i64.wrap ((u:Int)+1)=(u:Int)+1:=by rw[IntKind.wrap_i64];omega
         have HC:Hid (∀(v9:Value) (w9:World),OwI w9 (w1.heap.size+1) v9 (xs.take u++xs.drop (u+1))→w7.drew.grownBy w9 (Value.slice (some ⟨gl,0,none⟩) u capl).ownBlock→(v9.ownBlock=(Value.slice (some ⟨gl,0,none⟩) u capl).ownBlock∨v9.ownBlock=some w7.drew.heap.size)→
           (∃(gg:GrD) (xs:List Int) (A':Option Addr) (cap':Nat),grB gg=true∧R=trimF gg.2.1.toNat gg xs∧xs.length=gg.2.1.toNat∧OwI w9 (w1.heap.size+1) v9 xs∧w9.cell? ⟨w1.heap.size,0,none⟩=some (.int .i64 gg.1)∧w9.cell? ⟨w1.heap.size,1,none⟩=some (.int .i64 gg.2.1)∧w9.cell? ⟨w1.heap.size,2,none⟩=some (.slice A' gg.2.2.length cap')∧(∀j,w9.frozen? ⟨w1.heap.size,j,none⟩=false)∧OwE w9 W0.heap.size (.slice A' gg.2.2.length cap') gg.2.2∧(∀b,(Value.slice A' gg.2.2.length cap').ownBlock=some b→v9.ownBlock≠some b)∧Below w1.heap.size w1 w9∧w1.heap.size<w9.heap.size)∧slN v9<k):=hDD (by
          intro v9 w9 o9 g9 p9
          have g9b: ∀b,b<w7.heap.size→b≠gl→w9.heap[b]? =w7.heap[b]? :=fun b hb hne=>g9.block b hb fun e=>hne (by simpa[Value.ownBlock] using e)
          have hs9:w7.heap.size≤w9.heap.size:=g9.size
          have hln:(xs.take u++xs.drop (u+1)).length=m:=by
           have:=HM.out
           rw[List.length_append,List.length_take,List.length_drop]
           omega
          have hb9:Below w1.heap.size w1 w9:=(HB7.out.drew).grown g9 (by show w1.heap.size≤w7.heap.size;omega) fun x hx=>by simp[Value.ownBlock] at hx;omega
          have cc: ∀o,w9.cell? ⟨w1.heap.size,o,none⟩=w7.cell? ⟨w1.heap.size,o,none⟩:=fun o=>World.cell?_of_block (g9b w1.heap.size (by omega) (by omega))
          have cf: ∀o,w9.frozen? ⟨w1.heap.size,o,none⟩=w7.frozen? ⟨w1.heap.size,o,none⟩:=fun o=>World.frozen?_of_block (g9b w1.heap.size (by omega) (by omega))
          obtain⟨A9,cap9,hv9,_⟩:=OwI.form o9
          refine⟨⟨(r2,(m:Int),es6),xs.take u++xs.drop (u+1),A6,cap6,HGB.out,by rw[HR2.out];simp,by rw[hln];simp,o9,(cc 0).trans C0.out,(cc 1).trans C1.out,(cc 2).trans C2.out,fun j=>(cf j).trans (FZ7.out j),(OE7.out.keep fun b hb=>g9b b (by have:=HE6.out b hb;omega) (by have:=HE6.out b hb;omega)).mono (by omega),fun b hb he=> ?_,hb9,by omega⟩,?_⟩
          ·have h1:=HE6.out b hb
           rcases p9 with p9 | p9
           ·rw[p9] at he
            simp[Value.ownBlock] at he
            omega
           ·rw[p9] at he
            have h2:w7.heap.size=b:=by simpa using he
            omega
          ·rw[hv9,hln]
           show m<k
           have:=HM.out
           omega)
         by_cases hcu:capl=u+1
         ·have RC':Hid (RdI w7 (.slice (some ⟨gl,0,none⟩) (k-(u+1)) 0) (xs.drop (u+1))):=hDD (by
           have h1:=RC.out
           rw[if_pos hcu,hxl,show capl-(u+1)=0 by omega] at h1
           exact h1)
          clear RC
          subst hcu
          have y1:(u:Int)≤(u:Int)+1:=by omega
          have y2:(k:Int)≤(u:Int)+1:=by omega
          clear z2 z4 z6
          go_region_held3 (fun w'=>True) (trivial)
           (first | (refine step_append_ints rfl (.tmp 77) (.tmp 81) rfl (w1.heap.size+1) _ (xs.take u) (OwI.drew OC.out) (by rfl) _ (xs.drop (u+1)) ?_ (by rfl) (by simp only[List.length_take,List.length_drop];omega) (by show _≤w7.heap.size;omega) ?_;(exact RC'.out.drew);intro v9 w9 o9 g9 p9;have X9:=hDD (HC.out v9 w9 o9 g9 p9);clear o9 g9 p9))
          clear HC
          obtain⟨X1,X2⟩:=X9.out
          clear X9
          have HX1:=hDD X1
          clear X1
          go_wp2
          go_roundw
          case rel=>exact HX1.out
          case measure=>(show slN v9<xs.length;omega)
         ·have RC':Hid (RdI w7 (.slice (some ⟨gl,u+1,none⟩) (k-(u+1)) (capl-(u+1))) (xs.drop (u+1))):=hDD (by
           have h1:=RC.out
           rw[if_neg hcu,hxl] at h1
           simpa[Addr.add] using h1)
          go_region_held3 (fun w'=>True) (trivial)
           (first | (refine step_append_ints rfl (.tmp 77) (.tmp 81) rfl (w1.heap.size+1) _ (xs.take u) (OwI.drew OC.out) (by rfl) _ (xs.drop (u+1)) ?_ (by rfl) (by simp only[List.length_take,List.length_drop];omega) (by show _≤w7.heap.size;omega) ?_;(exact RC'.out.drew);intro v9 w9 o9 g9 p9;have X9:=hDD (HC.out v9 w9 o9 g9 p9);clear o9 g9 p9))
          clear HC
          obtain⟨X1,X2⟩:=X9.out
          clear X9
          have HX1:=hDD X1
          clear X1
          go_wp2
          go_roundw
          case rel=>exact HX1.out
          case measure=>(show slN v9<xs.length;omega)
end Go.Proofs.YtnjpoljbagfdnaaGreat
namespace Go.Proofs.YtnjpoljbagfdnaaGreat
set_option maxRecDepth 20000
set_option linter.unusedVariables false
set_option linter.unusedSimpArgs false
open Go.RowKit
theorem walkF_cons (es:List EdD) (v x:Int) (w:List Int):walkF es v (x::w)=if nextV es v x<0 then-1 else walkF es (nextV es v x) w:=rfl
theorem walkF_app (es:List EdD): ∀(a:List Int) (v:Int) (b:List Int),0≤walkF es v a→walkF es v (a++b)=walkF es (walkF es v a) b
 | [],_,_,_=>rfl
 | x::a,v,b,h=>by
   rw[List.cons_append,walkF_cons,walkF_cons]
   rw[walkF_cons] at h
   split at h
   ·exact absurd h (by decide)
   ·rename_i hn
    rw[if_neg hn,if_neg hn]
    exact walkF_app es a _ b h
theorem walkF_pre (es:List EdD): ∀(a:List Int) (v:Int) (b:List Int),0≤v→0≤walkF es v (a++b)→0≤walkF es v a
 | [],v,_,hv,_=>hv
 | x::a,v,b,hv,h=>by
   rw[List.cons_append,walkF_cons] at h
   rw[walkF_cons]
   split at h
   ·exact absurd h (by decide)
   ·rename_i hn
    rw[if_neg hn]
    exact walkF_pre es a _ b (by omega) h
theorem walkF_one (es:List EdD) (v x:Int) (h:0≤nextV es v x):walkF es v [x]=nextV es v x:=by
 rw[walkF_cons,if_neg (by omega)];rfl
def invN (w:List Int):List Int:=(w.map fun x=> -x).reverse
theorem invN_inv (w:List Int):invN (invN w)=w:=by
 unfold invN
 rw[List.map_reverse,List.reverse_reverse,List.map_map]
 have:((fun x:Int=> -x)∘fun x:Int=> -x)=id:=by funext x;simp
 rw[this,List.map_id]
theorem invN_app (a b:List Int):invN (a++b)=invN b++invN a:=by simp[invN]
theorem invN_mem {w:List Int} {x:Int} (h:x∈invN w): -x∈w:=by
 unfold invN at h
 simp only[List.mem_reverse,List.mem_map] at h
 obtain⟨y,hy,rfl⟩:=h
 simpa using hy
theorem walk_back {g:GrD} (hg:grB g=true) (hf:Fol g.2.2): ∀(w:List Int) (v:Int),(∀x∈w,-3≤x∧x≤3)→0≤v→0≤walkF g.2.2 v w→walkF g.2.2 (walkF g.2.2 v w) (invN w)=v
 | [],_,_,_,_=>rfl
 | x::w,v,hx,hv,h=>by
   rw[walkF_cons] at h⊢
   split at h
   ·exact absurd h (by decide)
   ·rename_i hn
    rw[if_neg hn]
    have e:invN (x::w)=invN w++ [-x]:=by simp[invN]
    have ih:=walk_back hg hf w _ (fun y hy=>hx y (by simp[hy])) (by omega) h
    have hb:=nextV_back hg hf (hx x (by simp)) (by omega:0≤nextV g.2.2 v x)
    rw[e,walkF_app _ _ _ _ (by rw[ih];omega),ih,walkF_one _ _ _ (by omega),hb]
def wst (es:List EdD) (u:Int) (wu:List Int) (tw:List (Int×List Int)) (x:Int):List (Int×List Int):=
 if 0≤nextV es u x then(if hasB (tw.map (·.1)) (nextV es u x) then tw else tw++ [(nextV es u x,wu++ [x])]) else tw
def wcF (es:List EdD) (ls:List Int):Nat→Nat→List (Int×List Int)→List (Int×List Int)
 | 0,_,tw=>tw
 | f+1,i,tw=>match tw[i]? with
   | none=>tw
   | some p=>wcF es ls f (i+1) (ls.foldl (wst es p.1 p.2) tw)
def wcO (g:GrD):List (Int×List Int):=wcF g.2.2 (lettersL g.1.toNat) 41 0 [(0,[])]
theorem wst_map (es:List EdD) (u:Int) (wu:List Int) (tw:List (Int×List Int)) (x:Int):(wst es u wu tw x).map (·.1)=cstep es u (tw.map (·.1)) x:=by
 unfold wst cstep
 by_cases h0:0≤nextV es u x
 ·rw[if_pos h0,if_pos h0]
  by_cases h1:hasB (tw.map (·.1)) (nextV es u x)=true
  ·rw[if_pos h1,if_pos h1]
  ·rw[if_neg h1,if_neg h1];simp
 ·rw[if_neg h0,if_neg h0]
theorem wfold_map (es:List EdD) (u:Int) (wu:List Int): ∀(ls:List Int) (tw:List (Int×List Int)),(ls.foldl (wst es u wu) tw).map (·.1)=ls.foldl (cstep es u) (tw.map (·.1))
 | [],_=>rfl
 | x::ls,tw=>by rw[List.foldl_cons,List.foldl_cons,wfold_map es u wu ls,wst_map]
theorem wcF_map (es:List EdD) (ls:List Int): ∀(f i:Nat) (tw:List (Int×List Int)),(wcF es ls f i tw).map (·.1)=canF es ls f i (tw.map (·.1))
 | 0,_,_=>rfl
 | f+1,i,tw=>by
   rw[wcF,canF,List.getElem?_map]
   cases tw[i]? with
   | none=>rfl
   | some p=>simp only[Option.map_some];rw[wcF_map es ls f,wfold_map]
theorem wcO_map (g:GrD):(wcO g).map (·.1)=canO g:=by unfold wcO canO;rw[wcF_map];rfl
theorem wcF_step (es:List EdD) (ls:List Int) (f i:Nat) (o:List (Int×List Int)) (h:i<o.length):wcF es ls (f+1) i o=wcF es ls f (i+1) (ls.foldl (wst es o[i].1 o[i].2) o):=by
 rw[wcF,List.getElem?_eq_getElem h]
theorem wst_prefix (es:List EdD) (u:Int) (wu:List Int) (x:Int) (o:List (Int×List Int)) (i:Nat) (y:Int×List Int) (h:o[i]? =some y):(wst es u wu o x)[i]? =some y:=by
 unfold wst
 split
 ·split
  ·exact h
  ·rw[List.getElem?_append_left (List.getElem?_eq_some_iff.1 h).1];exact h
 ·exact h
theorem wfold_prefix (es:List EdD) (u:Int) (wu:List Int): ∀(ls:List Int) (o:List (Int×List Int)) (i:Nat) (y:Int×List Int),o[i]? =some y→(ls.foldl (wst es u wu) o)[i]? =some y
 | [],_,_,_,h=>h
 | x::ls,o,i,y,h=>wfold_prefix es u wu ls _ i y (wst_prefix es u wu x o i y h)
theorem wfold_succ (es:List EdD) (u:Int) (wu:List Int) (ls:List Int) (o:List (Int×List Int)) (k:Nat) (h:k<ls.length):(ls.take (k+1)).foldl (wst es u wu) o=wst es u wu ((ls.take k).foldl (wst es u wu) o) ls[k]:=by
 rw[List.take_succ_eq_append_getElem h,List.foldl_append]
 rfl
theorem wcF_prefix (es:List EdD) (ls:List Int): ∀(f i:Nat) (o:List (Int×List Int)) (j:Nat) (y:Int×List Int),o[j]? =some y→(wcF es ls f i o)[j]? =some y
 | 0,_,_,_,_,h=>h
 | f+1,i,o,j,y,h=>by
   rw[wcF]
   cases o[i]? with
   | none=>exact h
   | some p=>exact wcF_prefix es ls f _ _ j y (wfold_prefix es _ _ ls o j y h)
structure TwI (es:List EdD) (ls:List Int) (tw:List (Int×List Int)):Prop where
 root:tw[0]? =some (0,[])
 par: ∀p∈tw,p=(0,[])∨ ∃q∈tw,∃x∈ls,p.2=q.2++ [x]∧nextV es q.1 x=p.1∧0≤p.1
 len: ∀p∈tw,p.2.length<tw.length
theorem TwI.step {es:List EdD} {ls:List Int} {tw:List (Int×List Int)} (h:TwI es ls tw) {u:Int} {wu:List Int} (hu:(u,wu)∈tw) {x:Int} (hx:x∈ls):TwI es ls (wst es u wu tw x)∧(u,wu)∈wst es u wu tw x:=by
 refine⟨⟨wst_prefix _ _ _ _ _ _ _ h.root,?_,?_⟩,?_⟩
 ·unfold wst
  split
  ·rename_i h0
   split
   ·exact h.par
   ·intro p hp
    rcases List.mem_append.1 hp with hp | hp
    ·rcases h.par p hp with e | ⟨q,hq,r⟩
     ·exact .inl e
     ·exact .inr ⟨q,List.mem_append.2 (.inl hq),r⟩
    ·rw[List.mem_singleton.1 hp]
     exact .inr ⟨(u,wu),List.mem_append.2 (.inl hu),x,hx,rfl,rfl,h0⟩
  ·exact h.par
 ·unfold wst
  split
  ·split
   ·exact h.len
   ·intro p hp
    rw[List.length_append]
    rcases List.mem_append.1 hp with hp | hp
    ·have:=h.len p hp;simp;omega
    ·rw[List.mem_singleton.1 hp]
     have:=h.len _ hu
     simp only[List.length_append,List.length_singleton] at this⊢
     omega
  ·exact h.len
 ·unfold wst
  split
  ·split
   ·exact hu
   ·exact List.mem_append.2 (.inl hu)
  ·exact hu
theorem TwI.fold {es:List EdD} {ls:List Int} {u:Int} {wu:List Int}: ∀(l2:List Int) {tw:List (Int×List Int)},TwI es ls tw→(u,wu)∈tw→(∀x∈l2,x∈ls)→TwI es ls (l2.foldl (wst es u wu) tw)
 | [],_,h,_,_=>h
 | x::l2,tw,h,hu,hs=>by
   have:=h.step hu (hs x (by simp))
   exact TwI.fold l2 this.1 this.2 fun y hy=>hs y (by simp[hy])
theorem TwI.bfs {es:List EdD} {ls:List Int}: ∀(f i:Nat) {tw:List (Int×List Int)},TwI es ls tw→TwI es ls (wcF es ls f i tw)
 | 0,_,_,h=>h
 | f+1,i,tw,h=>by
   rw[wcF]
   cases e:tw[i]? with
   | none=>exact h
   | some p=>exact TwI.bfs f _ (h.fold ls (List.mem_of_getElem? e) fun _ hx=>hx)
theorem TwI.one (es:List EdD) (ls:List Int):TwI es ls [(0,[])]:=⟨rfl,fun p hp=> .inl (List.mem_singleton.1 hp),fun p hp=>by rw[List.mem_singleton.1 hp];simp⟩
theorem wcO_ok (g:GrD):TwI g.2.2 (lettersL g.1.toNat) (wcO g):=(TwI.one _ _).bfs _ _
def lkW (tw:List (Int×List Int)) (v:Int):List Int:=match tw.find? (fun p=>decide (p.1=v)) with
 | some p=>p.2
 | none=> []
def wdO (g:GrD) (v:Int):List Int:=lkW (wcO g) v
theorem lkW_of {tw:List (Int×List Int)} (hn:(tw.map (·.1)).Nodup) {p:Int×List Int} (hp:p∈tw):lkW tw p.1=p.2:=by
 unfold lkW
 induction tw with
 | nil=>cases hp
 | cons q tw ih=>
   rw[List.map_cons,List.nodup_cons] at hn
   rw[List.find?_cons]
   rcases List.mem_cons.1 hp with rfl | hp
   ·simp
   ·have hne:q.1≠p.1:=fun e=>hn.1 (e▸List.mem_map.2 ⟨p,hp,rfl⟩)
    rw[show decide (q.1=p.1)=false by simp[hne]]
    exact ih hn.2 hp
section
variable {g:GrD}
theorem wcO_nodup (hg:grB g=true):((wcO g).map (·.1)).Nodup:=by rw[wcO_map];exact(canO_ok hg).1
theorem wd_of (hg:grB g=true) {p:Int×List Int} (hp:p∈wcO g):wdO g p.1=p.2:=lkW_of (wcO_nodup hg) hp
theorem wd_mem (hg:grB g=true) {v:Int} (hv:v∈canO g):(v,wdO g v)∈wcO g:=by
 rw[←wcO_map] at hv
 obtain⟨p,hp,rfl⟩:=List.mem_map.1 hv
 rw[wd_of hg hp]
 exact hp
theorem can_of {p:Int×List Int} (hp:p∈wcO g):p.1∈canO g:=by rw[←wcO_map];exact List.mem_map.2 ⟨p,hp,rfl⟩
theorem wd_zero (hg:grB g=true):wdO g 0= []:=wd_of hg (p:=(0,[])) (List.mem_of_getElem? (wcO_ok g).root)
theorem wd_par (hg:grB g=true) {v:Int} (hv:v∈canO g) (h0:v≠0): ∃u∈canO g,∃x∈lettersL g.1.toNat,wdO g v=wdO g u++ [x]∧nextV g.2.2 u x=v:=by
 rcases(wcO_ok g).par _ (wd_mem hg hv) with e | ⟨q,hq,x,hx,h1,h2,_⟩
 ·exact absurd (congrArg Prod.fst e) h0
 ·exact⟨q.1,can_of hq,x,hx,by rw[wd_of hg hq];exact h1,h2⟩
theorem wd_len (hg:grB g=true) {v:Int} (hv:v∈canO g):(wdO g v).length<40:=by
 have h1:=(wcO_ok g).len _ (wd_mem hg hv)
 have h2:=(canO_ok hg).len (grB_parts hg).2.1.2 (by have:=(grB_parts hg).2.1.1;omega)
 rw[←wcO_map,List.length_map] at h2
 simp only at h1
 omega
theorem let3 (hg:grB g=true) {x:Int} (hx:x∈lettersL g.1.toNat): -3≤x∧x≤3:=by
 have h1:=letters_mem.1 hx
 have h2:=(grB_parts hg).1
 omega
theorem wd_facts (hg:grB g=true): ∀(n:Nat) {v:Int},v∈canO g→(wdO g v).length≤n→walkF g.2.2 0 (wdO g v)=v∧ ∀x∈wdO g v,x∈lettersL g.1.toNat
 | n,v,hv,hn=>by
   by_cases h0:v=0
   ·subst h0;rw[wd_zero hg];exact⟨rfl,fun x hx=>by cases hx⟩
   ·obtain⟨u,hu,x,hx,e,hnx⟩:=wd_par hg hv h0
    have hv0:=(canO_ok hg).2.1 v hv
    have hu0:=(canO_ok hg).2.1 u hu
    rw[e] at hn⊢
    rw[List.length_append,List.length_singleton] at hn
    match n,hn with
    | n+1,hn=>
      have ih:=wd_facts hg n hu (by omega)
      refine⟨?_,fun y hy=> ?_⟩
      ·rw[walkF_app _ _ _ _ (by rw[ih.1];omega),ih.1,walkF_one _ _ _ (by omega),hnx]
      ·rcases List.mem_append.1 hy with hy | hy
       ·exact ih.2 y hy
       ·rw[List.mem_singleton.1 hy];exact hx
theorem wd_walk (hg:grB g=true) {v:Int} (hv:v∈canO g):walkF g.2.2 0 (wdO g v)=v:=(wd_facts hg _ hv (Nat.le_refl _)).1
theorem wd_let (hg:grB g=true) {v:Int} (hv:v∈canO g): ∀x∈wdO g v,x∈lettersL g.1.toNat:=(wd_facts hg _ hv (Nat.le_refl _)).2
theorem wd_let3 (hg:grB g=true) {v:Int} (hv:v∈canO g): ∀x∈wdO g v,-3≤x∧x≤3:=fun x hx=>let3 hg (wd_let hg hv x hx)
theorem snoc_inj {a b:List Int} {x y:Int} (h:a++ [x]=b++ [y]):a=b∧x=y:=by
 have:=List.append_inj' h rfl
 exact⟨this.1,by simpa using this.2⟩
def NoB:List Int→Prop
 | []=>True
 | [_]=>True
 | a::b::l=>b≠ -a∧NoB (b::l)
theorem NoB.app: ∀ {a b:List Int},NoB a→NoB b→(∀x∈a.getLast?,∀y∈b.head?,y≠ -x)→NoB (a++b)
 | [],_,_,hb,_=>hb
 | [x],[],_,_,_=>trivial
 | [x],y::b,_,hb,h=>⟨h x rfl y rfl,hb⟩
 | x::y::a,b,ha,hb,h=>⟨ha.1,NoB.app (a:=y::a) ha.2 hb (by rw[List.getLast?_cons_cons] at h;exact h)⟩
theorem NoB.inv: ∀ {w:List Int},NoB w→NoB (invN w)
 | [],_=>trivial
 | [x],_=>trivial
 | x::y::w,h=>by
   have e:invN (x::y::w)=invN (y::w)++ [-x]:=by simp[invN]
   rw[e]
   refine NoB.app h.2.inv trivial fun a ha b hb=> ?_
   simp[invN] at ha hb
   have:=h.1
   omega
theorem wd_chain (hg:grB g=true) (hf:Fol g.2.2): ∀(n:Nat) {v:Int},v∈canO g→(wdO g v).length≤n→NoB (wdO g v)
 | n,v,hv,hn=>by
   by_cases h0:v=0
   ·subst h0;rw[wd_zero hg];exact trivial
   ·obtain⟨u,hu,x,hx,e,hnx⟩:=wd_par hg hv h0
    have hl:(wdO g v).length=(wdO g u).length+1:=by rw[e];simp
    match n,hn with
    | 0,hn=>omega
    | n+1,hn=>
      have ih:=wd_chain hg hf n hu (by omega)
      rw[e]
      refine NoB.app ih trivial fun a ha b hb=> ?_
      simp at hb
      subst hb
      intro hx'
      by_cases hu0:u=0
      ·subst hu0;rw[wd_zero hg] at ha;simp at ha
      ·obtain⟨t,ht,y,hy,e2,hny⟩:=wd_par hg hu hu0
       rw[e2] at ha
       simp at ha
       subst ha
       have hu1:=(canO_ok hg).2.1 u hu
       have hb:=nextV_back hg hf (let3 hg hy) (by rw[hny];omega)
       rw[hny,←hx',hnx] at hb
       subst hb
       rw[e2] at e
       have:=congrArg List.length e
       simp at this
def exB (g:GrD) (e:EdD):Bool:= !decide (wdO g e.2.2=wdO g e.1++ [e.2.1])&& !decide (wdO g e.1=wdO g e.2.2++ [-e.2.1])
theorem exB_iff {e:EdD}:exB g e=true↔wdO g e.2.2≠wdO g e.1++ [e.2.1]∧wdO g e.1≠wdO g e.2.2++ [-e.2.1]:=by simp[exB]
def extL (g:GrD):List EdD:=g.2.2.filter (exB g)
def basW (g:GrD) (e:EdD):List Int:=wdO g e.1++ [e.2.1]++invN (wdO g e.2.2)
def basF (g:GrD):List (List Int):=if coreB g=true then(extL g).map (basW g) else []
theorem nextV_out (hg:grB g=true) (hf:Fol g.2.2) {e:EdD} (he:e∈g.2.2):nextV g.2.2 e.1 e.2.1=e.2.2:=by
 have h:=(edge_of_gr hg he).2.1
 exact nextV_of hf he (by unfold mt;rw[if_pos (by omega),if_pos ⟨rfl,rfl⟩])
theorem nextV_in (hg:grB g=true) (hf:Fol g.2.2) {e:EdD} (he:e∈g.2.2):nextV g.2.2 e.2.2 (-e.2.1)=e.1:=by
 have h:=(edge_of_gr hg he).2.1
 have h3:=(grB_parts hg).1
 have hb:=nextV_back hg hf (v:=e.1) (x:=e.2.1) (by omega) (by rw[nextV_out hg hf he];exact(edge_of_gr hg he).2.2.1)
 rwa [nextV_out hg hf he] at hb
theorem bas_chain (hg:grB g=true) (hf:Fol g.2.2) {e:EdD} (he:e∈g.2.2) (hx:exB g e=true) (h1:e.1∈canO g) (h2:e.2.2∈canO g):NoB (basW g e):=by
 obtain⟨n1,n2⟩:=exB_iff.1 hx
 have hl:=(edge_of_gr hg he).2.1
 have hr:=(grB_parts hg).1
 unfold basW
 refine NoB.app (NoB.app (wd_chain hg hf _ h1 (Nat.le_refl _)) trivial fun a ha b hb=> ?_) (wd_chain hg hf _ h2 (Nat.le_refl _)).inv fun a ha b hb=> ?_
 ·simp at hb
  subst hb
  intro hx'
  by_cases hu0:e.1=0
  ·rw[hu0,wd_zero hg] at ha;simp at ha
  ·obtain⟨t,ht,y,hy,e2,hny⟩:=wd_par hg h1 hu0
   rw[e2] at ha
   simp at ha
   subst ha
   have hu1:=(canO_ok hg).2.1 _ h1
   have hb:=nextV_back hg hf (let3 hg hy) (by rw[hny];omega)
   rw[hny,←hx',nextV_out hg hf he] at hb
   subst hb
   exact n2 (by rw[e2,hx'];simp)
 ·simp at ha
  subst ha
  intro hb'
  by_cases hu0:e.2.2=0
  ·rw[hu0,wd_zero hg] at hb;simp[invN] at hb
  ·obtain⟨t,ht,y,hy,e2,hny⟩:=wd_par hg h2 hu0
   rw[e2,invN_app] at hb
   simp[invN] at hb
   have hyx:y=e.2.1:=by omega
   subst hyx
   have h2':=(canO_ok hg).2.1 _ h2
   have b1:=nextV_back hg hf (let3 hg hy) (by rw[hny];omega)
   rw[hny,nextV_in hg hf he] at b1
   subst b1
   exact n1 e2
theorem bas_walk (hg:grB g=true) (hf:Fol g.2.2) {e:EdD} (he:e∈g.2.2) (h1:e.1∈canO g) (h2:e.2.2∈canO g):walkF g.2.2 0 (basW g e)=0:=by
 have a1:=(canO_ok hg).2.1 _ h1
 have a2:=(canO_ok hg).2.1 _ h2
 have w1:walkF g.2.2 0 (wdO g e.1++ [e.2.1])=e.2.2:=by
  rw[walkF_app _ _ _ _ (by rw[wd_walk hg h1];omega),wd_walk hg h1,walkF_one _ _ _ (by rw[nextV_out hg hf he];omega),nextV_out hg hf he]
 unfold basW
 rw[walkF_app _ _ _ _ (by rw[w1];omega),w1]
 have:=walk_back hg hf (wdO g e.2.2) 0 (wd_let3 hg h2) (Int.le_refl _) (by rw[wd_walk hg h2];omega)
 rwa [wd_walk hg h2] at this
theorem core_all (h:coreB g=true) {v:Int} (hv:0≤v∧v<g.2.1):v∈canO g:=by
 have hg:=coreB_grB h
 have hok:=canO_ok hg
 have hl:((canO g).length:Int)=g.2.1:=by
  unfold coreB at h
  simp only[Bool.and_eq_true,decide_eq_true_eq] at h
  have:=congrArg (fun g:GrD=>g.2.1) h.2
  exact this
 apply Classical.byContradiction
 intro hn
 have:=nodup_len g.2.1.toNat (v::canO g) (List.nodup_cons.2 ⟨hn,hok.1⟩) fun y hy=>by
  rcases List.mem_cons.1 hy with rfl | hy
  ·omega
  ·have:=hok.2.1 y hy;omega
 rw[List.length_cons] at this
 omega
theorem leaf_none (es:List EdD) (n:Nat): ∀(f v:Nat),v+f=n→leafFrom es n f v<0→ ∀u,v≤u→u<n→leafB es u=false
 | 0,v,h,_,u,h1,h2=>by omega
 | f+1,v,h,hl,u,h1,h2=>by
   unfold leafFrom at hl
   rw[if_pos (by omega)] at hl
   split at hl
   ·omega
   ·rename_i hb
    by_cases e:u=v
    ·subst e;simpa using hb
    ·exact leaf_none es n f (v+1) (by omega) hl u (by omega) h2
theorem core_deg (h:coreB g=true) {v:Int} (hv:0<v∧v<g.2.1):2≤degL g.2.2 v:=by
 have hg:=coreB_grB h
 have hs:=(grB_parts hg).2.1
 unfold coreB at h
 simp only[Bool.and_eq_true,decide_eq_true_eq] at h
 have hl:=leaf_none g.2.2 g.2.1.toNat (g.2.1.toNat-1) 1 (by omega) h.1.2 v.toNat (by omega) (by omega)
 unfold leafB at hl
 simp only[Bool.or_eq_false_iff,decide_eq_false_iff_not] at hl
 have:=hl.1
 rw[show((v.toNat:Nat):Int)=v by omega] at this
 omega
theorem degL_zero {v:Int}: ∀ {es:List EdD},(∀e∈es,degE v e=0)→degL es v=0
 | [],_=>rfl
 | e::es,h=>by
   have h1:=degL_zero (es:=es) fun e he=>h e (by simp[he])
   have h2:=h e (by simp)
   unfold degL at h1⊢
   rw[List.map_cons,List.sum_cons,h1,h2]
theorem deg_one {v l0:Int}: ∀ {es:List EdD},Fol es→(∀e∈es,1≤e.2.1)→(∀e∈es,(e.1=v→e.2.1=l0)∧(e.2.2=v→ -e.2.1=l0))→degL es v≤1
 | [],_,_,_=>by simp[degL]
 | e::es,hf,hl,h=>by
   have p:=List.pairwise_cons.1 hf
   have ih:=deg_one p.2 (fun e he=>hl e (by simp[he])) fun e he=>h e (by simp[he])
   have he:=h e (by simp)
   have hle:=hl e (by simp)
   have hsum:degL (e::es) v=degE v e+degL es v:=by simp[degL]
   rw[hsum]
   by_cases ht:e.1=v∨e.2.2=v
   ·have hz:degL es v=0:=by
     refine degL_zero fun e' he'=> ?_
     have h':=h e' (by simp[he'])
     have hl':=hl e' (by simp[he'])
     have hc:=p.1 e' he'
     unfold clash at hc
     have hne: ¬(e'.1=v∨e'.2.2=v):=by
      rintro(ha | ha)
      ·rcases ht with ht | ht
       ·have a1:=he.1 ht;have a2:=h'.1 ha
        rw[show(e.2.1==e'.2.1)=true by simp;omega,show(e.1==e'.1)=true by simp;omega] at hc
        simp at hc
       ·have a1:=he.2 ht;have a2:=h'.1 ha;omega
      ·rcases ht with ht | ht
       ·have a1:=he.1 ht;have a2:=h'.2 ha;omega
       ·have a1:=he.2 ht;have a2:=h'.2 ha
        rw[show(e.2.1==e'.2.1)=true by simp;omega,show(e.2.2==e'.2.2)=true by simp;omega] at hc
        simp at hc
     unfold degE
     rw[if_neg fun q=>hne (.inl q),if_neg fun q=>hne (.inr q)]
    rw[hz]
    unfold degE
    by_cases a:e.1=v
    ·rw[if_pos a]
     by_cases b:e.2.2=v
     ·have a1:=he.1 a;have a2:=he.2 b;omega
     ·rw[if_neg b];omega
    ·rw[if_neg a]
     by_cases b:e.2.2=v
     ·rw[if_pos b];omega
     ·rw[if_neg b];omega
   ·have:degE v e=0:=by
     unfold degE
     rw[if_neg fun q=>ht (.inl q),if_neg fun q=>ht (.inr q)]
    omega
end
def imgW (a b:GrD) (v:Int):Int:=walkF b.2.2 0 (wdO a v)
def stB (a b:GrD) (u l:Int):Bool:=decide (nextV a.2.2 u l<0)||(decide (0≤nextV b.2.2 (imgW a b u) l)&&decide (imgW a b (nextV a.2.2 u l)=nextV b.2.2 (imgW a b u) l))
def inclS (a b:GrD):Bool:=coreB a&&coreB b&&decide (a.1=b.1)&&(canO a).all fun u=>(lettersL a.1.toNat).all (stB a b u)
def inclI (a b:GrD):Bool:=coreB a&&coreB b&&decide (a.1=b.1)&&(basF a).all fun w=>decide (walkF b.2.2 0 w=0)
section
variable {a b:GrD}
theorem img_read (ha:coreB a=true) (hb:coreB b=true) (hB: ∀e∈extL a,walkF b.2.2 0 (basW a e)=0): ∀(n:Nat) {v:Int},v∈canO a→40≤(wdO a v).length+n→0≤imgW a b v
 | n,v,hv,hn=>by
   have hga:=coreB_grB ha
   have hgb:=coreB_grB hb
   have hfa:Fol a.2.2:=(foldB_parts (by unfold coreB at ha;simp only[Bool.and_eq_true] at ha;exact ha.1.1)).2
   have hfb:Fol b.2.2:=(foldB_parts (by unfold coreB at hb;simp only[Bool.and_eq_true] at hb;exact hb.1.1)).2
   by_cases h0:v=0
   ·subst h0;unfold imgW;rw[wd_zero hga];exact Int.le_refl _
   ·obtain⟨u,hu,x,hx,e1,hnx⟩:=wd_par hga hv h0
    have hvr:=(canO_ok hga).2.1 v hv
    have hd:=core_deg ha (v:=v) ⟨by omega,hvr.2⟩
    have hlen:=wd_len hga hv
    match n,hn with
    | 0,hn=>omega
    | n+1,hn=>
      apply Classical.byContradiction
      intro hneg
      have key:degL a.2.2 v≤1:=by
       refine deg_one (l0:= -x) hfa (fun e he=>(edge_of_gr hga he).2.1.1) fun e he=>⟨fun h1=> ?_,fun h2=> ?_⟩
       ·apply Classical.byContradiction
        intro hl
        have hc:e.2.2∈canO a:=core_all ha (edge_of_gr hga he).2.2
        by_cases hex:exB a e=true
        ·have hw:=hB e (List.mem_filter.2 ⟨he,hex⟩)
         unfold basW at hw
         rw[List.append_assoc,h1] at hw
         exact hneg (walkF_pre _ _ _ _ (Int.le_refl _) (by rw[hw];exact Int.le_refl _))
        ·rw[exB_iff,Classical.not_and_iff_not_or_not,Classical.not_not,Classical.not_not,h1] at hex
         rcases hex with hex | hex
         ·have ih:=img_read ha hb hB n hc (by rw[hex,List.length_append];simp;omega)
          unfold imgW at ih
          rw[hex] at ih
          exact hneg (walkF_pre _ _ _ _ (Int.le_refl _) ih)
         ·rw[e1] at hex
          have:=(snoc_inj hex).2
          omega
       ·apply Classical.byContradiction
        intro hl
        have hc:e.1∈canO a:=core_all ha (edge_of_gr hga he).1
        by_cases hex:exB a e=true
        ·have hw:=hB e (List.mem_filter.2 ⟨he,hex⟩)
         have hbk:=walk_back hgb hfb (basW a e) 0 (fun y hy=>by
          unfold basW at hy
          rcases List.mem_append.1 hy with hy | hy
          ·rcases List.mem_append.1 hy with hy | hy
           ·exact wd_let3 hga hc y hy
           ·rw[List.mem_singleton.1 hy]
            have:=(edge_of_gr hga he).2.1
            have:=(grB_parts hga).1
            omega
          ·have:=wd_let3 hga (h2▸hv) _ (invN_mem hy)
           omega) (Int.le_refl _) (by rw[hw];exact Int.le_refl _)
         rw[hw] at hbk
         unfold basW at hbk
         rw[invN_app,invN_inv,h2] at hbk
         exact hneg (walkF_pre _ _ _ _ (Int.le_refl _) (by rw[hbk];exact Int.le_refl _))
        ·rw[exB_iff,Classical.not_and_iff_not_or_not,Classical.not_not,Classical.not_not,h2] at hex
         rcases hex with hex | hex
         ·rw[e1] at hex
          have:=(snoc_inj hex).2
          omega
         ·have ih:=img_read ha hb hB n hc (by rw[hex,List.length_append];simp;omega)
          unfold imgW at ih
          rw[hex] at ih
          exact hneg (walkF_pre _ _ _ _ (Int.le_refl _) ih)
      omega
theorem img_edge (ha:coreB a=true) (hb:coreB b=true) (hB: ∀e∈extL a,walkF b.2.2 0 (basW a e)=0) {e:EdD} (he:e∈a.2.2):
  nextV b.2.2 (imgW a b e.1) e.2.1=imgW a b e.2.2∧nextV b.2.2 (imgW a b e.2.2) (-e.2.1)=imgW a b e.1∧0≤imgW a b e.1∧0≤imgW a b e.2.2:=by
 have hga:=coreB_grB ha
 have hgb:=coreB_grB hb
 have hfb:Fol b.2.2:=(foldB_parts (by unfold coreB at hb;simp only[Bool.and_eq_true] at hb;exact hb.1.1)).2
 have h1:e.1∈canO a:=core_all ha (edge_of_gr hga he).1
 have h2:e.2.2∈canO a:=core_all ha (edge_of_gr hga he).2.2
 have r1:=img_read ha hb hB 40 h1 (by omega)
 have r2:=img_read ha hb hB 40 h2 (by omega)
 have hl: -3≤e.2.1∧e.2.1≤3:=by
  have:=(edge_of_gr hga he).2.1
  have:=(grB_parts hga).1
  omega
 have out:nextV b.2.2 (imgW a b e.1) e.2.1=imgW a b e.2.2:=by
  by_cases hex:exB a e=true
  ·have hw:=hB e (List.mem_filter.2 ⟨he,hex⟩)
   unfold basW at hw
   rw[List.append_assoc,walkF_app _ _ _ _ r1,List.cons_append,List.nil_append,walkF_cons] at hw
   split at hw
   ·exact absurd hw (by decide)
   ·rename_i hn
    have hbk:=walk_back hgb hfb (invN (wdO a e.2.2)) (nextV b.2.2 (imgW a b e.1) e.2.1) (fun y hy=>by
     have:=wd_let3 hga h2 _ (invN_mem hy)
     omega) (by unfold imgW;omega) (by unfold imgW;rw[hw];exact Int.le_refl _)
    unfold imgW at hbk⊢
    rw[hw,invN_inv] at hbk
    exact hbk.symm
  ·rw[exB_iff,Classical.not_and_iff_not_or_not,Classical.not_not,Classical.not_not] at hex
   rcases hex with hex | hex
   ·have q:=r2
    unfold imgW at q
    rw[hex,walkF_app _ _ _ _ r1,walkF_cons] at q
    split at q
    ·exact absurd q (by decide)
    ·rename_i hn
     show _=walkF b.2.2 0 (wdO a e.2.2)
     rw[hex,walkF_app _ _ _ _ r1,walkF_cons,if_neg hn]
     rfl
   ·have q:=r1
    unfold imgW at q
    rw[hex,walkF_app _ _ _ _ r2,walkF_cons] at q
    split at q
    ·exact absurd q (by decide)
    ·rename_i hn
     have e1:imgW a b e.1=nextV b.2.2 (imgW a b e.2.2) (-e.2.1):=by
      show walkF b.2.2 0 (wdO a e.1)=_
      rw[hex,walkF_app _ _ _ _ r2,walkF_cons,if_neg hn]
      rfl
     have hbk:=nextV_back hgb hfb (v:=imgW a b e.2.2) (x:= -e.2.1) (by omega) (by rw[←e1];exact r1)
     rw[←e1,Int.neg_neg] at hbk
     exact hbk
 refine⟨out,?_,r1,r2⟩
 have hbk:=nextV_back hgb hfb hl (by rw[out];exact r2)
 rwa [out] at hbk
theorem incl_eq (a b:GrD):inclS a b=inclI a b:=by
 unfold inclS inclI
 rcases ha:coreB a with _ | _
 ·rfl
 rcases hb:coreB b with _ | _
 ·rfl
 by_cases hr:a.1=b.1
 ·simp only[hr,decide_true,Bool.true_and]
  have hga:=coreB_grB ha
  have hfa:Fol a.2.2:=(foldB_parts (by unfold coreB at ha;simp only[Bool.and_eq_true] at ha;exact ha.1.1)).2
  rw[←hr]
  rw[Bool.eq_iff_iff,List.all_eq_true,List.all_eq_true]
  unfold basF
  rw[if_pos ha]
  constructor
  ·intro H w hw
   obtain⟨e,he,rfl⟩:=List.mem_map.1 hw
   have hee:=(List.mem_filter.1 he).1
   rw[decide_eq_true_eq]
   have h1:e.1∈canO a:=core_all ha (edge_of_gr hga hee).1
   have h2:e.2.2∈canO a:=core_all ha (edge_of_gr hga hee).2.2
   have hom: ∀(w:List Int) (u:Int),(∀x∈w,x∈lettersL a.1.toNat)→u∈canO a→0≤walkF a.2.2 u w→walkF b.2.2 (imgW a b u) w=imgW a b (walkF a.2.2 u w):=by
    intro w
    induction w with
    | nil=>intro u _ _ _;rfl
    | cons x w ih=>
      intro u hx hu hw
      rw[walkF_cons] at hw⊢
      split at hw
      ·exact absurd hw (by decide)
      ·rename_i hn
       have hs:=List.all_eq_true.1 (H u hu) x (hx x (by simp))
       unfold stB at hs
       rw[decide_eq_false hn,Bool.false_or,Bool.and_eq_true,decide_eq_true_eq,decide_eq_true_eq] at hs
       rw[if_neg (by omega)]
       conv=>rhs;rw[walkF_cons,if_neg hn]
       rw[←hs.2]
       refine ih _ (fun y hy=>hx y (by simp[hy])) ?_ hw
       rcases nextV_range hga u x with e | e
       ·omega
       ·exact core_all ha e
   have hbw:=bas_walk hga hfa hee h1 h2
   have:=hom (basW a e) 0 (fun x hx=>by
    unfold basW at hx
    rcases List.mem_append.1 hx with hx | hx
    ·rcases List.mem_append.1 hx with hx | hx
     ·exact wd_let hga h1 x hx
     ·rw[List.mem_singleton.1 hx]
      have:=(edge_of_gr hga hee).2.1
      exact letters_mem.2 (.inl ⟨by omega,by omega⟩)
    ·have h3:=letters_mem.1 (wd_let hga h2 _ (invN_mem hx))
     exact letters_mem.2 (by omega)) (core_all ha ⟨Int.le_refl _,by have:=(grB_parts hga).2.1;omega⟩) (by rw[hbw];exact Int.le_refl _)
   rw[hbw] at this
   have i0:imgW a b 0=0:=by unfold imgW;rw[wd_zero hga];rfl
   rwa [i0] at this
  ·intro H u hu
   have hB: ∀e∈extL a,walkF b.2.2 0 (basW a e)=0:=fun e he=>by simpa using H (basW a e) (List.mem_map.2 ⟨e,he,rfl⟩)
   refine List.all_eq_true.2 fun l hl=> ?_
   unfold stB
   by_cases hn:nextV a.2.2 u l<0
   ·rw[decide_eq_true hn];rfl
   ·rw[decide_eq_false hn,Bool.false_or,Bool.and_eq_true,decide_eq_true_eq,decide_eq_true_eq]
    obtain⟨e,he,hm⟩:=nextV_mem (by omega:0≤nextV a.2.2 u l)
    generalize nextV a.2.2 u l=c at*
    obtain⟨p1,p2,p3,p4⟩:=img_edge ha hb hB he
    have hl3:=let3 hga hl
    unfold mt at hm
    by_cases hp:0<l
    ·rw[if_pos hp] at hm
     split at hm
     ·rename_i q
      injection hm with hm
      rw[←q.1,←q.2,←hm,p1]
      exact⟨p4,rfl⟩
     ·cases hm
    ·rw[if_neg hp] at hm
     by_cases hng:l<0
     ·rw[if_pos hng,IntWalk.wrap64_in (-l) ⟨by omega,by omega⟩] at hm
      split at hm
      ·rename_i q
       injection hm with hm
       have:l= -e.2.1:=by omega
       rw[←q.2,←hm,this,p2]
       exact⟨p3,rfl⟩
      ·cases hm
     ·rw[if_neg hng] at hm;cases hm
 ·simp[hr]
end
def TwS (g:GrD) (ls:List Int) (k:Nat) (o:List Int):Prop:= ∃tw,tw.map (·.1)=o∧wcO g=wcF g.2.2 ls (41-k) k tw
theorem TwS.zero (g:GrD):TwS g (lettersL g.1.toNat) 0 [0]:=⟨[(0,[])],rfl,rfl⟩
theorem TwS.step {g:GrD} {ls:List Int} {k:Nat} {o:List Int} (h:TwS g ls k o) {u:Int} (hk:o[k]? =some u) (h41:k<41):TwS g ls (k+1) (ls.foldl (cstep g.2.2 u) o):=by
 obtain⟨tw,rfl,h2⟩:=h
 have hlt:k<tw.length:=by have:=(List.getElem?_eq_some_iff.1 hk).1;simpa using this
 have hu:tw[k].1=u:=by rw[List.getElem?_map,List.getElem?_eq_getElem hlt] at hk;simpa using hk
 refine⟨ls.foldl (wst g.2.2 tw[k].1 tw[k].2) tw,by rw[wfold_map,hu],?_⟩
 rw[h2,show 41-k=(41-(k+1))+1 by omega,wcF_step _ _ _ _ _ hlt]
theorem TwS.new {g:GrD} (hg:grB g=true) {ls:List Int} {k:Nat} {o:List Int} (h:TwS g ls k o) {u:Int} (hk:o[k]? =some u) (h41:k<41) {m:Nat} (hm:m<ls.length)
  (h0:0≤nextV g.2.2 u ls[m]) (hn:hasB ((ls.take m).foldl (cstep g.2.2 u) o) (nextV g.2.2 u ls[m])=false):wdO g (nextV g.2.2 u ls[m])=wdO g u++ [ls[m]]:=by
 obtain⟨tw,rfl,h2⟩:=h
 have hlt:k<tw.length:=by have:=(List.getElem?_eq_some_iff.1 hk).1;simpa using this
 have hu:tw[k].1=u:=by rw[List.getElem?_map,List.getElem?_eq_getElem hlt] at hk;simpa using hk
 rw[show 41-k=(41-(k+1))+1 by omega] at h2
 have m1:tw[k]∈wcO g:=by rw[h2];exact List.mem_of_getElem? (wcF_prefix _ _ _ _ _ k _ (List.getElem?_eq_getElem hlt))
 have w1:=wd_of hg m1
 rw[hu] at w1
 rw[wcF_step _ _ _ _ _ hlt,hu] at h2
 have hmap:=wfold_map g.2.2 u tw[k].2 (ls.take m) tw
 have hst:wst g.2.2 u tw[k].2 ((ls.take m).foldl (wst g.2.2 u tw[k].2) tw) ls[m]=(ls.take m).foldl (wst g.2.2 u tw[k].2) tw++ [(nextV g.2.2 u ls[m],tw[k].2++ [ls[m]])]:=by
  rw[wst,if_pos h0,hmap,if_neg (by rw[hn];simp)]
 have hall:ls.foldl (wst g.2.2 u tw[k].2) tw=(ls.drop (m+1)).foldl (wst g.2.2 u tw[k].2) ((ls.take (m+1)).foldl (wst g.2.2 u tw[k].2) tw):=by
  rw[←List.foldl_append,List.take_append_drop]
 have m2:(nextV g.2.2 u ls[m],tw[k].2++ [ls[m]])∈wcO g:=by
  rw[h2,hall,wfold_succ _ _ _ _ _ _ hm,hst]
  refine List.mem_of_getElem? (wcF_prefix _ _ _ _ _ ((ls.take m).foldl (wst g.2.2 u tw[k].2) tw).length _ (wfold_prefix _ _ _ _ _ _ _ ?_))
  rw[List.getElem?_append_right (Nat.le_refl _),Nat.sub_self]
  rfl
 have w2:=wd_of hg m2
 rw[w2,w1]
def tE (g:GrD) (y:Int):EdD:=
 if 0<(wdO g y).getLastD 0 then(nextV g.2.2 y (-(wdO g y).getLastD 0),(wdO g y).getLastD 0,y) else(y,-(wdO g y).getLastD 0,nextV g.2.2 y (-(wdO g y).getLastD 0))
theorem wd_out {g:GrD} {v:Int} (hv:v∉canO g):wdO g v= []:=by
 unfold wdO lkW
 cases e:(wcO g).find? (fun p=>decide (p.1=v)) with
 | none=>rfl
 | some p=>
   have h1:=List.find?_some e
   have h2:=List.mem_of_find?_eq_some e
   rw[decide_eq_true_eq] at h1
   exact absurd (h1▸can_of h2) hv
theorem getLastD_snoc (l:List Int) (x:Int):(l++ [x]).getLastD 0=x:=by simp[List.getLastD_eq_getLast?]
theorem tE_new {g:GrD} (hg:grB g=true) (hf:Fol g.2.2) {u x y:Int} (hx:x∈lettersL g.1.toNat) (h0:0≤nextV g.2.2 u x) (hy:nextV g.2.2 u x=y) (hw:wdO g y=wdO g u++ [x]):tE g y=if 0<x then(u,x,y) else(y,-x,u):=by
 have hb:=nextV_back hg hf (let3 hg hx) h0
 rw[hy] at hb
 unfold tE
 rw[hw,getLastD_snoc,hb]
theorem tE_iff {g:GrD} (hg:grB g=true) (hf:Fol g.2.2) {e:EdD} (he:e∈g.2.2):(∃y∈canO g,y≠0∧e=tE g y)↔exB g e=false:=by
 have hl:=(edge_of_gr hg he).2.1
 rw[Bool.eq_false_iff,Ne,exB_iff,Classical.not_and_iff_not_or_not,Classical.not_not,Classical.not_not]
 constructor
 ·rintro⟨y,hy,h0,rfl⟩
  obtain⟨u,hu,x,hx,e1,hnx⟩:=wd_par hg hy h0
  have hyr:=(canO_ok hg).2.1 y hy
  have ht:=tE_new hg hf hx (by rw[hnx];omega) hnx e1
  rw[ht]
  split
  ·exact .inl e1
  ·exact .inr (by simp only;rw[Int.neg_neg];exact e1)
 ·rintro(h | h)
  ·have hy:e.2.2∈canO g:=Classical.byContradiction fun hn=>by
    rw[wd_out hn] at h
    have:=congrArg List.length h
    simp at this
   have h0:e.2.2≠0:=fun h0=>by
    rw[h0,wd_zero hg] at h
    have:=congrArg List.length h
    simp at this
   obtain⟨u,hu,x,hx,e1,hnx⟩:=wd_par hg hy h0
   have hyr:=(canO_ok hg).2.1 _ hy
   rw[h] at e1
   have hxe:=(snoc_inj e1).2
   subst hxe
   have hb:=nextV_back hg hf (let3 hg hx) (by rw[hnx];omega)
   rw[hnx,nextV_in hg hf he] at hb
   refine⟨e.2.2,hy,h0,?_⟩
   have ht:=tE_new hg hf hx (by rw[hnx];omega) hnx (by rw[h,hb])
   rw[ht,if_pos (by omega),←hb]
  ·have hy:e.1∈canO g:=Classical.byContradiction fun hn=>by
    rw[wd_out hn] at h
    have:=congrArg List.length h
    simp at this
   have h0:e.1≠0:=fun h0=>by
    rw[h0,wd_zero hg] at h
    have:=congrArg List.length h
    simp at this
   obtain⟨u,hu,x,hx,e1,hnx⟩:=wd_par hg hy h0
   have hyr:=(canO_ok hg).2.1 _ hy
   rw[h] at e1
   have hxe:=(snoc_inj e1).2
   subst hxe
   have hb:=nextV_back hg hf (let3 hg hx) (by rw[hnx];omega)
   rw[hnx,Int.neg_neg,nextV_out hg hf he] at hb
   refine⟨e.1,hy,h0,?_⟩
   have ht:=tE_new hg hf hx (by rw[hnx];omega) hnx (by rw[h,hb])
   rw[ht,if_neg (by omega),←hb,Int.neg_neg]
def TrE (g:GrD) (o:List Int) (T:List EdD):Prop:= ∀e,e∈T↔ ∃y∈o,y≠0∧e=tE g y
theorem TrE.add {g:GrD} {o:List Int} {T T':List EdD} (h:TrE g o T) {y:Int} (hy:y≠0) (hT: ∀e,e∈T'↔e=tE g y∨e∈T):TrE g (o++ [y]) T':=by
 intro e
 rw[hT,h e]
 constructor
 ·rintro(rfl | ⟨z,hz,r⟩)
  ·exact⟨y,by simp,hy,rfl⟩
  ·exact⟨z,by simp[hz],r⟩
 ·rintro⟨z,hz,r⟩
  rcases List.mem_append.1 hz with hz | hz
  ·exact .inr ⟨z,hz,r⟩
  ·rw[List.mem_singleton.1 hz] at r;exact .inl r.2
theorem TrE.ext {g:GrD} (hf:foldB g=true) {T:List EdD} (h:TrE g (canO g) T) {e:EdD} (he:e∈g.2.2):(e∈T↔exB g e=false):=by
 obtain⟨hg,hfol⟩:=foldB_parts hf
 rw[h e]
 exact tE_iff hg hfol he
end Go.Proofs.YtnjpoljbagfdnaaGreat
namespace Go.Proofs.YtnjpoljbagfdnaaGreat
set_option maxRecDepth 20000
set_option linter.unusedVariables false
set_option linter.unusedSimpArgs false
open Go.RowKit
abbrev FoD:=Int×Int
def fo2 (a b:EdD):List FoD:=
 (if a.2.1=b.2.1∧a.1=b.1 then [(min a.2.2 b.2.2,max a.2.2 b.2.2)] else [])++
 (if a.2.1=b.2.1∧a.2.2=b.2.2 then [(min a.1 b.1,max a.1 b.1)] else [])
def foAt (es:List EdD) (i k:Nat):List FoD:=((es.take k).drop (i+1)).flatMap (fo2 (es.getD i (0,0,0)))
def foUp (es:List EdD):Nat→List FoD
 | 0=> []
 | i+1=>foUp es i++foAt es i es.length
def foL (es:List EdD):List FoD:=foUp es es.length
theorem foAt_start (es:List EdD) (i:Nat):foAt es i (i+1)= []:=by
 unfold foAt
 rw[List.drop_eq_nil_of_le (by rw[List.length_take];omega)]
 rfl
theorem foAt_succ (es:List EdD) (i k:Nat) (hk:k<es.length) (hi:i<k):foAt es i (k+1)=foAt es i k++fo2 (es.getD i (0,0,0)) es[k]:=by
 unfold foAt
 rw[List.take_succ_eq_append_getElem hk,List.drop_append_of_le_length (by rw[List.length_take];omega),List.flatMap_append]
 simp
theorem fo2_len (a b:EdD):(fo2 a b).length≤2:=by
 unfold fo2
 rw[List.length_append]
 split<;>split<;>simp
theorem foAt_len (es:List EdD) (i k:Nat):(foAt es i k).length≤2*es.length:=by
 unfold foAt
 have h: ∀L:List EdD,(L.flatMap (fo2 (es.getD i (0,0,0)))).length≤2*L.length:=by
  intro L
  induction L with
  | nil=>simp
  | cons a L ih=>
    rw[List.flatMap_cons,List.length_append,List.length_cons]
    have:=fo2_len (es.getD i (0,0,0)) a
    omega
 have h1:=h ((es.take k).drop (i+1))
 rw[List.length_drop,List.length_take] at h1
 omega
theorem foUp_len (es:List EdD): ∀i,(foUp es i).length≤2*es.length*i
 | 0=>by simp[foUp]
 | i+1=>by
   have h1:=foUp_len es i
   have h2:=foAt_len es i es.length
   unfold foUp
   rw[List.length_append,Nat.mul_succ]
   omega
theorem foAt_mem {es:List EdD} {i k:Nat} (hi:i<k) (hk:k<es.length) {f:FoD} (h:f∈fo2 es[i] es[k]):f∈foAt es i es.length:=by
 unfold foAt
 rw[List.take_length]
 refine List.mem_flatMap.2 ⟨es[k],?_,by simpa[List.getD,show i<es.length by omega] using h⟩
 rw[List.mem_iff_getElem]
 exact⟨k-(i+1),by rw[List.length_drop];omega,by rw[List.getElem_drop];congr 1;omega⟩
theorem foUp_mem {es:List EdD} {i:Nat} {f:FoD} (h:f∈foAt es i es.length): ∀n,i<n→f∈foUp es n
 | 0,hn=>by omega
 | n+1,hn=>by
   unfold foUp
   by_cases e:i=n
   ·subst e;exact List.mem_append.2 (.inr h)
   ·exact List.mem_append.2 (.inl (foUp_mem h n (by omega)))
theorem foUp_from {es:List EdD} {f:FoD}: ∀n,f∈foUp es n→ ∃i,i<n∧f∈foAt es i es.length
 | 0,h=>by cases h
 | n+1,h=>by
   unfold foUp at h
   rcases List.mem_append.1 h with h | h
   ·obtain⟨i,hi,hf⟩:=foUp_from n h
    exact⟨i,by omega,hf⟩
   ·exact⟨n,by omega,h⟩
theorem foL_from {es:List EdD} {f:FoD} (h:f∈foL es): ∃i k,∃(hi:i<k) (hk:k<es.length),f∈fo2 (es[i]'(by omega)) es[k]:=by
 obtain⟨i,hi,hf⟩:=foUp_from _ h
 unfold foAt at hf
 rw[List.take_length] at hf
 obtain⟨b,hb,hf⟩:=List.mem_flatMap.1 hf
 obtain⟨j,hj,rfl⟩:=List.mem_iff_getElem.1 hb
 rw[List.length_drop] at hj
 rw[List.getElem_drop] at hf
 refine⟨i,i+1+j,by omega,by omega,?_⟩
 simpa[List.getD,hi] using hf
theorem fol_of_foL {es:List EdD} (h:foL es= []):Fol es:=by
 refine fol_of fun k hk i hi=> ?_
 rcases e:clash es[k] es[i] with _ | _
 ·rfl
 ·rw[clash_comm] at e
  have hm: ∃f,f∈fo2 es[i] es[k]:=by
   unfold clash at e
   simp only[Bool.and_eq_true,Bool.or_eq_true,beq_iff_eq] at e
   unfold fo2
   rcases e.2 with q | q
   ·exact⟨_,List.mem_append.2 (.inl (by rw[if_pos ⟨e.1,q⟩];exact List.mem_singleton.2 rfl))⟩
   ·exact⟨_,List.mem_append.2 (.inr (by rw[if_pos ⟨e.1,q⟩];exact List.mem_singleton.2 rfl))⟩
  obtain⟨f,hf⟩:=hm
  have:=foUp_mem (foAt_mem hi hk hf) es.length (by omega)
  rw[show foUp es es.length= [] from h] at this
  cases this
theorem gr_srt {g:GrD} (h:grB g=true):Srt cmpE g.2.2:=(gr_nodup h).1
theorem foL_ok {g:GrD} (h:grB g=true) {f:FoD} (hf:f∈foL g.2.2):0≤f.1∧f.1<f.2∧f.2<g.2.1:=by
 obtain⟨i,k,hi,hk,hm⟩:=foL_from hf
 have hne:g.2.2[i]≠g.2.2[k]:=fun e=>by
  have:=(List.pairwise_iff_getElem.1 (gr_srt h)) i k (by omega) hk hi
  rw[e,cmpE_zero.2 rfl] at this
  omega
 have e1:=edge_of_gr h (List.getElem_mem (show i<g.2.2.length by omega))
 have e2:=edge_of_gr h (List.getElem_mem hk)
 generalize g.2.2[i]'(by omega)=a at*
 generalize g.2.2[k]=b at*
 obtain⟨a1,a2,a3⟩:=a
 obtain⟨b1,b2,b3⟩:=b
 simp only at*
 unfold fo2 at hm
 rcases List.mem_append.1 hm with hm | hm
 ·split at hm
  ·rename_i q
   simp only at q
   have:a3≠b3:=fun e=>hne (by rw[q.1,q.2,e])
   rw[List.mem_singleton.1 hm]
   simp only
   omega
  ·cases hm
 ·split at hm
  ·rename_i q
   simp only at q
   have:a1≠b1:=fun e=>hne (by rw[q.1,q.2,e])
   rw[List.mem_singleton.1 hm]
   simp only
   omega
  ·cases hm
def plF (f:FoD) (v:Int):Int:=if v=f.2 then f.1 else if f.2<v then v-1 else v
def plE (f:FoD) (e:EdD):EdD:=(plF f e.1,e.2.1,plF f e.2.2)
def merG (g:GrD) (f:FoD):GrD:=(g.1,g.2.1-1,srt cmpE (g.2.2.map (plE f)))
theorem plF_range {f:FoD} {n v:Int} (hf:0≤f.1∧f.1<f.2∧f.2<n) (hv:0≤v∧v<n):0≤plF f v∧plF f v<n-1:=by
 unfold plF
 split
 ·omega
 ·split<;>omega
theorem grB_merG {g:GrD} {f:FoD} (hg:grB g=true) (hf:0≤f.1∧f.1<f.2∧f.2<g.2.1):grB (merG g f)=true:=by
 obtain⟨h1,h2,h3,_⟩:=grB_parts hg
 have hsp:=srt_spec cmpE_ord (g.2.2.map (plE f))
 refine grB_of h1 ⟨by show(1:Int)≤g.2.1-1;omega,by show g.2.1-1≤40;omega⟩ ?_ hsp.1 fun e he=> ?_
 ·have a:=srt_len (c:=cmpE) (g.2.2.map (plE f))
  rw[List.length_map] at a
  show(srt cmpE (g.2.2.map (plE f))).length≤120
  omega
 ·obtain⟨d,hd,rfl⟩:=List.mem_map.1 ((hsp.2 e).1 he)
  obtain⟨q1,q2,q3⟩:=edge_of_gr hg hd
  exact⟨plF_range hf q1,q2,plF_range hf q3⟩
def folF:Nat→GrD→GrD
 | 0,g=>g
 | n+1,g=>match foL g.2.2 with
   | []=>g
   | f::_=>folF n (merG g f)
def folA (g:GrD):GrD:=folF g.2.1.toNat g
theorem folF_nil {g:GrD} (h:foL g.2.2= []): ∀n,folF n g=g
 | 0=>rfl
 | n+1=>by unfold folF;rw[h]
theorem folF_cons {g:GrD} {f:FoD} {l:List FoD} (h:foL g.2.2=f::l) (n:Nat):folF (n+1) g=folF n (merG g f):=by
 show(match foL g.2.2 with | []=>g | f::_=>folF n (merG g f))=_
 rw[h]
theorem folF_ok: ∀(n:Nat) (g:GrD),grB g=true→g.2.1≤n→foldB (folF n g)=true
 | 0,g,hg,hn=>by have:=(grB_parts hg).2.1;omega
 | n+1,g,hg,hn=>by
   rcases e:foL g.2.2 with _ | ⟨f,l⟩
   ·rw[folF_nil e]
    unfold foldB
    rw[hg,decide_eq_true (fol_of_foL e)]
    rfl
   ·rw[folF_cons e]
    have hf:=foL_ok hg (f:=f) (by rw[e];simp)
    exact folF_ok n (merG g f) (grB_merG hg hf) (by show g.2.1-1≤n;omega)
theorem folA_ok {g:GrD} (hg:grB g=true):foldB (folA g)=true:=folF_ok _ g hg (by have:=(grB_parts hg).2.1;omega)
theorem fol_mem {es:List EdD} (h:Fol es) {a b:EdD} (ha:a∈es) (hb:b∈es) (hne:a≠b):clash a b=false:=by
 unfold Fol at h
 rw[List.pairwise_iff_getElem] at h
 obtain⟨i,hi,rfl⟩:=List.getElem_of_mem ha
 obtain⟨k,hk,rfl⟩:=List.getElem_of_mem hb
 rcases Nat.lt_trichotomy i k with q | q | q
 ·exact h i k hi hk q
 ·subst q;exact absurd rfl hne
 ·rw[clash_comm];exact h k i hk hi q
theorem fol_rnG {g:GrD} (o:List Int) (h:Fol g.2.2):Fol (rnG g o).2.2:=by
 have hsp:=srt_spec cmpE_ord (rnL g.2.2 o)
 show Fol (srt cmpE (rnL g.2.2 o))
 unfold Fol
 refine hsp.1.imp_of_mem fun {x y} hx hy hxy=> ?_
 obtain⟨a,ha,hxa⟩:=List.mem_filterMap.1 ((hsp.2 x).1 hx)
 obtain⟨b,hb,hyb⟩:=List.mem_filterMap.1 ((hsp.2 y).1 hy)
 have hne:a≠b:=fun e=>by
  subst e
  rw[hxa] at hyb
  injection hyb with e
  rw[e,cmpE_zero.2 rfl] at hxy
  omega
 have hc:=fol_mem h ha hb hne
 unfold rnE at hxa hyb
 split at hxa
 ·rename_i p1
  split at hyb
  ·rename_i p2
   injection hxa with hxa
   injection hyb with hyb
   subst hxa hyb
   unfold clash at hc⊢
   rw[Bool.eq_false_iff] at hc⊢
   intro q
   apply hc
   simp only[Bool.and_eq_true,Bool.or_eq_true,beq_iff_eq] at q⊢
   refine⟨q.1,?_⟩
   rcases q.2 with q | q
   ·exact .inl (plv_inj (o:=o) (by omega) (by omega))
   ·exact .inr (plv_inj (o:=o) (by omega) (by omega))
  ·cases hyb
 ·cases hxa
theorem foldB_rnGN {g:GrD} {o:List Int} (h:foldB g=true) (ho:OrdN g.2.1 o):foldB (rnG g o)=true:=by
 obtain⟨h1,h2⟩:=foldB_parts h
 unfold foldB
 rw[grB_rnGN h1 ho,decide_eq_true (fol_rnG o h2)]
 rfl
theorem foldB_rnG {g:GrD} {o:List Int} (h:foldB g=true) (ho:OrdOk g.2.1 o):foldB (rnG g o)=true:=foldB_rnGN h ho.toN
theorem trimF_fold: ∀(n:Nat) (g:GrD) (l:List Int),foldB g=true→foldB (trimF n g l).1=true
 | 0,g,l,h=>h
 | n+1,g,l,h=>by
   unfold trimF
   split
   ·exact h
   ·rename_i hv
    have hsz:=(grB_parts (foldB_parts h).1).2.1
    have hr:=leafV_range g.2.2 g.2.1.toNat
    refine trimF_fold n _ _ (foldB_rnG h ?_)
    have:=delO_ok (n:=g.2.1.toNat) (x:=leafV g.2.2 g.2.1.toNat) (by omega) (by omega)
    rwa [show((g.2.1.toNat:Nat):Int)=g.2.1 by omega] at this
theorem trimG_fold {g:GrD} (h:foldB g=true):foldB (trimG g).1=true:=trimF_fold _ _ _ h
def coreG (g:GrD):GrD:=canG (trimG (folA g)).1
end Go.Proofs.YtnjpoljbagfdnaaGreat
