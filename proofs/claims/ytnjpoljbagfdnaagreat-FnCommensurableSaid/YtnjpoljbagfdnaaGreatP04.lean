/- Parts of the proof: Part, Trim, TwP, FoldP. -/
import Derived.Test.YtnjpoljbagfdnaaGreatP01
import Derived.OrdersHeld
import Derived.Deep.RegionHeld3
import Derived.Test.YtnjpoljbagfdnaaGreatP03
import Derived.Test.YtnjpoljbagfdnaaGreatP02
set_option maxRecDepth 100000
set_option maxHeartbeats 16000000
set_option linter.unusedVariables false
set_option linter.unusedSimpArgs false
namespace Go.Proofs.YtnjpoljbagfdnaaGreat
open Go.RowKit
open _root_.List renaming setIfInBounds_toArray→zaa,set_cons_zero→zab,set_cons_succ→zac,mem_append→zae,mem_singleton→zaf,length_append→zag,replicate→zah,length_take→zap,length_drop→zat,getElem?_eq_getElem→zau,mem_map→zaw,all_eq_true→zax,take_length→zaA,mem_of_getElem?→zaB,length_set→zaC,getElem?_eq_some_iff→zaD,range→zaE,take_succ_eq_append_getElem→zaH,length_replicate→zaI,mem_filter→zaK,getElem_of_mem→zaL,length→zaM,getElem?_map→zaN,pairwise_iff_getElem→zaO,cons_append→zaP,nil_append→zaR,length_singleton→zaU,mem_iff_getElem→zaV,map_cons→zaW,replicate_zero→zaY,mem_filterMap→za0,foldl_append→za2,append_assoc→za3,getElem_drop→za5,ext_getElem→za6,length_cons→za7,mem_flatMap→za8,getElem_mem→za9,foldl_cons→zbc,nodup_cons→zbd,length_map→zbe,mem_cons→zbf
open _root_.Nat renaming le_refl→zad,zero_le→zaF,lt_or_eq_of_le→zaZ,le_of_lt_succ→za1
open Go.World renaming cell?_setCell_other→zai,cell?_setCell_same→zas,frozen?_setCell→zav,frozen?_of_block→zaG,cell?_of_block→zaJ,ownsRow→zaX
open _root_.Bool renaming and_eq_true→zaj,or_eq_true→zaQ,eq_false_iff→za4,eq_iff_iff→zbb,false_or→zbg
open _root_.Int renaming le_refl→zak,toNat_natCast→zar,neg_neg→zaS
open _root_.Classical renaming byContradiction→zal,not_not→zam,not_and_iff_not_or_not→zan
open Go.Act renaming put→zao
open Go.Value renaming slice→zaq,ownBlock→zaT
open Go.RowKit.Below renaming drew→zay,refl→zaz
open _root_.Array renaming replicate→zba
section
variable {P:Program} {ops:Array Oper} {Q:Exit→Act→World→Prop} {S:World→Prop} {n:Nat}
def qCQ (P:Program) (ops:Array Oper) (Q:Exit→Act→World→Prop) (S:World→Prop) (n:Nat):Nat→Array Bool→Act→World→Prop
 | 0,listed,a,w=>Region.ready .any ops listed= []∧Q .normal a w
 | f+1,listed,a,w=>(Region.ready .any ops listed= []→Q .normal a w)∧
   ∀i,i∈Region.ready .any ops listed→wpOp P ops Q i (fun a' w'=>(i≠n→S w')∧qCQ P ops Q S n f (listed.setIfInBounds i true) a' w') a w
theorem qKp: ∀(f:Nat) (listed:Array Bool) (a:Act) (w:World),qCQ P ops Q S n f listed a w→wpAny P .any ops Q f listed a w:=by
 intro f;induction f with
 | zero=>intro listed a w h;exact h
 | succ f ih=>intro listed a w h;exact⟨h.1,fun i hi=>wpOp_mono (fun a' w' hk=>ih _ a' w' hk.2) (h.2 i hi)⟩
theorem qIQ {st:Oper} (af:LastOk ops ops n st st) {i:Nat} {oi:Oper} {v:Value} (hi:ops[i]? =some oi) (bD:i<n) (nj:Region.noSelect ops=true)
  (hQ: ∀c a w,Q (.panic c) (a.put oi.dst v) w→Q (.panic c) a w):
  ∀(f:Nat) (listed:Array Bool) (a:Act) (w:World),Cl ops listed→
   (∀j oj,ops[j]? =some oj→j≠i→listed.getD j true=false→(∀e∈oj.after,Region.binds .any e=true→e.on≠i)→oi.apart ops oj=true)→
   i∈Region.ready .any ops listed→YieldsIf P ops S oi v a→S w→
   qCQ P ops Q S n f (listed.setIfInBounds i true) (a.put oi.dst v) w→qCQ P ops Q S n (f+1) listed a w:=by
 have hs:=Region.noSelect_spec nj;intro f;induction f with
 | zero=>
   intro listed a w _ _ hr hy hS H;refine⟨fun h0=>(by rw[h0] at hr;cases hr),fun j hj=> ?_⟩;by_cases e:j=i
   ·subst e;exact hy.wpOp hi hS ⟨fun _=>hS,H⟩
   ·have:=ready_mono hj e
    rw[H.1] at this;cases this
 | succ f ih=>
   intro listed a w hc hfree hr hy hS H;refine⟨fun h0=>(by rw[h0] at hr;cases hr),fun j hj=> ?_⟩;by_cases e:j=i
   ·subst e;exact hy.wpOp hi hS ⟨fun _=>hS,H⟩
   ·have lI:=(mem_ready.1 hr).1;have aq:listed.size=n+1:=hc.1.trans af.size;have mO:j≠n:=fun e'=>by
     subst e';have:=af.all hc hj _ i rfl bD
     rw[qAg tO,this] at lI;cases lI
    have h1:=H.2 j (ready_mono hj e);obtain⟨Jw,oj,wL,aB⟩:=mem_ready.1 hj;have dE: ∀e∈oj.after,Region.binds .any e=true→e.on≠i:=fun e he hb h=>by
     have h2:=aB e he hb;rw[h] at h2;rw[qAg tO,h2] at lI;cases lI
    have h2:=wpOp_putIf wL (hfree j oj wL e Jw dE) (fun cs b=>hs i oi cs b hi) (fun cs b=>hs j oj cs b wL) hQ hy h1;refine wpOp_mono (fun a' w' hk=> ?_) h2;obtain⟨Cf,Hn,hk⟩:=hk;refine⟨fun _=>Hn mO,ih _ a' w' (hc.set hj) (fun k ok Ct Cy d4 hno'=> ?_) (ready_mono hr (Ne.symm e)) Cf (Hn mO) ?_⟩
    ·refine hfree k ok Ct Cy ?_ hno';by_cases ge:j=k
     ·subst ge;exact Jw
     ·rwa [getD_set_ne true ge] at d4
    ·rw[Array.setIfInBounds_comm _ _ e];exact hk
def clB (ops:Array Oper) (listed:Array Bool):Bool:=
 decide (listed.size=ops.size)&&(zaE ops.size).all fun j=> !listed.getD j false||match ops[j]? with
  | some o=>o.after.all fun e=> !Region.binds .any e||listed.getD e.on false
  | none=>true
theorem qPP {listed:Array Bool} (h:clB ops listed=true):Cl ops listed:=by
 unfold clB at h;simp only[zaj,decide_eq_true_eq,zax,List.mem_range,zaQ,Bool.not_eq_true'] at h;refine⟨h.1,fun j o ho hl e he hb=> ?_⟩;have hj:=(Array.getElem?_eq_some_iff.1 ho).1;rcases h.2 j hj with h1 | h1
 ·rw[hl] at h1;cases h1
 ·rw[ho] at h1;have:=Array.all_eq_true_iff_forall_mem.1 h1 e he
  rw[hb] at this;simpa using this
theorem qV {l:List Oper} {i f:Nat} {oi:Oper} {v:Value} {listed:Array Bool} {a:Act} {w:World} (hl:l.length=n+1) (hL:qKk l.toArray n=true)
  (hi:l.toArray[i]? =some oi) (bD:i<n) (hs:Region.noSelect l.toArray=true) (hc:clB l.toArray listed=true) (hf:Region.free .any l.toArray listed i=true) (hr:(Region.ready .any l.toArray listed).contains i=true)
  (hQ: ∀c a w,Q (.panic c) (a.put oi.dst v) w→Q (.panic c) a w) (hy:YieldsIf P l.toArray S oi v a) (hS:S w)
  (h:qCQ P l.toArray Q S n f (listed.setIfInBounds i true) (a.put oi.dst v) w):qCQ P l.toArray Q S n (f+1) listed a w:=by
 obtain⟨st,_,af⟩:=qIt hl hL;have kM:LastOk l.toArray l.toArray n st st:=⟨af.size,af.size,fun _ _=>⟨rfl,rfl⟩,af.hst,af.hst,rfl,af.dst,af.dst,af.guard,af.guard,af.back,af.chain⟩;exact qIQ kM hi bD hs hQ f listed a w (qPP hc) (Region.free_spec hi hf) (by simpa using hr) hy hS h
theorem qHE {i f:Nat} {listed:Array Bool} {a:Act} {w:World} (hr:Region.ready .any ops listed= [i])
  (h:wpOp P ops Q i (fun a' w'=>(i≠n→S w')∧qCQ P ops Q S n f (listed.setIfInBounds i true) a' w') a w):qCQ P ops Q S n (f+1) listed a w:=by
 refine⟨fun h0=>(by rw[hr] at h0;cases h0),fun j hj=> ?_⟩;rw[hr,zaf] at hj;subst hj;exact h
theorem qJT {listed:Array Bool} {a:Act} {w:World} (hr:Region.ready .any ops listed= []) (h:Q .normal a w): ∀f,qCQ P ops Q S n f listed a w
 | 0=>⟨hr,h⟩
 | _+1=>⟨fun _=>h,fun i hi=>by rw[hr] at hi;cases hi⟩
theorem qJH {id:Nat} {a:Act} {w:World} (hm:P.follows .mixedOrders=true) (h:qCQ P ops Q S n ops.size (zba ops.size false) a w.drew):(Code.region id ops true).wp P Q a w:=
 wp_region_any hm (qKp _ _ _ _ h)
end
section
variable {P:Program} {ops:Array Oper} {Q:Exit→Act→World→Prop} {S:World→Prop} {n:Nat}
theorem qAm {i f:Nat} {o:Oper} {listed:Array Bool} {a:Act} {w:World} (hr:Region.ready .any ops listed= [i]) (ho:ops[i]? =some o)
  (h: ∀K':Act→World→Prop,Shut (∀a' w',S w'→(S w'→qCQ P ops Q S n f (listed.setIfInBounds i true) a' w')→K' a' w')→if Region.wanted o (yielded ops a.tmps)=true then Oper.wp P o a w K' Q else K' (a.put o.dst undef) w):
  qCQ P ops Q S n (f+1) listed a w:=
 qHE hr (wpOp_step ho fun K' hK=>h K' (fun a' w' hS hW=>hK a' w' ⟨fun _=>hS,hW hS⟩))
theorem qEX {f:Nat} {o:Oper} {listed:Array Bool} {a:Act} {w:World} (hr:Region.ready .any ops listed= [n]) (ho:ops[n]? =some o) (hd:Region.ready .any ops (listed.setIfInBounds n true)= [])
  (h: ∀K':Act→World→Prop,Shut (∀a' w',Q .normal a' w'→K' a' w')→if Region.wanted o (yielded ops a.tmps)=true then Oper.wp P o a w K' Q else K' (a.put o.dst undef) w):
  qCQ P ops Q S n (f+1) listed a w:=
 qHE hr (wpOp_step ho fun K' hK=>h K' (fun a' w' hQ=>hK a' w' ⟨fun hn=>absurd rfl hn,qJT hd hQ f⟩))
theorem qDU {id m:Nat} {a:Act} {w:World} (hm:P.follows .mixedOrders=true) (hz:ops.size=m) (hS:S w.drew) (h:S w.drew→qCQ P ops Q S n m (zba m false) a w.drew):(Code.region id ops true).wp P Q a w:=
 qJH hm (by rw[hz];exact h hS)
end
theorem qCO {w:World} {o:Oper} {a:Act} {K:Act→World→Prop} {Q:Exit→Act→World→Prop} (s x:Operand)
  (ho:o.op= .call {callee:= .builtin .append,args:= #[s,x],argTypes:= #[24,24]})
  (base:Nat) (v:Value) (es:List EdD) (aa:OwE w base v es) (hs:a.eval s=v) (b:Nat) (e:EdD) (hx:a.eval x= .slice (some ⟨b,0,none⟩) 1 1)
  (hc: ∀j u,(edC e)[j]? =some u→w.cell? ⟨b,j,none⟩=some u) (he:E64 e) (hl:es.length≤1073741824) (ao:base≤w.heap.size)
  (h: ∀v' w',OwE w' base v' (es++ [e])→w.grownBy w' v.ownBlock→(v'.ownBlock=v.ownBlock∨v'.ownBlock=some w.heap.size)→K (a.put o.dst v') w'):
  o.wp Tryz.prog a w K Q:=by
 obtain⟨i0,cE,cD,bI,cj⟩:=info_parts qEn;obtain⟨v',w',fu,h1,h2,_,h5⟩:=run_append_own_at (P:=Tryz.prog) w base 24 o.type 97 i0 _ 3 24 Tryz.underlying24 cE cD bI cj rfl (by decide) v es.length (edCs es) aa.1 ⟨b,0,none⟩ 1 1 (edC e) rfl
  (fun j u hj=>by rw[Addr.add_lit,Nat.zero_add];exact hc j u hj) (by intro u hu;simp[edC] at hu;rcases hu with rfl | rfl | rfl<;>rfl) (by unfold maxLen;omega) tO ao
 unfold Oper.wp execOp;simp only[ho,resolve,invoke,builtin,Sem.run_bind,Sem.run_pure,Result.andThen_ok,List.map_toArray,zaW,List.map_nil,hs,hx,fu];refine h v' w' ⟨?_,qEV aa.2 (qKR he)⟩ h2 h5;have e1:edCs (es++ [e])=edCs es++edC e:=by rw[qCw];simp[edCs]
 rw[e1,zag];exact h1
theorem qIU (N k:Nat) (h:k<N):((zah k (-1:Int))++zah (N-k) 0).set k (-1)=zah (k+1) (-1)++zah (N-(k+1)) 0:=by
 obtain⟨m,hm⟩: ∃m,N-k=m+1:=⟨N-k-1,tO⟩;rw[hm,show N-(k+1)=m by omega,List.set_append_right _ _ (by simp),zaI,Nat.sub_self,List.replicate_succ,zab,List.replicate_succ'];simp
theorem qIg (v vo:Value) (g:GrD) (o:List Int) (w:World) (h:ArgG w v g) (ho:RdI w vo o) (hg:grB g=true) (af:OrdN g.2.1 o):
  Calls Tryz.prog 160 #[v,vo] w fun e w'=> ∃r,e= .returned r∧OwG w' w.heap.size r (rnG g o)∧Below w.heap.size w w':=by
 have HG:=qA h;have dD:=qA af;have kq:=qA ho;obtain⟨bn,aE,aK,_⟩:=qB hg;have jC:=qA (fun e he=>qI hg (e:=e) he);have lE:=qA af.1;have Bz:=qA (qDl hg).2;obtain⟨r,n,es⟩:=g;simp only at bn aE aK HG jC af dD Bz
 obtain⟨N,rfl⟩: ∃N:Nat,n=(N:Int):=⟨n.toNat,tO⟩;have l5:1≤N:=tO;have uK:N≤40:=tO;have gV:o.length≤N:=qAc N o af.1 fun y hy=>by have:=af.2.1 y hy;omega
 have kG:Hid (∀k (hk:k<o.length),∃u:Nat,o[k]=(u:Int)∧u<N):=qA fun k hk=>by
  have:=af.2.1 o[k] (by simp)
  exact⟨o[k].toNat,tO,tO⟩
 clear aE hg af h;obtain⟨A,cap,rfl,HE⟩: ∃A cap,v= .agg #[.int .i64 r, .int .i64 N, .slice A es.length cap]∧Hid (ArgE w (.slice A es.length cap) es):=by
  obtain⟨s,hv,_,_,ha⟩:=HG.out;obtain⟨A,cap,rfl⟩:=ha.form;exact⟨A,cap,hv,qA ha⟩
 obtain⟨Ao,capo,rfl,eT,lK,_⟩:=ho.arg;have jy:es.length≤cap∧cap≤maxLen:=by
  obtain⟨_,_,hv,h1,h2,_⟩:=HE.out;injection hv with _ _ e3
  subst e3;exact⟨h1,h2⟩
 obtain⟨a6,hm⟩:=jy;unfold maxLen at lK hm;clear ho;have bx:Below w.heap.size w ((w.alloc (.cells #[.int .i64 r,.int .i64 N, .slice A es.length cap] 26)).alloc (.cells #[.int .i64 0,.int .i64 0, .slice none 0 0] 26)):=(by repeat(first | exact .refl _ _ | (refine BxS ?_ _) | (refine qD ?_ _) | (refine zay ?_) | (refine BxA ?_ _)));go_enter Tryz.func160,Tryz.ntmps160
 obtain⟨i0,cE,cD,bI,cj⟩:=info_parts qCR;go_wp2_with (at_make;refine wpList_make_full _ rfl _ _ 37 rfl (w.heap.size+1+1) 3 i0 (.int .i64 0) 1 Tryz.underlying37 cE cD bI _ _ _ _ N rfl rfl rfl rfl (by rw[cj];omega) (by unfold maxLen;omega) (by simp) ?_)
 obtain⟨W0,am⟩: ∃W,W=(w.alloc (.cells #[.int .i64 r,.int .i64 N, .slice A es.length cap] 26)).alloc (.cells #[.int .i64 0,.int .i64 0, .slice none 0 0] 26):=⟨_,rfl⟩;rw[←am] at bx⊢;have aW:W0.heap.size=w.heap.size+1+1:=by rw[am];simp
 have B0:Hid (W0.cell? ⟨w.heap.size,0,none⟩=some (.int .i64 r)):=qA (by rw[am];simp[go_sem]);have B2:Hid (W0.cell? ⟨w.heap.size,2,none⟩=some (.slice A es.length cap)):=qA (by rw[am];simp[go_sem]);have R0:Hid (W0.cell? ⟨w.heap.size+1,0,none⟩=some (.int .i64 0)):=qA (by rw[am];simp[go_sem]);have R1:Hid (W0.cell? ⟨w.heap.size+1,1,none⟩=some (.int .i64 0)):=qA (by rw[am];simp[go_sem]);have R2:Hid (W0.cell? ⟨w.heap.size+1,2,none⟩=some (.slice none 0 0)):=qA (by rw[am];simp[go_sem]);have RF:Hid (∀j,W0.frozen? ⟨w.heap.size+1,j,none⟩=false):=qA fun j=>by rw[am];simp[go_sem]
 clear am;rw[←aW];have BX:=qA bx;have C5:=qA aW;have mg:w.heap.size<W0.heap.size:=tO;have eV:w.heap.size+1<W0.heap.size:=tO;clear bx aW;intro w2 hown0 hgrow0;have dB:OwI w2 W0.heap.size (.slice (some ⟨W0.heap.size,0,none⟩) N N) (zah 0 (-1)++zah (N-0) 0):=by
  refine⟨?_,fun y hy=> ?_⟩
  ·simp only[zaY,zaR,Nat.sub_zero,zaI];have:ints (zah N 0)=zah N (Value.int .i64 0):=by simp[ints]
   rw[this];simpa[toList_madeCells_one] using hown0
  ·simp only[zaY,zaR,Nat.sub_zero] at hy;obtain⟨_,rfl⟩:=List.mem_replicate.1 hy;exact⟨by decide,by decide⟩
 have yK:=qA dB;have zo:=qA ((zaz W0.heap.size W0).grown hgrow0 (zad _) (fun k h=>by cases h));clear dB hown0 hgrow0;go_wp2;go_loopw [17] (fun i wr=> ∃k:Nat,k≤N∧i= .int .i64 k∧OwI wr W0.heap.size (.slice (some ⟨W0.heap.size,0,none⟩) N N) (zah k (-1)++zah (N-k) 0)∧Below W0.heap.size W0 wr) (fun i _=>N-(intOf i).toNat)
 case atStart=>exact⟨0,zaF _,rfl,yK.out,zo.out⟩
 case round=>
  obtain⟨k,hk,rfl,aa,ab⟩:=hrel;have HB:=qA ab;have hs:=ab.size;have HO:=qA aa;by_cases ac:k<N
  ·have aF:=aa.cellAt k (by simp;omega);have sr:=aa.free k;have HS:=qA (aa.set k (-1) ⟨by decide,by decide⟩);have bG:=qA (qIU N k ac);clear aa ab;generalize (zah k (-1:Int)++zah (N-k) 0)[k]'(by simp;omega)=z0 at aF;go_wp2;go_roundw
   case rel=>exact⟨k+1,tO,by go_num,by rw[←bG.out];exact HS.out.1,HB.out.grown HS.out.2 tO (fun j hj=>by cases hj;exact zad _)⟩
   case measure=>simp[intOf];omega
  ·obtain rfl:k=N:=tO
   have A7:Hid (OwI wr W0.heap.size (.slice (some ⟨W0.heap.size,0,none⟩) k k) (plc k (o.take 0) 1)):=qA (by
    rw[List.take_zero,qJO];simpa using HO.out)
   clear aa ab;go_wp2;go_loopw [26] (fun i wr=> ∃j:Nat,j≤o.length∧i= .int .i64 j∧OwI wr W0.heap.size (.slice (some ⟨W0.heap.size,0,none⟩) k k) (plc k (o.take j) 1)∧Below W0.heap.size W0 wr) (fun i _=>o.length-(intOf i).toNat)
   case atStart=>exact⟨0,zaF _,rfl,A7.out,HB.out⟩
   case round=>
    obtain⟨j,hj,rfl,aa,ab⟩:=hrel;have ky:=qA ab;have aw:=ab.size;have aM:=qA aa;by_cases al:j<o.length
    ·obtain⟨bo,offo,rfl,iF,oG⟩:=(kq.out.below (BX.out.trans (ab.mono tO))).at tO;have c0:=oG j al;obtain⟨u,hu,xG⟩:=kG.out j al;rw[hu] at c0;have jW:=aa.cellAt u (by rw[qEI];exact xG);have sr:=aa.free u;have bG:=qA (aa.set u (j:Int) ⟨tO,tO⟩);have uA:Hid ((plc k (o.take j) 1).set u (j:Int)=plc k (o.take (j+1)) 1):=qA (by
      have:=qJh k o 1 j al lE.out u hu
      rwa [Int.add_sub_cancel] at this)
     generalize (plc k (o.take j) 1)[u]'(by rw[qEI];exact xG)=z0 at jW;have j0:(0:Int)≤(u:Int):=tO;have j1:(u:Int)<(k:Int):=tO;clear oG hu aa ab;go_wp2;go_roundw
     case rel=>exact⟨j+1,tO,by go_num,by rw[←uA.out];exact bG.out.1,ky.out.grown bG.out.2 tO (fun j hj=>by cases hj;exact zad _)⟩
     case measure=>simp[intOf];omega
    ·obtain rfl:j=o.length:=tO
     rw[zaA] at aM;have hP:=(aM.out.1.lt W0.heap.size rfl).2;have q0:=(ab.cell (p:=⟨w.heap.size,0,none⟩) mg).trans B0.out;have q2:=(ab.cell (p:=⟨w.heap.size,2,none⟩) mg).trans B2.out;have mA:w.heap.size<wr.heap.size:=tO;have MA:w.heap.size+1<wr.heap.size:=tO;have hA: ∀ob o',(wr.alloc ob).cell? ⟨w.heap.size,o',none⟩=wr.cell? ⟨w.heap.size,o',none⟩:=fun ob o'=>zaJ (Below.heap_alloc wr ob (w.heap.size) mA);clear aa ab;go_wp2;generalize gd:wr=w5 at*;clear gd;have rD:Hid (∀(wl:World),w5.grownBy wl (some w5.heap.size)→ ∀u:Nat,u<k→wl.cell? ⟨W0.heap.size,u,none⟩=some (.int .i64 (plv o u-1))):=qA fun wl hg u hu=>by
      rw[qAf hg hP tO,aM.out.cellAt u (by rw[qEI];exact hu),qJG _ _ _ _ hu]
     have PLR:Hid (∀v:Int,0≤plv o v∧plv o v≤40):=qA fun v=>by have:=qAe o v;omega
     go_loopw [44] (fun i wl=> ∃(j:Nat) (A2:Option Addr) (ak:Nat),j≤es.length∧i= .int .i64 j∧wl.cell? ⟨w5.heap.size,2,none⟩=some (.slice A2 (rnL (es.take j) o).length ak)∧OwE wl (w5.heap.size+1) (.slice A2 (rnL (es.take j) o).length ak) (rnL (es.take j) o)∧w5.grownBy wl (some w5.heap.size)∧wl.cell? ⟨w5.heap.size,0,none⟩=some (.int .i64 r)∧wl.cell? ⟨w5.heap.size,1,none⟩=some (.int .i64 o.length)∧(∀j,wl.frozen? ⟨w5.heap.size,j,none⟩=false)∧w5.heap.size<wl.heap.size) (fun i _=>es.length-(intOf i).toNat)
     case atStart=>exact⟨0,none,0,zaF _,rfl,by show _=some (zaq none 0 0);simp[go_sem],OwE.nil,qAV ((zaz _ _).alloc (zad _) _),by simp[go_sem],by simp[go_sem],fun j=>by simp[go_sem],by simp⟩
     case round=>
      obtain⟨j,A2,ak,iL,rfl,eP,aX,aY,fJ,fi,jZ,eZ⟩:=hrel;have fZ:=qA aY;have jA:=aY.size;have CA:=qA (BX.out.trans (ky.out.mono (show w.heap.size≤W0.heap.size by omega)));have nY:=qA (CA.out.grown aY tO (fun j hj=>by cases hj;omega));have b2:=(qAf (o:=2) aY (show w.heap.size<w5.heap.size by omega) tO).trans q2;have gU:=qA eP;have gO:=qA fJ;have dZ:=qA fi;have mH:=qA jZ;clear fJ fi jZ;have d5:=qA aX;clear aY aX;by_cases mA:j<es.length
      ·obtain⟨be,offe,rfl,ku,c0,c1,c2,dz⟩:=(HE.out.below nY.out).at mA;obtain⟨e1,e2,e3⟩:=jC.out es[j] (by simp);have HS:=qA (qJv es o j mA);have i8:Hid (∀x,rnE o es[j]=some x→rnL (es.take (j+1)) o=rnL (es.take j) o++ [x]):=qA fun x hx=>by
        rw[HS.out,hx];rfl
       have AQ:Hid (rnE o es[j]=none→rnL (es.take (j+1)) o=rnL (es.take j) o):=qA fun hx=>by rw[HS.out,hx];simp
       have ri:(rnL (es.take j) o).length≤120:=by
        have h2:=qHO (es.take j) o;rw[zap] at h2;omega
       generalize es[j]=e at*;obtain⟨f,l,t⟩:=e;simp only at e1 e2 e3 c0 c1 c2
       obtain⟨a,rfl⟩: ∃a:Nat,f=(a:Int):=⟨f.toNat,tO⟩;obtain⟨c,rfl⟩: ∃c:Nat,t=(c:Int):=⟨t.toNat,tO⟩;have pa:=rD.out wr fZ.out a tO;have pc:=rD.out wr fZ.out c tO;obtain⟨Pz,Pg⟩:=PLR.out a;obtain⟨Pt,N7⟩:=PLR.out c;have RN:Hid (rnE o ((a:Int),l,(c:Int))=if 0<plv o a∧0<plv o c then some (plv o a-1,l,plv o c-1) else none):=qA rfl;have ja:(a:Int)<(k:Int):=tO;have jc:(c:Int)<(k:Int):=tO;have Kf:(0:Int)≤(a:Int):=tO;have Ii:(0:Int)≤(c:Int):=tO;have zj:W0.heap.size<wr.heap.size:=tO;have jQ:I64 l:=by unfold I64;omega
       have kJ:=qA jQ;generalize plv o a=pav at*;generalize plv o c=pcv at*;generalize hL:rnL (es.take j) o=L at*;clear jQ HS dz;have bA:Below wr.heap.size wr (wr.alloc (.cells #[.int .i64 a,.int .i64 l,.int .i64 c] 97)):=(zaz _ _).alloc (zad _) _;by_cases t1:0≤pav-1
       ·by_cases t2:0≤pcv-1
        ·have F:=qA (i8.out _ (by rw[RN.out,if_pos ⟨tO,tO⟩]));go_wp2_with fail;have sA:wr.heap.size<(wr.alloc (.cells #[.int .i64 a,.int .i64 l,.int .i64 c] 97)).heap.size:=by simp
         have l0:(wr.alloc (.cells #[.int .i64 a,.int .i64 l,.int .i64 c] 97)).cell? ⟨wr.heap.size,0,none⟩=some (.int .i64 a):=by simp[go_sem]
         have l1:(wr.alloc (.cells #[.int .i64 a,.int .i64 l,.int .i64 c] 97)).cell? ⟨wr.heap.size,1,none⟩=some (.int .i64 l):=by simp[go_sem]
         have l2:(wr.alloc (.cells #[.int .i64 a,.int .i64 l,.int .i64 c] 97)).cell? ⟨wr.heap.size,2,none⟩=some (.int .i64 c):=by simp[go_sem]
         generalize wr.alloc (.cells #[.int .i64 a,.int .i64 l,.int .i64 c] 97)=W at bA sA l0 l1 l2⊢;have la:=(bA.cell (p:=⟨W0.heap.size,a,none⟩) zj).trans pa;have lc:=(bA.cell (p:=⟨W0.heap.size,c,none⟩) zj).trans pc;have lx:=(bA.cell (p:=⟨w5.heap.size,2,none⟩) eZ).trans gU.out;have Ak:=qA ((bA.cell (p:=⟨w5.heap.size,0,none⟩) eZ).trans gO.out);have AX:=qA ((bA.cell (p:=⟨w5.heap.size,1,none⟩) eZ).trans dZ.out);have LXF:Hid (∀j,W.frozen? ⟨w5.heap.size,j,none⟩=false):=qA fun j=>(bA.frozen (p:=⟨w5.heap.size,j,none⟩) eZ).trans (mH.out j);have OW:=qA (d5.out.below bA);have GW:=qA (fZ.out.trans (qAV bA));have iS:w5.heap.size<W.heap.size:=tO;have sU:W0.heap.size<W.heap.size:=tO;have nS:W0.heap.size≠w5.heap.size:=tO;clear bA pa pc eP;refine qDU (n:=18) (S:=fun w'=>w'.cell? ⟨w5.heap.size,2,none⟩=some (.slice A2 L.length ak)∧w'.cell? ⟨W0.heap.size,a,none⟩=some (.int .i64 (pav-1))∧w'.cell? ⟨W0.heap.size,c,none⟩=some (.int .i64 (pcv-1))∧w'.cell? ⟨wr.heap.size,0,none⟩=some (.int .i64 a)∧w'.cell? ⟨wr.heap.size,1,none⟩=some (.int .i64 l)∧w'.cell? ⟨wr.heap.size,2,none⟩=some (.int .i64 c)) tK (by rfl) ⟨lx,la,lc,l0,l1,l2⟩ (fun hHeld=> ?_);(refine qV (n:=18) (i:=0) (v:= ?_) rfl tK rfl (by decide) tK tK tK tK (fun _ _ _ h=>h) (Or.inl ⟨by rfl,?_⟩) (by assumption) ?_;rotate_left;focus (intro ww hSw;(try dsimp only at hSw);go_simp;try with_reducible rfl);(try simp only[zao,zaa,zab,zac]));(refine qV (n:=18) (i:=1) (v:= ?_) rfl tK rfl (by decide) tK tK tK tK (fun _ _ _ h=>h) (Or.inl ⟨by rfl,?_⟩) (by assumption) ?_;rotate_left;focus (intro ww hSw;(try dsimp only at hSw);go_simp;try with_reducible rfl);(try simp only[zao,zaa,zab,zac]));(refine qV (n:=18) (i:=2) (v:= ?_) rfl tK rfl (by decide) tK tK tK tK (fun _ _ _ h=>h) (Or.inl ⟨by rfl,?_⟩) (by assumption) ?_;rotate_left;focus (intro ww hSw;(try dsimp only at hSw);go_simp;try with_reducible rfl);(try simp only[zao,zaa,zab,zac]));(refine qV (n:=18) (i:=3) (v:= ?_) rfl tK rfl (by decide) tK tK tK tK (fun _ _ _ h=>h) (Or.inl ⟨by rfl,?_⟩) (by assumption) ?_;rotate_left;focus (intro ww hSw;(try dsimp only at hSw);go_simp;try with_reducible rfl);(try simp only[zao,zaa,zab,zac]));(refine qV (n:=18) (i:=4) (v:= ?_) rfl tK rfl (by decide) tK tK tK tK (fun _ _ _ h=>h) (Or.inl ⟨by rfl,?_⟩) (by assumption) ?_;rotate_left;focus (intro ww hSw;(try dsimp only at hSw);go_simp;try with_reducible rfl);(try simp only[zao,zaa,zab,zac]));(refine qV (n:=18) (i:=5) (v:= ?_) rfl tK rfl (by decide) tK tK tK tK (fun _ _ _ h=>h) (Or.inl ⟨by rfl,?_⟩) (by assumption) ?_;rotate_left;focus (intro ww hSw;(try dsimp only at hSw);go_simp;try with_reducible rfl);(try simp only[zao,zaa,zab,zac]));(refine qV (n:=18) (i:=6) (v:= ?_) rfl tK rfl (by decide) tK tK tK tK (fun _ _ _ h=>h) (Or.inl ⟨by rfl,?_⟩) (by assumption) ?_;rotate_left;focus (intro ww hSw;(try dsimp only at hSw);go_simp;try with_reducible rfl);(try simp only[zao,zaa,zab,zac]));(refine qV (n:=18) (i:=7) (v:= ?_) rfl tK rfl (by decide) tK tK tK tK (fun _ _ _ h=>h) (Or.inl ⟨by rfl,?_⟩) (by assumption) ?_;rotate_left;focus (intro ww hSw;(try dsimp only at hSw);go_simp;try with_reducible rfl);(try simp only[zao,zaa,zab,zac]));(refine qV (n:=18) (i:=8) (v:= ?_) rfl tK rfl (by decide) tK tK tK tK (fun _ _ _ h=>h) (Or.inl ⟨by rfl,?_⟩) (by assumption) ?_;rotate_left;focus (intro ww hSw;(try dsimp only at hSw);go_simp;try with_reducible rfl);(try simp only[zao,zaa,zab,zac]));(refine qV (n:=18) (i:=9) (v:= ?_) rfl tK rfl (by decide) tK tK tK tK (fun _ _ _ h=>h) (Or.inl ⟨by rfl,?_⟩) (by assumption) ?_;rotate_left;focus (intro ww hSw;(try dsimp only at hSw);go_simp;try with_reducible rfl);(try simp only[zao,zaa,zab,zac]));(refine qV (n:=18) (i:=10) (v:= ?_) rfl tK rfl (by decide) tK tK tK tK (fun _ _ _ h=>h) (Or.inl ⟨by rfl,?_⟩) (by assumption) ?_;rotate_left;focus (intro ww hSw;(try dsimp only at hSw);go_simp;try with_reducible rfl);(try simp only[zao,zaa,zab,zac]));(refine qV (n:=18) (i:=11) (v:= ?_) rfl tK rfl (by decide) tK tK tK tK (fun _ _ _ h=>h) (Or.inl ⟨by rfl,?_⟩) (by assumption) ?_;rotate_left;focus (intro ww hSw;(try dsimp only at hSw);go_simp;try with_reducible rfl);(try simp only[zao,zaa,zab,zac]));(refine qV (n:=18) (i:=12) (v:= ?_) rfl tK rfl (by decide) tK tK tK tK (fun _ _ _ h=>h) (Or.inl ⟨by rfl,?_⟩) (by assumption) ?_;rotate_left;focus (intro ww hSw;(try dsimp only at hSw);go_simp;try with_reducible rfl);(try simp only[zao,zaa,zab,zac]));(refine qV (n:=18) (i:=13) (v:= ?_) rfl tK rfl (by decide) tK tK tK tK (fun _ _ _ h=>h) (Or.inl ⟨by rfl,?_⟩) (by assumption) ?_;rotate_left;focus (intro ww hSw;(try dsimp only at hSw);go_simp;try with_reducible rfl);(try simp only[zao,zaa,zab,zac]));(refine qV (n:=18) (i:=14) (v:= ?_) rfl tK rfl (by decide) tK tK tK tK (fun _ _ _ h=>h) (Or.inl ⟨by rfl,?_⟩) (by assumption) ?_;rotate_left;focus (intro ww hSw;(try dsimp only at hSw);go_simp;try with_reducible rfl);(try simp only[zao,zaa,zab,zac]))
         refine qAm (i:=15) tK rfl fun K' hK=> ?_;go_simp;have QC:W0.heap.size≠W.heap.size:=tO;have Qt:w5.heap.size≠W.heap.size:=tO;have Qn:wr.heap.size≠W.heap.size:=tO;have bB:Below W.heap.size W (W.alloc (.cells #[.int .i64 (pav-1),.int .i64 l,.int .i64 (pcv-1)] 97)).drew:=(by repeat(first | exact .refl _ _ | (refine BxS ?_ _) | (refine qD ?_ _) | (refine zay ?_) | (refine BxA ?_ _)));have nE: ∀j u,(edC (pav-1,l,pcv-1))[j]? =some u→(W.alloc (.cells #[.int .i64 (pav-1),.int .i64 l,.int .i64 (pcv-1)] 97)).drew.cell? ⟨W.heap.size,j,none⟩=some u:=fun j u hj=>by
          rcases j with _ | _ | _ | j<;>simp[edC] at hj<;>subst hj<;>simp[go_sem]
         have sB:W.heap.size<(W.alloc (.cells #[.int .i64 (pav-1),.int .i64 l,.int .i64 (pcv-1)] 97)).drew.heap.size:=by simp
         have k9:(W.alloc (.cells #[.int .i64 (pav-1),.int .i64 l,.int .i64 (pcv-1)] 97)).drew.cell? ⟨w5.heap.size,2,none⟩=some (.slice A2 L.length ak)∧(W.alloc (.cells #[.int .i64 (pav-1),.int .i64 l,.int .i64 (pcv-1)] 97)).drew.cell? ⟨W0.heap.size,a,none⟩=some (.int .i64 (pav-1))∧(W.alloc (.cells #[.int .i64 (pav-1),.int .i64 l,.int .i64 (pcv-1)] 97)).drew.cell? ⟨W0.heap.size,c,none⟩=some (.int .i64 (pcv-1))∧(W.alloc (.cells #[.int .i64 (pav-1),.int .i64 l,.int .i64 (pcv-1)] 97)).drew.cell? ⟨wr.heap.size,0,none⟩=some (.int .i64 a)∧(W.alloc (.cells #[.int .i64 (pav-1),.int .i64 l,.int .i64 (pcv-1)] 97)).drew.cell? ⟨wr.heap.size,1,none⟩=some (.int .i64 l)∧(W.alloc (.cells #[.int .i64 (pav-1),.int .i64 l,.int .i64 (pcv-1)] 97)).drew.cell? ⟨wr.heap.size,2,none⟩=some (.int .i64 c):=
          ⟨(bB.cell (p:=⟨w5.heap.size,2,none⟩) iS).trans lx,(bB.cell (p:=⟨W0.heap.size,a,none⟩) sU).trans la,(bB.cell (p:=⟨W0.heap.size,c,none⟩) sU).trans lc,(bB.cell (p:=⟨wr.heap.size,0,none⟩) sA).trans l0,(bB.cell (p:=⟨wr.heap.size,1,none⟩) sA).trans l1,(bB.cell (p:=⟨wr.heap.size,2,none⟩) sA).trans l2⟩
         clear hHeld;refine hK.out _ _ k9 (fun _=> ?_);clear hK;generalize (W.alloc (.cells #[.int .i64 (pav-1),.int .i64 l,.int .i64 (pcv-1)] 97)).drew=V at bB nE sB k9⊢;have sV:W.heap.size<V.heap.size:=sB;refine qAm (i:=16) tK rfl fun K' hK=> ?_;rw[if_pos (by rfl)];refine qCO (.tmp 63) (.tmp 77) rfl (w5.heap.size+1) _ L (OW.out.below bB) rfl W.heap.size (pav-1,l,pcv-1) rfl nE ⟨⟨by simp only;omega,by simp only;omega⟩,kJ.out,⟨by simp only;omega,by simp only;omega⟩⟩ tO tO ?_;intro v' w' o' g' p';obtain⟨A9,bh,rfl,_⟩:=OwE.form o';have O9:=qA o';clear o';have bC: ∀x,(zaq A2 L.length ak).ownBlock=some x→w5.heap.size+1≤x∧x<wr.heap.size:=fun x hx=>d5.out.1.lt x hx;have CP: ∀y,y<V.heap.size→(y≤w5.heap.size∨y=wr.heap.size)→some y≠(zaq A2 L.length ak).ownBlock:=fun y _ h he=>by
          have:=bC y he.symm
          omega
         have cW: ∀y o u,y<V.heap.size→(y≤w5.heap.size∨y=wr.heap.size)→V.cell? ⟨y,o,none⟩=some u→w'.cell? ⟨y,o,none⟩=some u:=fun y o u h1 h2 h3=>(zaJ (w:=V) (g'.block y h1 (CP y h1 h2))).trans h3;obtain⟨k1,k2,k3,k4,k5,k6⟩:=k9;have nu:w'.cell? ⟨w5.heap.size,2,none⟩=some (.slice A2 L.length ak)∧w'.cell? ⟨W0.heap.size,a,none⟩=some (.int .i64 (pav-1))∧w'.cell? ⟨W0.heap.size,c,none⟩=some (.int .i64 (pcv-1))∧w'.cell? ⟨wr.heap.size,0,none⟩=some (.int .i64 a)∧w'.cell? ⟨wr.heap.size,1,none⟩=some (.int .i64 l)∧w'.cell? ⟨wr.heap.size,2,none⟩=some (.int .i64 c):=
          ⟨cW _ _ _ tO tO k1,cW _ _ _ tO tO k2,cW _ _ _ tO tO k3,cW _ _ _ tO tO k4,cW _ _ _ tO tO k5,cW _ _ _ tO tO k6⟩
         refine hK.out _ _ nu (fun _=> ?_);clear hK;simp only[zao,zaa,zab,zac];(refine qV (n:=18) (i:=17) (v:= ?_) rfl tK rfl (by decide) tK tK tK tK (fun _ _ _ h=>h) (Or.inl ⟨by rfl,?_⟩) (by assumption) ?_;rotate_left;focus (intro ww hSw;(try dsimp only at hSw);go_simp;try with_reducible rfl);(try simp only[zao,zaa,zab,zac]))
         have qf:w'.frozen? ⟨w5.heap.size,2,none⟩=false:=((zaG (w:=V) (g'.block w5.heap.size tO (CP _ tO tO))).trans (bB.frozen (p:=⟨w5.heap.size,2,none⟩) iS)).trans (LXF.out 2);have qx:=nu.1;refine qEX (n:=18) tK rfl tK fun K' hK=> ?_;go_simp;refine hK.out _ _ ?_;clear hK;go_wp2;go_roundw
         case rel=>
          have GV:w5.grownBy V (some w5.heap.size):=GW.out.trans (qAV bB);have Rp:=g'.size;have G9:w5.grownBy w' (some w5.heap.size):=⟨g'.os.trans GV.os,g'.tape.trans GV.tape,g'.output.trans GV.output,tO,fun b hb ai=>(g'.block b tO (CP b tO tO)).trans (GV.block b hb ai)⟩;refine⟨j+1,A9,bh,tO,by go_num,by rw[F.out,zag];exact zas _ _ _ qx,?_,G9.trans (qBg _ _ _ _),?_,?_,fun j=> ?_,by simp;omega⟩
          ·rw[F.out];have:=O9.out.far (p:=⟨w5.heap.size,2,none⟩) (show w5.heap.size<w5.heap.size+1 by omega) (zaq A9 (L.length+1) bh)
           simpa[zag] using this
          ·rw[zai _ _ _ _ (by simp)];exact cW _ _ _ tO tO ((bB.cell (p:=⟨w5.heap.size,0,none⟩) iS).trans Ak.out)
          ·rw[zai _ _ _ _ (by simp)];exact cW _ _ _ tO tO ((bB.cell (p:=⟨w5.heap.size,1,none⟩) iS).trans AX.out)
          ·rw[zav];exact((zaG (w:=V) (g'.block w5.heap.size tO (CP _ tO tO))).trans (bB.frozen (p:=⟨w5.heap.size,j,none⟩) iS)).trans (LXF.out j)
         case measure=>simp[intOf];omega
        ·have F:=qA (AQ.out (by rw[RN.out,if_neg (fun h=>t2 tO)]));go_wp2;go_roundw
         case rel=>exact⟨j+1,A2,ak,tO,by go_num,by rw[F.out];exact(bA.cell (p:=⟨w5.heap.size,2,none⟩) eZ).trans gU.out,by rw[F.out];exact d5.out.below bA,fZ.out.trans (qAV bA),(bA.cell (p:=⟨w5.heap.size,0,none⟩) eZ).trans gO.out,(bA.cell (p:=⟨w5.heap.size,1,none⟩) eZ).trans dZ.out,fun j=>(bA.frozen (p:=⟨w5.heap.size,j,none⟩) eZ).trans (mH.out j),by simp;omega⟩
         case measure=>simp[intOf];omega
       ·have F:=qA (AQ.out (by rw[RN.out,if_neg (fun h=>t1 tO)]));go_wp2;go_roundw
        case rel=>exact⟨j+1,A2,ak,tO,by go_num,by rw[F.out];exact(bA.cell (p:=⟨w5.heap.size,2,none⟩) eZ).trans gU.out,by rw[F.out];exact d5.out.below bA,fZ.out.trans (qAV bA),(bA.cell (p:=⟨w5.heap.size,0,none⟩) eZ).trans gO.out,(bA.cell (p:=⟨w5.heap.size,1,none⟩) eZ).trans dZ.out,fun j=>(bA.frozen (p:=⟨w5.heap.size,j,none⟩) eZ).trans (mH.out j),by simp;omega⟩
        case measure=>simp[intOf];omega
      ·obtain rfl:j=es.length:=tO
       rw[zaA] at eP d5;have DK:=qA (qIu o Bz.out);have ri:(rnL es o).length≤120:=by
        have h2:=qHO es o;omega
       have D8:=mH.out 2;go_wp2_with fail;refine(qKs _ _ _ d5.out.arg DK.out tO).mono ?_
       rintro e' w9 ⟨r9,rfl,o9,b9⟩;have B9:=qA b9;have QY:=(b9.cell (p:=⟨w5.heap.size,0,none⟩) eZ).trans gO.out;have QM:=(b9.cell (p:=⟨w5.heap.size,1,none⟩) eZ).trans dZ.out;have Rw:=(b9.cell (p:=⟨w5.heap.size,2,none⟩) eZ).trans eP;have QX:=(b9.frozen (p:=⟨w5.heap.size,2,none⟩) eZ).trans D8;obtain⟨A9,bh,rfl,_⟩:=OwE.form o9;have O9:=qA o9;have CF:=(b9.cell (p:=⟨w.heap.size+1,0,none⟩) (by show w.heap.size+1<wr.heap.size;omega)).trans ((qAf (o:=0) fZ.out (show w.heap.size+1<w5.heap.size by omega) tO).trans ((ky.out.cell (p:=⟨w.heap.size+1,0,none⟩) eV).trans R0.out));have Dk:=(b9.cell (p:=⟨w.heap.size+1,1,none⟩) (by show w.heap.size+1<wr.heap.size;omega)).trans ((qAf (o:=1) fZ.out (show w.heap.size+1<w5.heap.size by omega) tO).trans ((ky.out.cell (p:=⟨w.heap.size+1,1,none⟩) eV).trans R1.out));have Ci:=(b9.cell (p:=⟨w.heap.size+1,2,none⟩) (by show w.heap.size+1<wr.heap.size;omega)).trans ((qAf (o:=2) fZ.out (show w.heap.size+1<w5.heap.size by omega) tO).trans ((ky.out.cell (p:=⟨w.heap.size+1,2,none⟩) eV).trans R2.out));have rrf: ∀j,w9.frozen? ⟨w.heap.size+1,j,none⟩=false:=fun j=>(b9.frozen (p:=⟨w.heap.size+1,j,none⟩) (by show w.heap.size+1<wr.heap.size;omega)).trans ((qFQ (o:=j) fZ.out (show w.heap.size+1<w5.heap.size by omega) tO).trans ((ky.out.frozen (p:=⟨w.heap.size+1,j,none⟩) eV).trans (RF.out j)));have eu:=rrf 0;have eE:=rrf 1;have eG:=rrf 2;have s9:=b9.size;clear rrf b9 o9;generalize hL:srt cmpE (rnL es o)=L at*;have io:=qA hL;clear hL;have nX: ¬w5.heap.size=w.heap.size+1:=tO;have nX': ¬w.heap.size+1=w5.heap.size:=tO;go_wp2;have KT:w.heap.size+1<w9.heap.size:=tO;have c0:((((w9.setCell ⟨w5.heap.size,2,none⟩ (.slice A9 L.length bh)).setCell ⟨w.heap.size+1,0,none⟩ (.int .i64 r)).setCell ⟨w.heap.size+1,1,none⟩ (.int .i64 o.length)).setCell ⟨w.heap.size+1,2,none⟩ (.slice A9 L.length bh)).cell? ⟨w.heap.size+1,0,none⟩=some (.int .i64 r):=by
        rw[zai _ _ _ _ (by simp),zai _ _ _ _ (by simp)];exact zas _ _ _ ((qAN _ _ _ _ _ _ tO).trans CF)
       have c1:((((w9.setCell ⟨w5.heap.size,2,none⟩ (.slice A9 L.length bh)).setCell ⟨w.heap.size+1,0,none⟩ (.int .i64 r)).setCell ⟨w.heap.size+1,1,none⟩ (.int .i64 o.length)).setCell ⟨w.heap.size+1,2,none⟩ (.slice A9 L.length bh)).cell? ⟨w.heap.size+1,1,none⟩=some (.int .i64 o.length):=by
        rw[zai _ _ _ _ (by simp)];exact zas _ _ _ ((zai _ _ _ _ (by simp)).trans ((qAN _ _ _ _ _ _ tO).trans Dk))
       have c2:((((w9.setCell ⟨w5.heap.size,2,none⟩ (.slice A9 L.length bh)).setCell ⟨w.heap.size+1,0,none⟩ (.int .i64 r)).setCell ⟨w.heap.size+1,1,none⟩ (.int .i64 o.length)).setCell ⟨w.heap.size+1,2,none⟩ (.slice A9 L.length bh)).cell? ⟨w.heap.size+1,2,none⟩=some (.slice A9 L.length bh):=
        zas _ _ _ ((zai _ _ _ _ (by simp)).trans ((zai _ _ _ _ (by simp)).trans ((qAN _ _ _ _ _ _ tO).trans Ci)))
       have Ha:=qA (nY.out.trans (B9.out.mono (show w.heap.size≤wr.heap.size by omega)));have bw:Below w.heap.size w ((((w9.setCell ⟨w5.heap.size,2,none⟩ (.slice A9 L.length bh)).setCell ⟨w.heap.size+1,0,none⟩ (.int .i64 r)).setCell ⟨w.heap.size+1,1,none⟩ (.int .i64 o.length)).setCell ⟨w.heap.size+1,2,none⟩ (.slice A9 L.length bh)):=(by repeat(first | exact .refl _ _ | (refine BxS ?_ _) | (refine qD ?_ _) | (refine zay ?_) | (refine BxA ?_ _) | (refine BxT ?_ (Hid.out Ha))));have ow:OwE ((((w9.setCell ⟨w5.heap.size,2,none⟩ (.slice A9 L.length bh)).setCell ⟨w.heap.size+1,0,none⟩ (.int .i64 r)).setCell ⟨w.heap.size+1,1,none⟩ (.int .i64 o.length)).setCell ⟨w.heap.size+1,2,none⟩ (.slice A9 L.length bh)) wr.heap.size (.slice A9 L.length bh) L:=
        (((O9.out.far (p:=⟨w5.heap.size,2,none⟩) (by show w5.heap.size<_;omega) _).far (p:=⟨w.heap.size+1,0,none⟩) (by show w.heap.size+1<_;omega) _).far (p:=⟨w.heap.size+1,1,none⟩) (by show w.heap.size+1<_;omega) _).far (p:=⟨w.heap.size+1,2,none⟩) (by show w.heap.size+1<_;omega) _
       generalize (((w9.setCell ⟨w5.heap.size,2,none⟩ (.slice A9 L.length bh)).setCell ⟨w.heap.size+1,0,none⟩ (.int .i64 r)).setCell ⟨w.heap.size+1,1,none⟩ (.int .i64 o.length)).setCell ⟨w.heap.size+1,2,none⟩ (.slice A9 L.length bh)=wf at*;refine bodyPost_ret (v:= .agg #[.int .i64 r, .int .i64 o.length, .slice A9 L.length bh]) (by simp[results,Tryz.results160,go_sem,c0,c1,c2]) rfl ⟨_,rfl,⟨.slice A9 L.length bh,?_,?_,?_,?_⟩,bw⟩
       ·rfl
       ·show I64 r
        unfold I64;omega
       ·show I64 (o.length:Int)
        unfold I64;omega
       ·show OwE wf w.heap.size (.slice A9 L.length bh) (srt cmpE (rnL es o))
        rw[io.out];exact ow.mono tO
theorem qJf (v vo:Value) (g:GrD) (o:List Int) (w:World) (h:ArgG w v g) (ho:RdI w vo o) (hg:grB g=true) (af:qAB g.2.1 o):
  Calls Tryz.prog 160 #[v,vo] w fun e w'=> ∃r,e= .returned r∧OwG w' w.heap.size r (rnG g o)∧Below w.heap.size w w':=qIg v vo g o w h ho hg af.toN
def qJJ (bs:List Bool):List Value:=bs.map Value.bool
def OwB (w:World) (base:Nat) (v:Value) (bs:List Bool):Prop:=w.ownsRow base 4 1 v bs.length (qJJ bs)
section
variable {w w':World} {base n g cap:Nat} {v:Value} {bs:List Bool}
theorem OwB.len (h:OwB w base (.slice (some ⟨g,0,none⟩) n cap) bs):n=bs.length:=by
 rcases h.2 with ⟨hv,_⟩ | ⟨g',cap',cur,hv,_⟩
 ·cases hv
 ·injection hv
theorem OwB.set (h:OwB w base (.slice (some ⟨g,0,none⟩) n cap) bs) (j:Nat) (z:Bool):
  OwB (w.setCell ⟨g,j,none⟩ (.bool z)) base (.slice (some ⟨g,0,none⟩) n cap) (bs.set j z)∧w.grownBy (w.setCell ⟨g,j,none⟩ (.bool z)) (some g):=by
 have hn:=h.len;subst hn;obtain⟨h1,h2⟩:=zaX.stored h j (.bool z);refine⟨?_,h2⟩;unfold OwB;rw[zaC];simpa[qJJ,List.map_set] using h1
theorem OwB.cellAt (h:OwB w base (.slice (some ⟨g,0,none⟩) n cap) bs) (j:Nat) (hj:j<bs.length):w.cell? ⟨g,j,none⟩=some (.bool bs[j]):=by
 have hn:=h.len;subst hn;rw[zaX.cellAt h j tO];simp[qJJ,hj]
theorem OwB.free (h:OwB w base (.slice (some ⟨g,0,none⟩) n cap) bs) (j:Nat):w.frozen? ⟨g,j,none⟩=false:=by
 have hn:=h.len;subst hn;exact zaX.frozenAt h j
end
theorem OwB.below {w w':World} {base:Nat} {v:Value} {bs:List Bool} (h:OwB w base v bs) (hb:Below w.heap.size w w'):OwB w' base v bs:=qu h hb
theorem OwB.mono {w:World} {base base':Nat} {v:Value} {bs:List Bool} (h:OwB w base v bs) (hb:base'≤base):OwB w base' v bs:=by
 refine⟨h.1,?_⟩;rcases h.2 with h0 | ⟨g,cap,cur,hv,hg,r⟩
 ·exact .inl h0
 ·exact .inr ⟨g,cap,cur,hv,tO,r⟩
def qPO (w:World) (b v:Nat):Nat:=match w.cell? ⟨b,v,none⟩ with
 | some (.bool false)=>1
 | _=>0
def mB (w:World) (b n:Nat):Nat:=((zaE n).map (qPO w b)).sum
theorem qLq (bs:List Bool):(bs.map fun b=>if b=false then 1 else 0).sum=bs.count false:=by
 induction bs with
 | nil=>rfl
 | cons b bs ih=>cases b<;>simp[ih];omega
theorem qPL {w:World} {base g n cap:Nat} {bs:List Bool} (h:OwB w base (.slice (some ⟨g,0,none⟩) n cap) bs):mB w g bs.length=bs.count false:=by
 rw[←qLq];unfold mB;congr 1
 refine za6 (by simp) fun i h1 h2=> ?_;have hi:i<bs.length:=by simpa using h2
 simp only[List.getElem_map,List.getElem_range];unfold qPO;rw[h.cellAt i hi];cases bs[i]<;>rfl
def JI (es:List EdD) (n:Nat) (bs:List Bool):Prop:=bs.length=n∧bs[0]? =some true∧ ∀v:Nat,bs[v]? =some true→Conn es 0 v
theorem qBH {bs:List Bool} {a v:Nat}:(bs.set a true)[v]? =some true↔(v=a∧a<bs.length)∨bs[v]? =some true:=by
 rw[List.getElem?_set];by_cases e:a=v
 ·subst e;by_cases hl:a<bs.length
  ·simp[hl]
  ·simp[hl]
 ·rw[if_neg e];constructor
  ·exact .inr
  ·rintro(⟨h,_⟩ | h)
   ·exact absurd h.symm e
   ·exact h
theorem qEE {bs:List Bool} {a:Nat} (ha:a<bs.length):(bs.set a true).count false+(if bs[a]=false then 1 else 0)=bs.count false:=by
 induction bs generalizing a with
 | nil=>simp at ha
 | cons b bs ih=>
   cases a with
   | zero=>cases b<;>simp
   | succ a=>
     have:=ih (a:=a) (by simpa using ha)
     cases b<;>simp[List.count_cons]<;>omega
theorem JI.step {es:List EdD} {n a c:Nat} {bs:List Bool} {l:Int} (h:JI es n bs) (he:((a:Int),l,(c:Int))∈es) (ha:a<n) (hc:c<n) (ai:bs[a]? ≠bs[c]?):
  JI es n ((bs.set a true).set c true)∧((bs.set a true).set c true).count false<bs.count false:=by
 obtain⟨h1,h2,h3⟩:=h;have pO:a<bs.length:=tO;have lR:c<bs.length:=tO;have e1:bs[a]? =some bs[a]:=by simp[pO]
 have e2:bs[c]? =some bs[c]:=by simp[lR]
 have pt:bs[a]? =some true∨bs[c]? =some true:=by
  rw[e1,e2] at ai⊢;cases h:bs[a]<;>cases h':bs[c]<;>simp[h,h'] at ai⊢
 refine⟨⟨by simp[h1],?_,fun v hv=> ?_⟩,?_⟩
 ·rw[qBH,qBH];exact .inr (.inr h2)
 ·rw[qBH,qBH] at hv;rcases hv with ⟨rfl,_⟩ | ⟨rfl,_⟩ | hv
  ·rcases pt with h | h
   ·exact Conn.fwd _ he (h3 _ h)
   ·exact h3 _ h
  ·rcases pt with h | h
   ·exact h3 _ h
   ·exact Conn.back _ he (h3 _ h)
  ·exact h3 _ hv
 ·have k1:=qEE pO;have k2:=qEE (bs:=bs.set a true) (a:=c) (by simpa using lR);rw[e1,e2] at ai;have L5:a≠c:=fun e=>by subst e;exact ai rfl
  have k3:(bs.set a true)[c]'(by simpa using lR)=bs[c]:=by rw[List.getElem_set_ne L5]
  rw[k3] at k2;cases h:bs[a]<;>cases h':bs[c]<;>simp[h,h'] at ai k1 k2<;>omega
theorem JI.done {es:List EdD} {n:Nat} {bs:List Bool} (h:JI es n bs) (hr: ∀e∈es,0≤e.1∧0≤e.2.2) (cU: ∀e∈es,bs[e.1.toNat]? =bs[e.2.2.toNat]?):
  ∀v (hv:v<bs.length),bs[v]=hasB (qBi es 0) v:=by
 intro v hv;have key:bs[v]? =some true↔Conn es 0 v:=by
  refine⟨h.2.2 v,fun hc=> ?_⟩;have:=qAL (S:=fun x=>0≤x→bs[x.toNat]? =some true) (v:=0) (fun _=>h.2.1) ?_ hc tO
  ·simpa using this
  ·intro e he;obtain⟨a,b⟩:=hr e he;have:=cU e he
   exact⟨fun hx _=>by rw[←this];exact hx a,fun hx _=>by rw[this];exact hx b⟩
 rw[zbb,qAS,qBp,←key];simp[hv]
theorem qCk (w:World) (a:Addr) (u:Value):(w.setCell a u).heap.size=w.heap.size:=by simp
theorem qIG:(Tryz.prog.info? 4).map (fun i=>(i.zero,i.size,i.bytes))=some (some (.bool false),1,1):=by kernel_rfl
def qGU (g:GrD):List Bool:=(zaE g.2.1.toNat).map fun v=>hasB (qBi g.2.2 0) (v:Nat)
theorem qNf {g:GrD} {bs:List Bool} (hl:bs.length=g.2.1.toNat) (h: ∀v (hv:v<bs.length),bs[v]=hasB (qBi g.2.2 0) v):bs=qGU g:=by
 refine za6 (by simp[qGU,hl]) fun i h1 h2=> ?_;rw[h i h1];simp[qGU]
theorem qKz (v:Value) (g:GrD) (w:World) (h:ArgG w v g) (hg:grB g=true):
  Calls Tryz.prog 215 #[v, .int .i64 0] w fun e w'=> ∃r,e= .returned r∧OwB w' w.heap.size r (qGU g)∧Below w.heap.size w w':=by
 have HG:=qA h;obtain⟨bn,aE,aK,_⟩:=qB hg;have jC:=qA (fun e he=>qI hg (e:=e) he);have HJ:Hid (∀bs:List Bool,bs.length=g.2.1.toNat→(∀v (hv:v<bs.length),bs[v]=hasB (qBi g.2.2 0) v)→bs=qGU g):=qA fun bs=>qNf;generalize qGU g=JL at*;clear hg h;obtain⟨r,n,es⟩:=g;simp only at bn aE aK HG jC HJ
 obtain⟨N,rfl⟩: ∃N:Nat,n=(N:Int):=⟨n.toNat,tO⟩;have l5:1≤N:=tO;have uK:N≤40:=tO;clear aE bn;obtain⟨A,cap,rfl,HE⟩: ∃A cap,v= .agg #[.int .i64 r, .int .i64 N, .slice A es.length cap]∧Hid (ArgE w (.slice A es.length cap) es):=by
  obtain⟨s,hv,_,_,ha⟩:=HG.out;obtain⟨A,cap,rfl⟩:=ha.form;exact⟨A,cap,hv,qA ha⟩
 have jy:es.length≤cap∧cap≤maxLen:=by
  obtain⟨_,_,hv,h1,h2,_⟩:=HE.out;injection hv with _ _ e3
  subst e3;exact⟨h1,h2⟩
 obtain⟨a6,hm⟩:=jy;unfold maxLen at hm;have bx:Below w.heap.size w (w.alloc (.cells #[.int .i64 r,.int .i64 N, .slice A es.length cap] 26)):=(by repeat(first | exact .refl _ _ | (refine BxS ?_ _) | (refine qD ?_ _) | (refine zay ?_) | (refine BxA ?_ _)));go_enter Tryz.func215,Tryz.ntmps215
 obtain⟨i0,cE,cD,bI,cj⟩:=info_parts qIG;go_wp2_with (at_make;refine wpList_make_full _ rfl _ _ 64 rfl (w.heap.size+1) 4 i0 (.bool false) 1 Tryz.underlying64 cE cD bI _ _ _ _ N rfl rfl rfl rfl (by rw[cj];omega) (by unfold maxLen;omega) (by simp) ?_)
 have b1:(w.alloc (.cells #[.int .i64 r,.int .i64 N, .slice A es.length cap] 26)).cell? ⟨w.heap.size,1,none⟩=some (.int .i64 N):=by simp[go_sem]
 have b2:(w.alloc (.cells #[.int .i64 r,.int .i64 N, .slice A es.length cap] 26)).cell? ⟨w.heap.size,2,none⟩=some (.slice A es.length cap):=by simp[go_sem]
 have aW:(w.alloc (.cells #[.int .i64 r,.int .i64 N, .slice A es.length cap] 26)).heap.size=w.heap.size+1:=by simp
 generalize w.alloc (.cells #[.int .i64 r,.int .i64 N, .slice A es.length cap] 26)=w1 at bx b1 b2 aW⊢;rw[←aW];have rP:w.heap.size<w1.heap.size:=tO;have C5:=qA aW;clear aW;have B2:=qA b2;have BX:=qA bx;clear b2 bx;intro w2 hown0 hgrow0;have dB:OwB w2 w1.heap.size (.slice (some ⟨w1.heap.size,0,none⟩) N N) (zah N false):=by
  unfold OwB;rw[zaI];have:qJJ (zah N false)=zah N (Value.bool false):=by simp[qJJ]
  rw[this];simpa[toList_madeCells_one] using hown0
 have mh:=dB.cellAt 0 (by simp;omega);have xi:=dB.free 0;have O1:=qA (dB.set 0 true);have G0:=qA hgrow0;have AA:w1.heap.size<w2.heap.size:=(dB.lt w1.heap.size rfl).2;have j1:(0:Int)<(N:Int):=tO;clear hown0 dB hgrow0;simp only[List.getElem_replicate] at mh;have MF:Hid (JI es N ((zah N false).set 0 true)):=qA (by
  refine⟨by simp,?_,fun v hv=> ?_⟩
  ·rw[qBH];left;exact⟨rfl,by simp;omega⟩
  ·rw[qBH] at hv;rcases hv with ⟨rfl,_⟩ | hv
   ·exact Conn.base
   ·rw[List.getElem?_replicate] at hv;split at hv
    ·injection hv with hv;cases hv
    ·cases hv)
 have uy:Hid (∀e∈es,0≤e.1∧0≤e.2.2):=qA fun e he=>by have:=jC.out e he;omega
 go_wp2;go_loopw [6] (fun a wr=> ∃(ag:Bool) (bs:List Bool),a= .bool ag∧JI es N bs∧OwB wr w1.heap.size (.slice (some ⟨w1.heap.size,0,none⟩) N N) bs∧Below w1.heap.size w1 wr∧(ag=false→ ∀e∈es,bs[e.1.toNat]? =bs[e.2.2.toNat]?)) (fun a wr=>2*mB wr w1.heap.size N+(match a with | .bool true=>1 | _=>0))
 case atStart=>exact⟨true,_,rfl,MF.out,O1.out.1,((zaz _ _).grown G0.out (zad _) (fun k h=>by cases h)).grown O1.out.2 tO (fun k h=>by cases h;omega),fun h=>by cases h⟩
 case round=>
  obtain⟨ag,bs,rfl,xa,aa,ab,cU⟩:=hrel;have IB:=qA xa;have HO:=qA aa;have HB:=qA ab;have bH:=qA cU;have dv:=xa.1;have ng:=qPL aa;rw[dv] at ng;have HM:=qA ng;clear ng;clear xa aa cU;cases ag with
  | false=>
    have HF:Hid (bs=JL):=qA (HJ.out bs (by simpa using dv) (IB.out.done uy.out (bH.out rfl)));have BB:Hid (Below w.heap.size w wr):=qA (BX.out.trans (ab.mono tO));have ao:w.heap.size≤w1.heap.size:=tO;clear ab;have LI:Hid (OwB wr w.heap.size (.slice (some ⟨w1.heap.size,0,none⟩) N N) JL):=qA (by rw[←HF.out];exact HO.out.mono ao);go_wp2;exact bodyPost_ret (v:= .slice (some ⟨w1.heap.size,0,none⟩) N N) (by simp[results,Tryz.results215]) rfl ⟨_,rfl,LI.out,BB.out⟩
  | true=>
    have q2:=(ab.cell (p:=⟨w.heap.size,2,none⟩) (show w.heap.size<w1.heap.size from rP)).trans B2.out;clear ab dv;obtain⟨wo,H3⟩: ∃wo:World,wo=wr:=⟨_,rfl⟩;have RB:=qA H3;clear H3;go_wp2;go_loopw [6,19] (fun a i wr=> ∃(k:Nat) (ag:Bool) (b2:List Bool),k≤es.length∧i= .int .i64 k∧a= .bool ag∧JI es N b2∧OwB wr w1.heap.size (.slice (some ⟨w1.heap.size,0,none⟩) N N) b2∧Below w1.heap.size w1 wr∧b2.count false≤bs.count false∧(ag=true→b2.count false<bs.count false)∧(ag=false→ ∀j (hj:j<es.length),j<k→b2[es[j].1.toNat]? =b2[es[j].2.2.toNat]?)) (fun _ i _=>es.length-(intOf i).toNat)
    case atStart=>exact⟨0,false,bs,zaF _,rfl,rfl,IB.out,HO.out,HB.out,zad _,(fun h=>by cases h),fun _ j hj h=>absurd h tO⟩
    case round=>
     obtain⟨k,ag,b2,hk,rfl,rfl,vi,aX,jD,q7,al,jB⟩:=hrel;have sJ:=qA vi;have aM:=qA aX;have ay:=qA jD;have cR:=qA q7;have rY:=qA al;have cG:=qA jB;have dw:=vi.1;have hP:=(aX.lt w1.heap.size rfl).2;have Rb:=jD.size;clear vi q7 al jB;by_cases ac:k<es.length
     ·obtain⟨be,offe,rfl,ku,c0,c1,c2,dz⟩:=(HE.out.below (BX.out.trans (jD.mono tO))).at ac;obtain⟨e1,e2,e3⟩:=jC.out es[k] (by simp);have bQ:es[k]∈es:=by simp
      have HX:Hid (∃x,es[k]=x):=qA ⟨_,rfl⟩;generalize hx:es[k]=e at c0 c1 c2 dz e1 e2 e3 bQ;have HX:=qA hx;clear hx;obtain⟨f,l,t⟩:=e;simp only at e1 e2 e3 c0 c1 c2
      obtain⟨a,rfl⟩: ∃a:Nat,f=(a:Int):=⟨f.toNat,tO⟩;obtain⟨c,rfl⟩: ∃c:Nat,t=(c:Int):=⟨t.toNat,tO⟩;have ha:a<b2.length:=tO;have hc:c<b2.length:=tO;have ca:=aX.cellAt a ha;have cc:=aX.cellAt c hc;have ga:b2[a]? =some b2[a]:=by simp[ha]
      have gc:b2[c]? =some b2[c]:=by simp[hc]
      have GA:=qA ga;have GC:=qA gc;have ja:(a:Int)<(N:Int):=tO;have jc:(c:Int)<(N:Int):=tO;have Kf:(0:Int)≤(a:Int):=tO;have Ii:(0:Int)≤(c:Int):=tO;have cY:=aX.free a;have xc:=aX.free c;have sY:Hid (b2[a]? ≠b2[c]? →JI es N ((b2.set a true).set c true)∧((b2.set a true).set c true).count false<b2.count false):=qA fun h=>sJ.out.step bQ tO tO h;have Pm:=qA bQ;have bA:Below wr.heap.size wr (wr.alloc (.cells #[.int .i64 a,.int .i64 l,.int .i64 c] 97)):=(zaz _ _).alloc (zad _) _;have BA:=qA bA;generalize b2[a]=ba at*;generalize b2[c]=bc at*;clear ga gc dz aX jD bQ bA ha hc dw;go_wp2_with fail;have l0:(wr.alloc (.cells #[.int .i64 a,.int .i64 l,.int .i64 c] 97)).cell? ⟨wr.heap.size,0,none⟩=some (.int .i64 a):=by simp[go_sem]
      have l2:(wr.alloc (.cells #[.int .i64 a,.int .i64 l,.int .i64 c] 97)).cell? ⟨wr.heap.size,2,none⟩=some (.int .i64 c):=by simp[go_sem]
      have la:=(BA.out.cell (p:=⟨w1.heap.size,a,none⟩) hP).trans ca;have lc:=(BA.out.cell (p:=⟨w1.heap.size,c,none⟩) hP).trans cc;have lfa:=(BA.out.frozen (p:=⟨w1.heap.size,a,none⟩) hP).trans cY;have lfc:=(BA.out.frozen (p:=⟨w1.heap.size,c,none⟩) hP).trans xc;have tf:wr.heap.size<(wr.alloc (.cells #[.int .i64 a,.int .i64 l,.int .i64 c] 97)).heap.size:=by simp
      clear ca cc cY xc c0 c1 c2;generalize wr.alloc (.cells #[.int .i64 a,.int .i64 l,.int .i64 c] 97)=W at BA l0 l2 la lc lfa lfc tf⊢;have sU:w1.heap.size<W.heap.size:=tO;have bU:wr.heap.size≠w1.heap.size:=tO;cases ba<;>cases bc
      ·have CLX:Hid (b2[a]? =b2[c]?):=qA (by rw[GA.out,GC.out]);go_quiet (fail)
       go_wp2;go_roundw
       case rel=>
        refine⟨k+1,ag,b2,tO,by go_num,rfl,sJ.out,aM.out.below (qD BA.out _),ay.out.trans ((qD BA.out _).mono tO),cR.out,rY.out,fun h j hj ge=> ?_⟩;rcases zaZ (za1 ge) with h2 | rfl
        ·exact cG.out h j hj h2
        ·rw[HX.out];simpa using CLX.out
       case measure=>simp[intOf];omega
      ·have STP:=qA (sY.out (by rw[GA.out,GC.out];simp));go_quiet (fail)
       have O3:=qA ((aM.out.below (qD BA.out nq)).set a true);have O4:=qA (O3.out.1.set c true);have l9:=O3.out.1.cellAt c (by rw[zaC];have:=sJ.out.1;omega);have f9:=O3.out.1.free c;generalize (b2.set a true)[c]'(by rw[zaC];have:=sJ.out.1;omega)=z9 at l9;go_wp2;go_roundw
       case rel=>
        refine⟨k+1,true,_,tO,by go_num,rfl,STP.out.1,O4.out.1,?_,?_,fun _=> ?_,fun h=>by cases h⟩
        ·have b5:=ay.out.trans ((qD BA.out nq).mono tO);exact(b5.grown O3.out.2 (show w1.heap.size≤W.heap.size by omega) (fun j hj=>by cases hj;exact zad _)).grown O4.out.2 (by rw[qCk];exact Nat.le_of_lt sU) (fun j hj=>by cases hj;exact zad _)
        ·have:=STP.out.2;have:=cR.out;omega
        ·have:=STP.out.2;have:=cR.out;omega
       case measure=>simp[intOf];omega
      ·have STP:=qA (sY.out (by rw[GA.out,GC.out];simp));go_quiet (fail)
       have O3:=qA ((aM.out.below (qD BA.out nq)).set a true);have O4:=qA (O3.out.1.set c true);have l9:=O3.out.1.cellAt c (by rw[zaC];have:=sJ.out.1;omega);have f9:=O3.out.1.free c;generalize (b2.set a true)[c]'(by rw[zaC];have:=sJ.out.1;omega)=z9 at l9;go_wp2;go_roundw
       case rel=>
        refine⟨k+1,true,_,tO,by go_num,rfl,STP.out.1,O4.out.1,?_,?_,fun _=> ?_,fun h=>by cases h⟩
        ·have b5:=ay.out.trans ((qD BA.out nq).mono tO);exact(b5.grown O3.out.2 (show w1.heap.size≤W.heap.size by omega) (fun j hj=>by cases hj;exact zad _)).grown O4.out.2 (by rw[qCk];exact Nat.le_of_lt sU) (fun j hj=>by cases hj;exact zad _)
        ·have:=STP.out.2;have:=cR.out;omega
        ·have:=STP.out.2;have:=cR.out;omega
       case measure=>simp[intOf];omega
      ·have CLX:Hid (b2[a]? =b2[c]?):=qA (by rw[GA.out,GC.out]);go_quiet (fail)
       go_wp2;go_roundw
       case rel=>
        refine⟨k+1,ag,b2,tO,by go_num,rfl,sJ.out,aM.out.below (qD BA.out _),ay.out.trans ((qD BA.out _).mono tO),cR.out,rY.out,fun h j hj ge=> ?_⟩;rcases zaZ (za1 ge) with h2 | rfl
        ·exact cG.out h j hj h2
        ·rw[HX.out];simpa using CLX.out
       case measure=>simp[intOf];omega
     ·obtain rfl:k=es.length:=tO
      have fF:=qPL aX;rw[dw] at fF;have mX:=qA fF;clear fF aX jD;go_wp2;go_roundw
      case rel=>exact⟨ag,b2,rfl,sJ.out,aM.out,ay.out,fun h e he=>by obtain⟨j,hj,rfl⟩:=zaL he;exact cG.out h j hj hj⟩
      case measure=>
       rw[HM.out,mX.out];cases ag with
       | false=>
         have:=cR.out
         show 2*_+0<2*_+1
         omega
       | true=>
         have:=rY.out rfl
         show 2*_+1<2*_+1
         omega
theorem qBK (x:Int): ∀n:Nat,(delO n x).length=if 0≤x∧x<n then n-1 else n
 | 0=>by
   rw[if_neg tO];rfl
 | n+1=>by
   rw[qBf];have ih:=qBK x n;by_cases h:(n:Int)≠x
   ·rw[if_pos h,zag,ih];by_cases h2:0≤x∧x<n
    ·rw[if_pos h2,if_pos tO];simp
     omega
    ·rw[if_neg h2,if_neg tO];rfl
   ·rw[if_neg h,ih,if_neg tO,if_pos tO];omega
def trimF:Nat→GrD→List Int→GrD×List Int
 | 0,g,l=>(g,l)
 | f+1,g,l=>if qk g.2.2 g.2.1.toNat<0 then(g,l) else trimF f (rnG g (delO g.2.1.toNat (qk g.2.2 g.2.1.toNat))) (l.take (qk g.2.2 g.2.1.toNat).toNat++l.drop ((qk g.2.2 g.2.1.toNat).toNat+1))
theorem qDs {g:GrD} (l:List Int) (h:qk g.2.2 g.2.1.toNat<0): ∀f,trimF f g l=(g,l)
 | 0=>rfl
 | f+1=>by unfold trimF;rw[if_pos h]
theorem qEY (g:GrD) (o:List Int):(rnG g o).2.1=(o.length:Int):=rfl
theorem qHA {g:GrD} (l:List Int) {u:Nat} (hu:qk g.2.2 g.2.1.toNat=(u:Int)) (hn:u<g.2.1.toNat):
  trimF g.2.1.toNat g l=trimF (rnG g (delO g.2.1.toNat u)).2.1.toNat (rnG g (delO g.2.1.toNat u)) (l.take u++l.drop (u+1)):=by
 rw[qEY,qBK,if_pos tO];obtain⟨f,hf⟩: ∃f,g.2.1.toNat=f+1:=⟨g.2.1.toNat-1,tO⟩;have e:((g.2.1.toNat-1:Nat):Int).toNat=f:=tO;rw[e];have e2:trimF (f+1) g l=if qk g.2.2 g.2.1.toNat<0 then(g,l) else trimF f (rnG g (delO g.2.1.toNat (qk g.2.2 g.2.1.toNat))) (l.take (qk g.2.2 g.2.1.toNat).toNat++l.drop ((qk g.2.2 g.2.1.toNat).toNat+1)):=rfl
 rw[show trimF g.2.1.toNat g l=trimF (f+1) g l by rw[hf],e2,hu,if_neg tO];simp
theorem qKJ: ∀(f:Nat) (g:GrD) (l:List Int),grB g=true→(trimF f g l).1.2.1≤g.2.1:=by
 intro f;induction f with
 | zero=>intro g l _;exact zak _
 | succ f ih=>
   intro g l hg;unfold trimF;obtain⟨_,aq,_,_⟩:=qB hg;rcases qAQ g.2.2 g.2.1.toNat with h | ⟨h1,h2⟩
   ·rw[if_pos tO];exact zak _
   ·rw[if_neg tO];have hd:=qBK (qk g.2.2 g.2.1.toNat) g.2.1.toNat;rw[if_pos tO] at hd;have af:=qCS (n:=g.2.1.toNat) tO h1;rw[show((g.2.1.toNat:Nat):Int)=g.2.1 by omega] at af;have:=ih (rnG g (delO g.2.1.toNat (qk g.2.2 g.2.1.toNat))) (l.take (qk g.2.2 g.2.1.toNat).toNat++l.drop ((qk g.2.2 g.2.1.toNat).toNat+1)) (qHX hg af)
    rw[qEY,hd] at this;omega
def qBT (g:GrD):GrD×List Int:=trimF g.2.1.toNat g ((zaE g.2.1.toNat).map fun v=>((v:Nat):Int))
theorem qHD {g:GrD} (hg:grB g=true):decide ((qBT g).1.2.1=g.2.1)=decide (qk g.2.2 g.2.1.toNat<0):=by
 obtain⟨_,aq,_,_⟩:=qB hg;unfold qBT;rcases qAQ g.2.2 g.2.1.toNat with h | ⟨h1,h2⟩
 ·rw[qDs _ tO];simp[h]
 ·obtain⟨u,hu⟩: ∃u:Nat,qk g.2.2 g.2.1.toNat=(u:Int):=⟨(qk g.2.2 g.2.1.toNat).toNat,tO⟩;rw[qHA _ hu tO];have af:=qCS (n:=g.2.1.toNat) (x:=(u:Int)) tO tO;rw[show((g.2.1.toNat:Nat):Int)=g.2.1 by omega] at af;have hd:=qBK (u:Int) g.2.1.toNat;rw[if_pos tO] at hd;have:=qKJ (rnG g (delO g.2.1.toNat u)).2.1.toNat (rnG g (delO g.2.1.toNat u)) (((zaE g.2.1.toNat).map fun v=>((v:Nat):Int)).take u++((zaE g.2.1.toNat).map fun v=>((v:Nat):Int)).drop (u+1)) (qHX hg af)
  rw[qEY g,hd] at this;have e1:decide (qk g.2.2 g.2.1.toNat<0)=false:=by rw[hu];simp
  rw[e1];rw[decide_eq_false_iff_not];rw[qEY,hd];omega
def slN:Value→Nat
 | .slice _ n _=>n
 | _=>0
def rng (n:Nat):List Int:=(zaE n).map fun v=>((v:Nat):Int)
theorem qMw (n:Nat):rng (n+1)=rng n++ [(n:Int)]:=by simp[rng,List.range_succ]
theorem qGM (n:Nat):(rng n).length=n:=by simp[rng]
theorem qMM {g:GrD} (k:Nat) (h:k<g.2.1.toNat):(qGU g)[k]'(by simpa[qGU] using h)=hasB (qBi g.2.2 0) k:=by simp[qGU]
theorem qIo (g:GrD):(qGU g).length=g.2.1.toNat:=by simp[qGU]
theorem qEt (v:Value) (g:GrD) (w:World) (h:ArgG w v g) (hg:grB g=true):
  Calls Tryz.prog 170 #[v] w fun e w'=> ∃r l,e= .returned (.tuple #[r,l])∧OwG w' w.heap.size r (qBT g).1∧OwI w' w.heap.size l (qBT g).2∧Below w.heap.size w w':=by
 have HG:=qA h;have aH:=qA hg;obtain⟨bn,aE,aK,_⟩:=qB hg;have HT:Hid (qBT g=trimF g.2.1.toNat g (rng g.2.1.toNat)):=qA rfl;generalize qBT g=R at*;clear hg h;obtain⟨r,n,es⟩:=g;simp only at bn aE aK HG HT
 obtain⟨N,rfl⟩: ∃N:Nat,n=(N:Int):=⟨n.toNat,tO⟩;simp only[zar] at HT;have l5:1≤N:=tO;have uK:N≤40:=tO;clear aE;obtain⟨A,cap,rfl⟩: ∃A cap,v= .agg #[.int .i64 r, .int .i64 N, .slice A es.length cap]:=by
  obtain⟨s,hv,_,_,ha⟩:=HG.out;obtain⟨A,cap,rfl⟩:=ha.form;exact⟨A,cap,hv⟩
 have bx:Below w.heap.size w ((w.alloc (.cells #[.int .i64 r,.int .i64 N, .slice A es.length cap] 26)).alloc (.cells #[.int .i64 0,.int .i64 0, .slice none 0 0] 26)):=(by repeat(first | exact .refl _ _ | (refine BxS ?_ _) | (refine qD ?_ _) | (refine zay ?_) | (refine BxA ?_ _)));go_enter Tryz.func170,Tryz.ntmps170
 go_wp2_with fail;obtain⟨W0,am⟩: ∃W,W=(w.alloc (.cells #[.int .i64 r,.int .i64 N, .slice A es.length cap] 26)).alloc (.cells #[.int .i64 0,.int .i64 0, .slice none 0 0] 26):=⟨_,rfl⟩;rw[←am] at bx⊢;have aW:W0.heap.size=w.heap.size+1+1:=by rw[am];simp
 have B0:Hid (W0.cell? ⟨w.heap.size,0,none⟩=some (.int .i64 r)):=qA (by rw[am];simp[go_sem]);have B1:Hid (W0.cell? ⟨w.heap.size,1,none⟩=some (.int .i64 N)):=qA (by rw[am];simp[go_sem]);have B2:Hid (W0.cell? ⟨w.heap.size,2,none⟩=some (.slice A es.length cap)):=qA (by rw[am];simp[go_sem]);have R0:Hid (W0.cell? ⟨w.heap.size+1,0,none⟩=some (.int .i64 0)):=qA (by rw[am];simp[go_sem]);have R1:Hid (W0.cell? ⟨w.heap.size+1,1,none⟩=some (.int .i64 0)):=qA (by rw[am];simp[go_sem]);have R2:Hid (W0.cell? ⟨w.heap.size+1,2,none⟩=some (.slice none 0 0)):=qA (by rw[am];simp[go_sem]);have RF:Hid (∀j,W0.frozen? ⟨w.heap.size+1,j,none⟩=false):=qA fun j=>by rw[am];simp[go_sem]
 clear am;have BX:=qA bx;have C5:=qA aW;have mg:w.heap.size<W0.heap.size:=tO;have eV:w.heap.size+1<W0.heap.size:=tO;refine(qBL _ (r,(N:Int),es) W0 (HG.out.below bx) (by simp only;omega)).mono ?_
 clear bx aW;rintro e w1 ⟨r1,rfl,o1,b1⟩;obtain⟨s1,rfl,aT,aS,oe⟩:=o1;simp only at aT aS oe⊢
 obtain⟨A1,ah,rfl,dl,dj,_⟩:=OwE.form oe;have OE:=qA oe;have rP: ∀b,(zaq A1 es.length ah).ownBlock=some b→b<w1.heap.size:=fun b hb=>(oe.1.lt b hb).2;have q0:=(b1.cell (p:=⟨w.heap.size,0,none⟩) mg).trans B0.out;have q1:=(b1.cell (p:=⟨w.heap.size,1,none⟩) mg).trans B1.out;have q2:=(b1.cell (p:=⟨w.heap.size,2,none⟩) mg).trans B2.out;have PA:=qA ((b1.cell (p:=⟨w.heap.size+1,0,none⟩) eV).trans R0.out);have N4:=qA ((b1.cell (p:=⟨w.heap.size+1,1,none⟩) eV).trans R1.out);have Ni:=qA ((b1.cell (p:=⟨w.heap.size+1,2,none⟩) eV).trans R2.out);have RQF:Hid (∀j,w1.frozen? ⟨w.heap.size+1,j,none⟩=false):=qA fun j=>(b1.frozen (p:=⟨w.heap.size+1,j,none⟩) eV).trans (RF.out j);have ky:Hid (Below w.heap.size w w1):=qA (BX.out.trans (b1.mono tO));have s1:=b1.size;have ug:=qA rP;clear oe rP b1 B0 B1 B2 R0 R1 R2 RF;have fL:w.heap.size<w1.heap.size:=tO;have lV:w.heap.size+1<w1.heap.size:=tO;go_wp2_with fail;have bA:Below w1.heap.size w1 ((w1.alloc (.cells #[.int .i64 r,.int .i64 N, .slice A1 es.length ah] 26)).alloc (.cells #[] 3)):=(by repeat(first | exact .refl _ _ | (refine BxS ?_ _) | (refine qD ?_ _) | (refine zay ?_) | (refine BxA ?_ _)));obtain⟨W2,aD⟩: ∃W,W=(w1.alloc (.cells #[.int .i64 r,.int .i64 N, .slice A1 es.length ah] 26)).alloc (.cells #[] 3):=⟨_,rfl⟩;have o0:OwI W2 (w1.heap.size+1) (.slice (some ⟨w1.heap.size+1,0,none⟩) 0 0) (rng 0):=by
  rw[aD];exact qCH _ [] (w1.heap.size+1) (by simp) (fun _ h=>by cases h) (by simp) (zad _)
 have G0:Hid (W2.cell? ⟨w1.heap.size,0,none⟩=some (.int .i64 r)):=qA (by rw[aD];simp[go_sem]);have G1:Hid (W2.cell? ⟨w1.heap.size,1,none⟩=some (.int .i64 N)):=qA (by rw[aD];simp[go_sem]);have G2:Hid (W2.cell? ⟨w1.heap.size,2,none⟩=some (.slice A1 es.length ah)):=qA (by rw[aD];simp[go_sem]);have GF:Hid (∀j,W2.frozen? ⟨w1.heap.size,j,none⟩=false):=qA fun j=>by rw[aD];simp[go_sem]
 have cT:W2.heap.size=w1.heap.size+1+1:=by rw[aD];simp
 rw[←aD] at bA⊢;clear aD;have wZ:=qBS _ (r,(N:Int),es) W2 ((HG.out.below ky.out).below bA);rw[aH.out] at wZ;have ju:=qA wZ;clear wZ;refine ju.out.mono ?_;rintro e w3 ⟨rfl,b3⟩;have s3:=b3.size;have pR:w1.heap.size<W2.heap.size:=tO;have C6:=bA.trans (b3.mono tO);have J7:=qA C6;have B3:=qA b3;have en:=qA (OE.out.below C6);have Ip:=qA (o0.below b3);have QN:=qA ((C6.cell (p:=⟨w.heap.size,1,none⟩) fL).trans q1);have Hl:=qA ((b3.cell (p:=⟨w1.heap.size,0,none⟩) pR).trans G0.out);have Ir:=qA ((b3.cell (p:=⟨w1.heap.size,1,none⟩) pR).trans G1.out);have JM:=qA ((b3.cell (p:=⟨w1.heap.size,2,none⟩) pR).trans G2.out);have Jq:Hid (∀j,w3.frozen? ⟨w1.heap.size,j,none⟩=false):=qA fun j=>(b3.frozen (p:=⟨w1.heap.size,j,none⟩) pR).trans (GF.out j);clear bA b3 C6 o0 q0 q1 q2 G0 G1 G2 GF ju;go_wp2;go_loopw [5,6] (fun l i wr=> ∃k:Nat,k≤N∧i= .int .i64 k∧OwI wr (w1.heap.size+1) l (rng k)∧Below (w1.heap.size+1) w3 wr) (fun _ i _=>N-(intOf i).toNat)
 case atStart=>exact⟨0,zaF _,rfl,Ip.out,zaz _ _⟩
 case round=>
  obtain⟨k,hk,rfl,aa,ab⟩:=hrel;have HO:=qA aa;have HB:=qA ab;have hs:=ab.size;have qn:=(ab.cell (p:=⟨w.heap.size,1,none⟩) (by show w.heap.size<w1.heap.size+1;omega)).trans QN.out;have ui:=qGM k;obtain⟨Al,capl,rfl,_⟩:=OwI.form aa;clear aa ab;by_cases ac:k<N
  ·have HK:Hid (I64 (k:Int)):=qA ⟨tO,tO⟩;have lD:=qA (qMw k);go_wp2_with (at_builtin;refine qd rfl (.tmp 26) (.tmp 28) rfl _ _ _ (OwI.alloc HO.out _) rfl _ _ rfl (qa _ _ _) HK.out (by first | omega | (simp<;>omega)) (by first | omega | (simp<;>omega)) ?_;intro v9 wv9 o9 g9 p9)
   go_roundw
   case rel=>exact⟨k+1,tO,by go_num,by rw[lD.out];exact o9,qe HB.out tO HO.out.1 (zad _) g9⟩
   case measure=>simp[intOf];omega
  ·obtain rfl:k=N:=tO
   have GE:Hid (OwE wr W0.heap.size (.slice A1 es.length ah) es):=qA (en.out.keep fun b hb=>HB.out.block b (by have:=ug.out b hb;omega));have Js:=qA ((HB.out.cell (p:=⟨w1.heap.size,0,none⟩) (by show w1.heap.size<w1.heap.size+1;omega)).trans Hl.out);have Ko:=qA ((HB.out.cell (p:=⟨w1.heap.size,1,none⟩) (by show w1.heap.size<w1.heap.size+1;omega)).trans Ir.out);have IR:=qA ((HB.out.cell (p:=⟨w1.heap.size,2,none⟩) (by show w1.heap.size<w1.heap.size+1;omega)).trans JM.out);have GCF:Hid (∀j,wr.frozen? ⟨w1.heap.size,j,none⟩=false):=qA fun j=>(HB.out.frozen (p:=⟨w1.heap.size,j,none⟩) (by show w1.heap.size<w1.heap.size+1;omega)).trans (Jq.out j);have BB:Hid (Below w1.heap.size w1 wr):=qA (J7.out.trans (HB.out.mono tO));have GL:w1.heap.size<wr.heap.size:=tO;clear Hl Ir JM Jq Ip en J7 B3 QN;go_wp2;go_loopw [5] (fun l wr=> ∃(gg:GrD) (xs:List Int) (A':Option Addr) (cap':Nat),grB gg=true∧R=trimF gg.2.1.toNat gg xs∧xs.length=gg.2.1.toNat∧OwI wr (w1.heap.size+1) l xs∧wr.cell? ⟨w1.heap.size,0,none⟩=some (.int .i64 gg.1)∧wr.cell? ⟨w1.heap.size,1,none⟩=some (.int .i64 gg.2.1)∧wr.cell? ⟨w1.heap.size,2,none⟩=some (.slice A' gg.2.2.length cap')∧(∀j,wr.frozen? ⟨w1.heap.size,j,none⟩=false)∧OwE wr W0.heap.size (.slice A' gg.2.2.length cap') gg.2.2∧(∀b,(zaq A' gg.2.2.length cap').ownBlock=some b→l.ownBlock≠some b)∧Below w1.heap.size w1 wr∧w1.heap.size<wr.heap.size) (fun l _=>slN l)
   case atStart=>exact⟨(r,(k:Int),es),rng k,A1,ah,aH.out,HT.out,ui,HO.out,Js.out,Ko.out,IR.out,GCF.out,GE.out,fun b hb he=>by have h1:=ug.out b hb;have h2:=HO.out.1.lt b he;omega,BB.out,GL⟩
   case round=>
    clear HT HO Js Ko IR GCF GE BB ug;obtain⟨gg,xs,A',cap',DT,hR,gR,aa,mh,aR,dg,JC,kf,ai,ab,mi⟩:=hrel;obtain⟨wq,rfl⟩: ∃wq:World,wq=wr:=⟨_,rfl⟩;obtain⟨IH,jA,q7,_⟩:=qB DT;obtain⟨r2,n2,bk⟩:=gg;simp only at hR gR mh aR dg kf ai jA q7 IH
    obtain⟨M,rfl⟩: ∃M:Nat,n2=(M:Int):=⟨n2.toNat,tO⟩;simp only[zar] at gR hR;have Kv:1≤M:=tO;have Qx:M≤40:=tO;clear jA;have Hf:=qA DT;have HR:=qA hR;have HO:=qA aa;have kE:=qA kf;have iP:=qA ai;have jh:=qA JC;have zM:=qA ab;have hs:=ab.size;obtain⟨Al,capl,rfl,lR,cV,_,hf⟩:=OwI.form aa;obtain⟨gl,rfl,wG,mE⟩:=hf tO;have IV:bk.length≤cap':=by obtain⟨_,_,e,h1,_⟩:=OwE.form kf;injection e with _ _ e3;subst e3;exact h1
    have HA:Hid (∀w',Below wq.heap.size wq w'→ArgG w' (.agg #[.int .i64 r2, .int .i64 M, .slice A' bk.length cap']) (r2,(M:Int),bk)):=qA fun w' hb=>⟨_,rfl,by show I64 r2;unfold I64;omega,by show I64 (M:Int);unfold I64;omega,(kE.out.below hb).arg⟩;clear DT hR aa kf ai JC ab hf;go_wp2_with fail;refine(qKz _ (r2,(M:Int),bk) wq (HA.out _ (zaz _ _)) Hf.out).mono ?_
    rintro e wj ⟨rj,rfl,oj,bj⟩;obtain⟨Aj,capj,rfl,zS,_,_,Cd⟩:=qAY oj;rw[qIo] at Cd zS⊢;simp only[zar] at Cd zS⊢;obtain⟨gj,rfl,MT,FH⟩:=Cd tO;have sj:=bj.size;have KP:Hid (∀k:Nat,k<M→wj.cell? ⟨gj,k,none⟩=some (.bool (hasB (qBi bk 0) k))):=qA fun k hk=>by
     have h1:=OwB.cellAt oj k (by rw[qIo];simpa using hk);rw[qMM k (by simpa using hk)] at h1;exact h1
    have oY:=qA bj;have d0:=qA ((bj.cell (p:=⟨w1.heap.size,0,none⟩) mi).trans mh);have d1:=qA ((bj.cell (p:=⟨w1.heap.size,1,none⟩) mi).trans aR);have d2:=qA ((bj.cell (p:=⟨w1.heap.size,2,none⟩) mi).trans dg);have dF:Hid (∀j,wj.frozen? ⟨w1.heap.size,j,none⟩=false):=qA fun j=>(bj.frozen (p:=⟨w1.heap.size,j,none⟩) mi).trans (jh.out j);have mL:w1.heap.size<wj.heap.size:=tO;clear oj bj Cd mh aR dg jh;obtain⟨U,hU⟩: ∃U,U=qk bk M:=⟨_,rfl⟩;have HU:=qA hU;have Es:Hid (∀k:Nat,qDM bk k=(decide (degL bk k<2)|| !hasB (qBi bk 0) k)):=qA fun k=>rfl;clear hU;go_wp2;go_loopw [8,9] (fun a i wg=> ∃k:Nat,i= .int .i64 k∧1≤k∧k≤M∧((a= .int .i64 0∧qAM bk M (M-k) k=U)∨(∃u:Nat,a= .int .i64 u∧U=(u:Int)∧1≤u∧u<M∧k=u+1))∧Below wj.heap.size wj wg) (fun _ i _=>M+1-(intOf i).toNat)
    case atStart=>exact⟨1,rfl,zad _,Kv, .inl ⟨rfl,by rw[HU.out];rfl⟩,zaz _ _⟩
    case round=>
     obtain⟨k,rfl,oW,hk,zP,xU⟩:=hrel;have lS:=qA xU;have Ev:=xU.size;have e0:=(xU.cell (p:=⟨w1.heap.size,0,none⟩) mL).trans d0.out;have e1:=(xU.cell (p:=⟨w1.heap.size,1,none⟩) mL).trans d1.out;have e2:=(xU.cell (p:=⟨w1.heap.size,2,none⟩) mL).trans d2.out;clear xU;rcases zP with ⟨rfl,gE⟩ | ⟨u,rfl,hUu,kc,huM,rfl⟩
     ·have Do:=qA gE;clear gE;by_cases ac:k<M
      ·have wR:=(lS.out.cell (p:=⟨gj,k,none⟩) FH).trans (KP.out k ac);have LB:=qA (Es.out k);have Cy:(k:Int)<(M:Int):=tO;have Fd:degL bk k≤240:=by have:=qHq bk k bk.length;rw[zaA] at this;omega
       go_wp2_with fail;refine(qDC _ (r2,(M:Int),bk) k _ (HA.out _ (oY.out.trans (lS.out.mono sj))) (by simp only;omega)).mono ?_
       rintro e w7 ⟨rfl,b7⟩;have B7:=qA b7;have s7:=b7.size;have JA:=(b7.cell (p:=⟨gj,k,none⟩) (by show gj<wr.heap.size;omega)).trans wR;clear b7 wR;simp only
       generalize degL bk k=d at*;by_cases hd:d<2
       ·have EM:(d:Int)<2:=tO;have F:=qA (qCL ac (by rw[LB.out];simp[hd]));go_wp2;go_roundw
        case rel=>exact⟨k+1,by go_num,tO,tO, .inr ⟨k,rfl,by rw[←Do.out,F.out],oW,ac,rfl⟩,lS.out.trans (B7.out.mono Ev)⟩
        case measure=>simp[intOf];omega
       ·have EM: ¬(d:Int)<2:=tO;rcases h1:hasB (qBi bk 0) k with _ | _
        ·have F:=qA (qCL ac (by rw[LB.out,h1];simp));rw[h1] at JA;go_wp2;go_roundw
         case rel=>exact⟨k+1,by go_num,tO,tO, .inr ⟨k,rfl,by rw[←Do.out,F.out],oW,ac,rfl⟩,lS.out.trans (B7.out.mono Ev)⟩
         case measure=>simp[intOf];omega
        ·have F:=qA (qEq ac (by rw[LB.out,h1];simp[hd]));rw[h1] at JA;go_wp2;go_roundw
         case rel=>exact⟨k+1,by go_num,tO,tO, .inl ⟨rfl,by rw[←F.out,Do.out]⟩,lS.out.trans (B7.out.mono Ev)⟩
         case measure=>simp[intOf];omega
      ·obtain rfl:k=M:=tO
       have KO:U= -1:=by rw[←Do.out,qFR]
       have HE:Hid (R=((r2,(k:Int),bk),xs)):=qA (by rw[HR.out];exact qDs _ (show qk bk ((k:Int)).toNat<0 by rw[zar,←HU.out,KO];decide) _);have bb:Hid (Below w1.heap.size w1 wr):=qA (zM.out.trans ((oY.out.trans (lS.out.mono sj)).mono tO));have OS:=(bb.out.cell (p:=⟨w.heap.size+1,0,none⟩) lV).trans PA.out;have MZ:=(bb.out.cell (p:=⟨w.heap.size+1,1,none⟩) lV).trans N4.out;have ON:=(bb.out.cell (p:=⟨w.heap.size+1,2,none⟩) lV).trans Ni.out;have eu:=(bb.out.frozen (p:=⟨w.heap.size+1,0,none⟩) lV).trans (RQF.out 0);have eE:=(bb.out.frozen (p:=⟨w.heap.size+1,1,none⟩) lV).trans (RQF.out 1);have eG:=(bb.out.frozen (p:=⟨w.heap.size+1,2,none⟩) lV).trans (RQF.out 2);have ow:=kE.out.below (oY.out.trans (lS.out.mono sj));have ol:=HO.out.below (oY.out.trans (lS.out.mono sj));have OW:Hid (OwE (((wr.setCell ⟨w.heap.size+1,0,none⟩ (.int .i64 r2)).setCell ⟨w.heap.size+1,1,none⟩ (.int .i64 k)).setCell ⟨w.heap.size+1,2,none⟩ (.slice A' bk.length cap')) W0.heap.size (.slice A' bk.length cap') bk):=qA
        (((ow.far (p:=⟨w.heap.size+1,0,none⟩) (by show w.heap.size+1<_;omega) _).far (p:=⟨w.heap.size+1,1,none⟩) (by show w.heap.size+1<_;omega) _).far (p:=⟨w.heap.size+1,2,none⟩) (by show w.heap.size+1<_;omega) _)
       have OL:Hid (OwI (((wr.setCell ⟨w.heap.size+1,0,none⟩ (.int .i64 r2)).setCell ⟨w.heap.size+1,1,none⟩ (.int .i64 k)).setCell ⟨w.heap.size+1,2,none⟩ (.slice A' bk.length cap')) (w1.heap.size+1) (.slice (some ⟨gl,0,none⟩) xs.length capl) xs):=qA
        (((ol.far (p:=⟨w.heap.size+1,0,none⟩) (by show w.heap.size+1<_;omega) _).far (p:=⟨w.heap.size+1,1,none⟩) (by show w.heap.size+1<_;omega) _).far (p:=⟨w.heap.size+1,2,none⟩) (by show w.heap.size+1<_;omega) _)
       have BBW:=qA (ky.out.trans (bb.out.mono (show w.heap.size≤w1.heap.size by omega)));clear ow ol;go_wp2;obtain⟨c0,c1,c2⟩:=qDn wr (w.heap.size+1) (.int .i64 r2) (.int .i64 k) (.slice A' bk.length cap') OS MZ ON;have bw:Below w.heap.size w (((wr.setCell ⟨w.heap.size+1,0,none⟩ (.int .i64 r2)).setCell ⟨w.heap.size+1,1,none⟩ (.int .i64 k)).setCell ⟨w.heap.size+1,2,none⟩ (.slice A' bk.length cap')):=(by repeat(first | exact .refl _ _ | (refine BxS ?_ _) | (refine qD ?_ _) | (refine zay ?_) | (refine BxA ?_ _) | (refine BxT ?_ (Hid.out BBW))));generalize ((wr.setCell ⟨w.heap.size+1,0,none⟩ (.int .i64 r2)).setCell ⟨w.heap.size+1,1,none⟩ (.int .i64 k)).setCell ⟨w.heap.size+1,2,none⟩ (.slice A' bk.length cap')=wf at*;refine bodyPost_ret (v:= .tuple #[.agg #[.int .i64 r2, .int .i64 k, .slice A' bk.length cap'], .slice (some ⟨gl,0,none⟩) xs.length capl]) (by simp[results,Tryz.results170,go_sem,c0,c1,c2,gR]) rfl ⟨_,_,rfl,?_,?_,bw⟩
       ·rw[HE.out];refine⟨.slice A' bk.length cap',rfl,?_,?_,OW.out.mono tO⟩
        ·show I64 r2
         unfold I64;omega
        ·show I64 (k:Int)
         unfold I64;omega
       ·rw[HE.out];exact OL.out.mono tO
     ·obtain⟨wg,rfl⟩: ∃wg:World,wg=wr:=⟨_,rfl⟩;have N9:Hid (qk bk M=(u:Int)):=qA (by rw[←HU.out,hUu]);have af:qAB (M:Int) (delO M u):=qCS Kv tO;have dD:=qA af;have ue:(delO M u).length=M-1:=by rw[qBK,if_pos tO]
      have yT:Hid (rnG (r2,(M:Int),bk) (delO M u)=(r2,((M-1:Nat):Int),srt cmpE (rnL bk (delO M u)))):=qA (by rw[←ue];rfl);have fO:Hid (R=trimF (M-1) (r2,((M-1:Nat):Int),srt cmpE (rnL bk (delO M u))) (xs.take u++xs.drop (u+1))):=qA (by
       have h1:=qHA (g:=(r2,(M:Int),bk)) (u:=u) xs (by simpa using N9.out) (by simpa using huM);simp only[zar] at h1;rw[yT.out] at h1;simp only[zar] at h1;rw[HR.out,h1])
      have aI:Hid (grB (r2,((M-1:Nat):Int),srt cmpE (rnL bk (delO M u)))=true):=qA (by rw[←yT.out];exact qHX Hf.out af);have gd:(wg.alloc (.cells #[] 3)).heap.size=wg.heap.size+1:=by simp
      have o5:OwI (wg.alloc (.cells #[] 3)) wg.heap.size (.slice (some ⟨wg.heap.size,0,none⟩) 0 0) (delO 0 u):=qAE wg [] (fun _ h=>by cases h) (by simp) (zad _);have O5:=qA o5;have B5:Hid (Below wg.heap.size wg (wg.alloc (.cells #[] 3))):=qA (by repeat(first | exact .refl _ _ | (refine BxS ?_ _) | (refine qD ?_ _) | (refine zay ?_) | (refine BxA ?_ _)));have LM:=qA gd;have E0:=qA e0;have E1:=qA e1;have E2:=qA e2;have EF:Hid (∀j,wg.frozen? ⟨w1.heap.size,j,none⟩=false):=qA fun j=>(lS.out.frozen (p:=⟨w1.heap.size,j,none⟩) mL).trans (dF.out j);have Co:w1.heap.size<wg.heap.size:=tO;have g0:((u:Int)==0)=false:=by rw[beq_eq_false_iff_ne];omega
      clear af o5 gd hUu ue;obtain⟨kk,sI⟩: ∃kk:Int,((u+1:Nat):Int)=kk:=⟨_,rfl⟩;rw[sI];have Oh:kk<(M:Int)∨ ¬kk<(M:Int):=tO;clear hk oW sI;rcases Oh with hq | hq
      all_goals
       go_wp2;generalize wg.alloc (.cells #[] 3)=W5 at O5 B5 LM⊢;go_loopw [10,11] (fun o i wo=> ∃k:Nat,k≤M∧i= .int .i64 k∧OwI wo wg.heap.size o (delO k u)∧Below wg.heap.size wg wo) (fun _ i _=>M-(intOf i).toNat)
       case atStart=>exact⟨0,zaF _,rfl,O5.out,B5.out⟩
       case round=>
        obtain⟨k,hk,rfl,aa,iF⟩:=hrel;have Cg:=qA aa;have rr:=qA iF;have Ij:=iF.size;have gh:=(iF.cell (p:=⟨w1.heap.size,1,none⟩) Co).trans E1.out;have xA:=(iF.cell (p:=⟨w1.heap.size,0,none⟩) Co).trans E0.out;have xd:=(iF.cell (p:=⟨w1.heap.size,2,none⟩) Co).trans E2.out;obtain⟨Ao,capo,rfl,_⟩:=OwI.form aa;clear aa iF;by_cases ac:k<M
        ·by_cases fV:k=u
         ·subst fV;have F:Hid (delO (k+1) (k:Int)=delO k (k:Int)):=qA (by rw[qBf];simp);go_wp2;go_roundw
          case rel=>exact⟨k+1,tO,by go_num,by rw[F.out];exact Cg.out,rr.out⟩
          case measure=>simp[intOf];omega
         ·have bU: ¬(k:Int)=(u:Int):=tO;have F:Hid (delO (k+1) (u:Int)=delO k (u:Int)++ [(k:Int)]):=qA (by rw[qBf,if_pos bU]);have HK:Hid (I64 (k:Int)):=qA ⟨tO,tO⟩;have Qv:(delO k (u:Int)).length≤40:=by rw[qBK];split<;>omega
          go_wp2_with (at_builtin;refine qd rfl (.tmp 68) (.tmp 70) rfl _ _ _ (OwI.alloc Cg.out _) rfl _ _ rfl (qa _ _ _) HK.out (by first | omega | (simp<;>omega)) (by first | omega | (simp<;>omega)) ?_;intro v9 wv9 o9 g9 p9)
          go_roundw
          case rel=>exact⟨k+1,tO,by go_num,by rw[F.out];exact o9,qe rr.out tO Cg.out.1 (zad _) g9⟩
          case measure=>simp[intOf];omega
        ·obtain rfl:k=M:=tO
         go_wp2_with fail;refine(qJf _ _ (r2,(k:Int),bk) (delO k u) _ (HA.out _ ((oY.out.trans (lS.out.mono sj)).trans (rr.out.mono tO))) Cg.out.rd Hf.out dD.out).mono ?_
         rintro e w6 ⟨r6,rfl,o6,b6⟩;rw[yT.out] at o6;obtain⟨s6,rfl,_,_,lU⟩:=o6;simp only at lU⊢
         generalize srt cmpE (rnL bk (delO k (u:Int)))=es6 at*;generalize hm:k-1=m at*;have HM:=qA hm;clear hm;have B6:=qA b6;have Q8:=b6.size;have yy:=qA lU;obtain⟨A6,ij,rfl,Id,Rd,_⟩:=OwE.form lU;have II: ∀b,(zaq A6 es6.length ij).ownBlock=some b→wr.heap.size≤b∧b<w6.heap.size:=fun b hb=>lU.1.lt b hb;have E8:=qA II;have f0:=(b6.cell (p:=⟨w1.heap.size,0,none⟩) (by show w1.heap.size<wr.heap.size;omega)).trans xA;have f1:=(b6.cell (p:=⟨w1.heap.size,1,none⟩) (by show w1.heap.size<wr.heap.size;omega)).trans gh;have f2:=(b6.cell (p:=⟨w1.heap.size,2,none⟩) (by show w1.heap.size<wr.heap.size;omega)).trans xd;have FF:Hid (∀j,w6.frozen? ⟨w1.heap.size,j,none⟩=false):=qA fun j=>(b6.frozen (p:=⟨w1.heap.size,j,none⟩) (by show w1.heap.size<wr.heap.size;omega)).trans ((rr.out.frozen (p:=⟨w1.heap.size,j,none⟩) Co).trans (EF.out j));have LS:=FF.out 0;have MY:=FF.out 1;have Oo:=FF.out 2;clear lU b6 II xA gh xd;go_wp2;obtain⟨c0,c1,c2⟩:=qDn w6 w1.heap.size (.int .i64 r2) (.int .i64 m) (.slice A6 es6.length ij) f0 f1 f2;have Kn:Hid (Below wq.heap.size wq w6):=qA ((oY.out.trans (lS.out.mono sj)).trans (((rr.out.trans (B6.out.mono tO))).mono tO));have CZ:OwI (((w6.setCell ⟨w1.heap.size,0,none⟩ (.int .i64 r2)).setCell ⟨w1.heap.size,1,none⟩ (.int .i64 m)).setCell ⟨w1.heap.size,2,none⟩ (.slice A6 es6.length ij)) (w1.heap.size+1) (.slice (some ⟨gl,0,none⟩) xs.length capl) xs:=
          ((((HO.out.below Kn.out).far (p:=⟨w1.heap.size,0,none⟩) (by show w1.heap.size<_;omega) _).far (p:=⟨w1.heap.size,1,none⟩) (by show w1.heap.size<_;omega) _).far (p:=⟨w1.heap.size,2,none⟩) (by show w1.heap.size<_;omega) _)
         have JR:OwE (((w6.setCell ⟨w1.heap.size,0,none⟩ (.int .i64 r2)).setCell ⟨w1.heap.size,1,none⟩ (.int .i64 m)).setCell ⟨w1.heap.size,2,none⟩ (.slice A6 es6.length ij)) wr.heap.size (.slice A6 es6.length ij) es6:=
          (((yy.out.far (p:=⟨w1.heap.size,0,none⟩) (by show w1.heap.size<_;omega) _).far (p:=⟨w1.heap.size,1,none⟩) (by show w1.heap.size<_;omega) _).far (p:=⟨w1.heap.size,2,none⟩) (by show w1.heap.size<_;omega) _)
         have IP:Below w1.heap.size w1 (((w6.setCell ⟨w1.heap.size,0,none⟩ (.int .i64 r2)).setCell ⟨w1.heap.size,1,none⟩ (.int .i64 m)).setCell ⟨w1.heap.size,2,none⟩ (.slice A6 es6.length ij)):=
          (((zM.out.trans (Kn.out.mono tO)).setCell (p:=⟨w1.heap.size,0,none⟩) (by show w1.heap.size≤_;exact zad _) _).setCell (p:=⟨w1.heap.size,1,none⟩) (by show w1.heap.size≤_;exact zad _) _).setCell (p:=⟨w1.heap.size,2,none⟩) (by show w1.heap.size≤_;exact zad _) _
         have Ig: ∀j,(((w6.setCell ⟨w1.heap.size,0,none⟩ (.int .i64 r2)).setCell ⟨w1.heap.size,1,none⟩ (.int .i64 m)).setCell ⟨w1.heap.size,2,none⟩ (.slice A6 es6.length ij)).frozen? ⟨w1.heap.size,j,none⟩=false:=fun j=>by
          rw[zav,zav,zav];exact FF.out j
         have Qr:(((w6.setCell ⟨w1.heap.size,0,none⟩ (.int .i64 r2)).setCell ⟨w1.heap.size,1,none⟩ (.int .i64 m)).setCell ⟨w1.heap.size,2,none⟩ (.slice A6 es6.length ij)).heap.size=w6.heap.size:=by simp
         generalize ((w6.setCell ⟨w1.heap.size,0,none⟩ (.int .i64 r2)).setCell ⟨w1.heap.size,1,none⟩ (.int .i64 m)).setCell ⟨w1.heap.size,2,none⟩ (.slice A6 es6.length ij)=w7 at*;have Cu:=qA CZ;have OV:=qA JR;have xT:=qA IP;have PH:=qA Ig;have C0:=qA c0;have C1:=qA c1;have C2:=qA c2;have fi:u≤xs.length:=tO;have eP:u+1≤xs.length:=tO;have OC:=qA (qJK CZ fi);have RC:=qA (RdI.cut (k:=u+1) (A:=some ⟨gl,0,none⟩) (cap:=capl) CZ.rd rfl eP);clear CZ JR IP Ig c0 c1 c2 f0 f1 f2 LS MY Oo FF;have z1:(0:Int)≤(u:Int):=tO;have z2:(u:Int)≤(capl:Int):=tO;have z3:(u:Int)+1≤(k:Int):=tO;have z4:(k:Int)≤(capl:Int):=tO;have z5:(0:Int)≤(u:Int)+1:=tO;have z6:(u:Int)+1≤(capl:Int):=tO;have zw:IntKind.i64.wrap ((u:Int)+1)=(u:Int)+1:=by rw[IntKind.wrap_i64];omega
         have HC:Hid (∀(v9:Value) (w9:World),OwI w9 (w1.heap.size+1) v9 (xs.take u++xs.drop (u+1))→w7.drew.grownBy w9 (zaq (some ⟨gl,0,none⟩) u capl).ownBlock→(v9.ownBlock=(zaq (some ⟨gl,0,none⟩) u capl).ownBlock∨v9.ownBlock=some w7.drew.heap.size)→
           (∃(gg:GrD) (xs:List Int) (A':Option Addr) (cap':Nat),grB gg=true∧R=trimF gg.2.1.toNat gg xs∧xs.length=gg.2.1.toNat∧OwI w9 (w1.heap.size+1) v9 xs∧w9.cell? ⟨w1.heap.size,0,none⟩=some (.int .i64 gg.1)∧w9.cell? ⟨w1.heap.size,1,none⟩=some (.int .i64 gg.2.1)∧w9.cell? ⟨w1.heap.size,2,none⟩=some (.slice A' gg.2.2.length cap')∧(∀j,w9.frozen? ⟨w1.heap.size,j,none⟩=false)∧OwE w9 W0.heap.size (.slice A' gg.2.2.length cap') gg.2.2∧(∀b,(zaq A' gg.2.2.length cap').ownBlock=some b→v9.ownBlock≠some b)∧Below w1.heap.size w1 w9∧w1.heap.size<w9.heap.size)∧slN v9<k):=qA (by
          intro v9 w9 o9 g9 p9;have Gh: ∀b,b<w7.heap.size→b≠gl→w9.heap[b]? =w7.heap[b]? :=fun b hb ai=>g9.block b hb fun e=>ai (by simpa[zaT] using e);have kn:w7.heap.size≤w9.heap.size:=g9.size;have rT:(xs.take u++xs.drop (u+1)).length=m:=by
           have:=HM.out
           rw[zag,zap,zat];omega
          have KW:Below w1.heap.size w1 w9:=(xT.out.drew).grown g9 (by show w1.heap.size≤w7.heap.size;omega) fun x hx=>by simp[zaT] at hx;omega
          have cc: ∀o,w9.cell? ⟨w1.heap.size,o,none⟩=w7.cell? ⟨w1.heap.size,o,none⟩:=fun o=>zaJ (Gh w1.heap.size tO tO);have cf: ∀o,w9.frozen? ⟨w1.heap.size,o,none⟩=w7.frozen? ⟨w1.heap.size,o,none⟩:=fun o=>zaG (Gh w1.heap.size tO tO);obtain⟨A9,bh,uN,_⟩:=OwI.form o9;refine⟨⟨(r2,(m:Int),es6),xs.take u++xs.drop (u+1),A6,ij,aI.out,by rw[fO.out];simp,by rw[rT];simp,o9,(cc 0).trans C0.out,(cc 1).trans C1.out,(cc 2).trans C2.out,fun j=>(cf j).trans (PH.out j),(OV.out.keep fun b hb=>Gh b (by have:=E8.out b hb;omega) (by have:=E8.out b hb;omega)).mono tO,fun b hb he=> ?_,KW,tO⟩,?_⟩
          ·have h1:=E8.out b hb;rcases p9 with p9 | p9
           ·rw[p9] at he;simp[zaT] at he
            omega
           ·rw[p9] at he;have h2:w7.heap.size=b:=by simpa using he
            omega
          ·rw[uN,rT];show m<k
           have:=HM.out
           omega)
         by_cases lQ:capl=u+1
         ·have RC':Hid (RdI w7 (.slice (some ⟨gl,0,none⟩) (k-(u+1)) 0) (xs.drop (u+1))):=qA (by
           have h1:=RC.out;rw[if_pos lQ,gR,show capl-(u+1)=0 by omega] at h1;exact h1)
          clear RC;subst lQ;have y1:(u:Int)≤(u:Int)+1:=tO;have y2:(k:Int)≤(u:Int)+1:=tO;clear z2 z4 z6;go_region_held3 (fun w'=>True) (trivial)
           (first | (refine qBD rfl (.tmp 77) (.tmp 81) rfl (w1.heap.size+1) _ (xs.take u) (OwI.drew OC.out) (by rfl) _ (xs.drop (u+1)) ?_ (by rfl) (by simp only[zap,zat];omega) (by show _≤w7.heap.size;omega) ?_;(exact RC'.out.drew);intro v9 w9 o9 g9 p9;have X9:=qA (HC.out v9 w9 o9 g9 p9);clear o9 g9 p9))
          clear HC;obtain⟨X1,X2⟩:=X9.out;clear X9;have dZ:=qA X1;clear X1;go_wp2;go_roundw
          case rel=>exact dZ.out
          case measure=>(show slN v9<xs.length;omega)
         ·have RC':Hid (RdI w7 (.slice (some ⟨gl,u+1,none⟩) (k-(u+1)) (capl-(u+1))) (xs.drop (u+1))):=qA (by
           have h1:=RC.out;rw[if_neg lQ,gR] at h1;simpa[Addr.add] using h1)
          go_region_held3 (fun w'=>True) (trivial)
           (first | (refine qBD rfl (.tmp 77) (.tmp 81) rfl (w1.heap.size+1) _ (xs.take u) (OwI.drew OC.out) (by rfl) _ (xs.drop (u+1)) ?_ (by rfl) (by simp only[zap,zat];omega) (by show _≤w7.heap.size;omega) ?_;(exact RC'.out.drew);intro v9 w9 o9 g9 p9;have X9:=qA (HC.out v9 w9 o9 g9 p9);clear o9 g9 p9))
          clear HC;obtain⟨X1,X2⟩:=X9.out;clear X9;have dZ:=qA X1;clear X1;go_wp2;go_roundw
          case rel=>exact dZ.out
          case measure=>(show slN v9<xs.length;omega)
theorem qS (es:List EdD) (v x:Int) (w:List Int):qY es v (x::w)=if qF es v x<0 then-1 else qY es (qF es v x) w:=rfl
theorem qAd (es:List EdD): ∀(a:List Int) (v:Int) (b:List Int),0≤qY es v a→qY es v (a++b)=qY es (qY es v a) b
 | [],_,_,_=>rfl
 | x::a,v,b,h=>by
   rw[zaP,qS,qS];rw[qS] at h;split at h
   ·exact absurd h (by decide)
   ·rename_i hn
    rw[if_neg hn,if_neg hn];exact qAd es a _ b h
theorem qBr (es:List EdD): ∀(a:List Int) (v:Int) (b:List Int),0≤v→0≤qY es v (a++b)→0≤qY es v a
 | [],v,_,hv,_=>hv
 | x::a,v,b,hv,h=>by
   rw[zaP,qS] at h;rw[qS];split at h
   ·exact absurd h (by decide)
   ·rename_i hn
    rw[if_neg hn];exact qBr es a _ b tO h
theorem qBw (es:List EdD) (v x:Int) (h:0≤qF es v x):qY es v [x]=qF es v x:=by
 rw[qS,if_neg tO];rfl
def invN (w:List Int):List Int:=(w.map fun x=> -x).reverse
theorem qJq (w:List Int):invN (invN w)=w:=by
 unfold invN;rw[List.map_reverse,List.reverse_reverse,List.map_map];have:((fun x:Int=> -x)∘fun x:Int=> -x)=id:=by funext x;simp
 rw[this,List.map_id]
theorem qKI (a b:List Int):invN (a++b)=invN b++invN a:=by simp[invN]
theorem qFu {w:List Int} {x:Int} (h:x∈invN w): -x∈w:=by
 unfold invN at h;simp only[List.mem_reverse,zaw] at h;obtain⟨y,hy,rfl⟩:=h;simpa using hy
theorem qEp {g:GrD} (hg:grB g=true) (hf:Fol g.2.2): ∀(w:List Int) (v:Int),(∀x∈w,-3≤x∧x≤3)→0≤v→0≤qY g.2.2 v w→qY g.2.2 (qY g.2.2 v w) (invN w)=v
 | [],_,_,_,_=>rfl
 | x::w,v,hx,hv,h=>by
   rw[qS] at h⊢;split at h
   ·exact absurd h (by decide)
   ·rename_i hn
    rw[if_neg hn];have e:invN (x::w)=invN w++ [-x]:=by simp[invN]
    have ih:=qEp hg hf w _ (fun y hy=>hx y (by simp[hy])) tO h;have hb:=qAA hg hf (hx x (by simp)) (by omega:0≤qF g.2.2 v x);rw[e,qAd _ _ _ _ (by rw[ih];omega),ih,qBw _ _ _ tO,hb]
def wst (es:List EdD) (u:Int) (wu:List Int) (tw:List (Int×List Int)) (x:Int):List (Int×List Int):=
 if 0≤qF es u x then(if hasB (tw.map (·.1)) (qF es u x) then tw else tw++ [(qF es u x,wu++ [x])]) else tw
def wcF (es:List EdD) (ls:List Int):Nat→Nat→List (Int×List Int)→List (Int×List Int)
 | 0,_,tw=>tw
 | f+1,i,tw=>match tw[i]? with
   | none=>tw
   | some p=>wcF es ls f (i+1) (ls.foldl (wst es p.1 p.2) tw)
def wcO (g:GrD):List (Int×List Int):=wcF g.2.2 (qG g.1.toNat) 41 0 [(0,[])]
theorem qOM (es:List EdD) (u:Int) (wu:List Int) (tw:List (Int×List Int)) (x:Int):(wst es u wu tw x).map (·.1)=qW es u (tw.map (·.1)) x:=by
 unfold wst qW;by_cases h0:0≤qF es u x
 ·rw[if_pos h0,if_pos h0];by_cases h1:hasB (tw.map (·.1)) (qF es u x)=true
  ·rw[if_pos h1,if_pos h1]
  ·rw[if_neg h1,if_neg h1];simp
 ·rw[if_neg h0,if_neg h0]
theorem qEm (es:List EdD) (u:Int) (wu:List Int): ∀(ls:List Int) (tw:List (Int×List Int)),(ls.foldl (wst es u wu) tw).map (·.1)=ls.foldl (qW es u) (tw.map (·.1))
 | [],_=>rfl
 | x::ls,tw=>by rw[zbc,zbc,qEm es u wu ls,qOM]
theorem qLF (es:List EdD) (ls:List Int): ∀(f i:Nat) (tw:List (Int×List Int)),(wcF es ls f i tw).map (·.1)=canF es ls f i (tw.map (·.1))
 | 0,_,_=>rfl
 | f+1,i,tw=>by
   rw[wcF,canF,zaN];cases tw[i]? with
   | none=>rfl
   | some p=>simp only[Option.map_some];rw[qLF es ls f,qEm]
theorem qHY (g:GrD):(wcO g).map (·.1)=canO g:=by unfold wcO canO;rw[qLF];rfl
theorem qJw (es:List EdD) (ls:List Int) (f i:Nat) (o:List (Int×List Int)) (h:i<o.length):wcF es ls (f+1) i o=wcF es ls f (i+1) (ls.foldl (wst es o[i].1 o[i].2) o):=by
 rw[wcF,zau h]
theorem qGw (es:List EdD) (u:Int) (wu:List Int) (x:Int) (o:List (Int×List Int)) (i:Nat) (y:Int×List Int) (h:o[i]? =some y):(wst es u wu o x)[i]? =some y:=by
 unfold wst;split
 ·split
  ·exact h
  ·rw[List.getElem?_append_left (zaD.1 h).1];exact h
 ·exact h
theorem qDe (es:List EdD) (u:Int) (wu:List Int): ∀(ls:List Int) (o:List (Int×List Int)) (i:Nat) (y:Int×List Int),o[i]? =some y→(ls.foldl (wst es u wu) o)[i]? =some y
 | [],_,_,_,h=>h
 | x::ls,o,i,y,h=>qDe es u wu ls _ i y (qGw es u wu x o i y h)
theorem qKl (es:List EdD) (u:Int) (wu:List Int) (ls:List Int) (o:List (Int×List Int)) (k:Nat) (h:k<ls.length):(ls.take (k+1)).foldl (wst es u wu) o=wst es u wu ((ls.take k).foldl (wst es u wu) o) ls[k]:=by
 rw[zaH h,za2];rfl
theorem qFG (es:List EdD) (ls:List Int): ∀(f i:Nat) (o:List (Int×List Int)) (j:Nat) (y:Int×List Int),o[j]? =some y→(wcF es ls f i o)[j]? =some y
 | 0,_,_,_,_,h=>h
 | f+1,i,o,j,y,h=>by
   rw[wcF];cases o[i]? with
   | none=>exact h
   | some p=>exact qFG es ls f _ _ j y (qDe es _ _ ls o j y h)
structure TwI (es:List EdD) (ls:List Int) (tw:List (Int×List Int)):Prop where
 root:tw[0]? =some (0,[])
 par: ∀p∈tw,p=(0,[])∨ ∃q∈tw,∃x∈ls,p.2=q.2++ [x]∧qF es q.1 x=p.1∧0≤p.1
 len: ∀p∈tw,p.2.length<tw.length
theorem TwI.step {es:List EdD} {ls:List Int} {tw:List (Int×List Int)} (h:TwI es ls tw) {u:Int} {wu:List Int} (hu:(u,wu)∈tw) {x:Int} (hx:x∈ls):TwI es ls (wst es u wu tw x)∧(u,wu)∈wst es u wu tw x:=by
 refine⟨⟨qGw _ _ _ _ _ _ _ h.root,?_,?_⟩,?_⟩
 ·unfold wst;split
  ·rename_i h0
   split
   ·exact h.par
   ·intro p hp;rcases zae.1 hp with hp | hp
    ·rcases h.par p hp with e | ⟨q,hq,r⟩
     ·exact .inl e
     ·exact .inr ⟨q,zae.2 (.inl hq),r⟩
    ·rw[zaf.1 hp];exact .inr ⟨(u,wu),zae.2 (.inl hu),x,hx,rfl,rfl,h0⟩
  ·exact h.par
 ·unfold wst;split
  ·split
   ·exact h.len
   ·intro p hp;rw[zag];rcases zae.1 hp with hp | hp
    ·have:=h.len p hp;simp;omega
    ·rw[zaf.1 hp];have:=h.len _ hu
     simp only[zag,zaU] at this⊢;omega
  ·exact h.len
 ·unfold wst;split
  ·split
   ·exact hu
   ·exact zae.2 (.inl hu)
  ·exact hu
theorem TwI.fold {es:List EdD} {ls:List Int} {u:Int} {wu:List Int}: ∀(l2:List Int) {tw:List (Int×List Int)},TwI es ls tw→(u,wu)∈tw→(∀x∈l2,x∈ls)→TwI es ls (l2.foldl (wst es u wu) tw)
 | [],_,h,_,_=>h
 | x::l2,tw,h,hu,hs=>by
   have:=h.step hu (hs x (by simp))
   exact TwI.fold l2 this.1 this.2 fun y hy=>hs y (by simp[hy])
theorem TwI.bfs {es:List EdD} {ls:List Int}: ∀(f i:Nat) {tw:List (Int×List Int)},TwI es ls tw→TwI es ls (wcF es ls f i tw)
 | 0,_,_,h=>h
 | f+1,i,tw,h=>by
   rw[wcF];cases e:tw[i]? with
   | none=>exact h
   | some p=>exact TwI.bfs f _ (h.fold ls (zaB e) fun _ hx=>hx)
theorem TwI.one (es:List EdD) (ls:List Int):TwI es ls [(0,[])]:=⟨rfl,fun p hp=> .inl (zaf.1 hp),fun p hp=>by rw[zaf.1 hp];simp⟩
theorem qMd (g:GrD):TwI g.2.2 (qG g.1.toNat) (wcO g):=(TwI.one _ _).bfs _ _
def lkW (tw:List (Int×List Int)) (v:Int):List Int:=match tw.find? (fun p=>decide (p.1=v)) with
 | some p=>p.2
 | none=> []
def wdO (g:GrD) (v:Int):List Int:=lkW (wcO g) v
theorem qPF {tw:List (Int×List Int)} (hn:(tw.map (·.1)).Nodup) {p:Int×List Int} (hp:p∈tw):lkW tw p.1=p.2:=by
 unfold lkW;induction tw with
 | nil=>cases hp
 | cons q tw ih=>
   rw[zaW,zbd] at hn;rw[List.find?_cons];rcases zbf.1 hp with rfl | hp
   ·simp
   ·have ai:q.1≠p.1:=fun e=>hn.1 (e▸zaw.2 ⟨p,hp,rfl⟩);rw[show decide (q.1=p.1)=false by simp[ai]];exact ih hn.2 hp
section
variable {g:GrD}
theorem qLX (hg:grB g=true):((wcO g).map (·.1)).Nodup:=by rw[qHY];exact(qc hg).1
theorem qMm (hg:grB g=true) {p:Int×List Int} (hp:p∈wcO g):wdO g p.1=p.2:=qPF (qLX hg) hp
theorem qOB (hg:grB g=true) {v:Int} (hv:v∈canO g):(v,wdO g v)∈wcO g:=by
 rw[←qHY] at hv;obtain⟨p,hp,rfl⟩:=zaw.1 hv;rw[qMm hg hp];exact hp
theorem qOL {p:Int×List Int} (hp:p∈wcO g):p.1∈canO g:=by rw[←qHY];exact zaw.2 ⟨p,hp,rfl⟩
theorem qBX (hg:grB g=true):wdO g 0= []:=qMm hg (p:=(0,[])) (zaB (qMd g).root)
theorem qEA (hg:grB g=true) {v:Int} (hv:v∈canO g) (h0:v≠0): ∃u∈canO g,∃x∈qG g.1.toNat,wdO g v=wdO g u++ [x]∧qF g.2.2 u x=v:=by
 rcases(qMd g).par _ (qOB hg hv) with e | ⟨q,hq,x,hx,h1,h2,_⟩
 ·exact absurd (congrArg Prod.fst e) h0
 ·exact⟨q.1,qOL hq,x,hx,by rw[qMm hg hq];exact h1,h2⟩
theorem qHy (hg:grB g=true) {v:Int} (hv:v∈canO g):(wdO g v).length<40:=by
 have h1:=(qMd g).len _ (qOB hg hv);have h2:=(qc hg).len (qB hg).2.1.2 (by have:=(qB hg).2.1.1;omega);rw[←qHY,zbe] at h2;simp only at h1
 omega
theorem let3 (hg:grB g=true) {x:Int} (hx:x∈qG g.1.toNat): -3≤x∧x≤3:=by
 have h1:=qX.1 hx;have h2:=(qB hg).1;omega
theorem qHN (hg:grB g=true): ∀(n:Nat) {v:Int},v∈canO g→(wdO g v).length≤n→qY g.2.2 0 (wdO g v)=v∧ ∀x∈wdO g v,x∈qG g.1.toNat
 | n,v,hv,hn=>by
   by_cases h0:v=0
   ·subst h0;rw[qBX hg];exact⟨rfl,fun x hx=>by cases hx⟩
   ·obtain⟨u,hu,x,hx,e,dN⟩:=qEA hg hv h0;have lP:=(qc hg).2.1 v hv;have fl:=(qc hg).2.1 u hu;rw[e] at hn⊢;rw[zag,zaU] at hn;match n,hn with
    | n+1,hn=>
      have ih:=qHN hg n hu tO;refine⟨?_,fun y hy=> ?_⟩
      ·rw[qAd _ _ _ _ (by rw[ih.1];omega),ih.1,qBw _ _ _ tO,dN]
      ·rcases zae.1 hy with hy | hy
       ·exact ih.2 y hy
       ·rw[zaf.1 hy];exact hx
theorem qCG (hg:grB g=true) {v:Int} (hv:v∈canO g):qY g.2.2 0 (wdO g v)=v:=(qHN hg _ hv (zad _)).1
theorem qMQ (hg:grB g=true) {v:Int} (hv:v∈canO g): ∀x∈wdO g v,x∈qG g.1.toNat:=(qHN hg _ hv (zad _)).2
theorem qBx (hg:grB g=true) {v:Int} (hv:v∈canO g): ∀x∈wdO g v,-3≤x∧x≤3:=fun x hx=>let3 hg (qMQ hg hv x hx)
theorem qFm {a b:List Int} {x y:Int} (h:a++ [x]=b++ [y]):a=b∧x=y:=by
 have:=List.append_inj' h rfl
 exact⟨this.1,by simpa using this.2⟩
def NoB:List Int→Prop
 | []=>True
 | [_]=>True
 | a::b::l=>b≠ -a∧NoB (b::l)
theorem NoB.app: ∀ {a b:List Int},NoB a→NoB b→(∀x∈a.getLast?,∀y∈b.head?,y≠ -x)→NoB (a++b)
 | [],_,_,hb,_=>hb
 | [x],[],_,_,_=>trivial
 | [x],y::b,_,hb,h=>⟨h x rfl y rfl,hb⟩
 | x::y::a,b,ha,hb,h=>⟨ha.1,NoB.app (a:=y::a) ha.2 hb (by rw[List.getLast?_cons_cons] at h;exact h)⟩
theorem NoB.inv: ∀ {w:List Int},NoB w→NoB (invN w)
 | [],_=>trivial
 | [x],_=>trivial
 | x::y::w,h=>by
   have e:invN (x::y::w)=invN (y::w)++ [-x]:=by simp[invN]
   rw[e];refine NoB.app h.2.inv trivial fun a ha b hb=> ?_;simp[invN] at ha hb
   have:=h.1
   omega
theorem qHc (hg:grB g=true) (hf:Fol g.2.2): ∀(n:Nat) {v:Int},v∈canO g→(wdO g v).length≤n→NoB (wdO g v)
 | n,v,hv,hn=>by
   by_cases h0:v=0
   ·subst h0;rw[qBX hg];exact trivial
   ·obtain⟨u,hu,x,hx,e,dN⟩:=qEA hg hv h0;have hl:(wdO g v).length=(wdO g u).length+1:=by rw[e];simp
    match n,hn with
    | 0,hn=>omega
    | n+1,hn=>
      have ih:=qHc hg hf n hu tO;rw[e];refine NoB.app ih trivial fun a ha b hb=> ?_;simp at hb
      subst hb;intro hx';by_cases fl:u=0
      ·subst fl;rw[qBX hg] at ha;simp at ha
      ·obtain⟨t,ht,y,hy,e2,ta⟩:=qEA hg hu fl;rw[e2] at ha;simp at ha
       subst ha;have kc:=(qc hg).2.1 u hu;have hb:=qAA hg hf (let3 hg hy) (by rw[ta];omega);rw[ta,←hx',dN] at hb;subst hb;rw[e2] at e;have:=congrArg zaM e
       simp at this
def exB (g:GrD) (e:EdD):Bool:= !decide (wdO g e.2.2=wdO g e.1++ [e.2.1])&& !decide (wdO g e.1=wdO g e.2.2++ [-e.2.1])
theorem qFC {e:EdD}:exB g e=true↔wdO g e.2.2≠wdO g e.1++ [e.2.1]∧wdO g e.1≠wdO g e.2.2++ [-e.2.1]:=by simp[exB]
def extL (g:GrD):List EdD:=g.2.2.filter (exB g)
def basW (g:GrD) (e:EdD):List Int:=wdO g e.1++ [e.2.1]++invN (wdO g e.2.2)
def basF (g:GrD):List (List Int):=if qR g=true then(extL g).map (basW g) else []
theorem qt (hg:grB g=true) (hf:Fol g.2.2) {e:EdD} (he:e∈g.2.2):qF g.2.2 e.1 e.2.1=e.2.2:=by
 have h:=(qI hg he).2.1;exact qFr hf he (by unfold mt;rw[if_pos tO,if_pos ⟨rfl,rfl⟩])
theorem qAt (hg:grB g=true) (hf:Fol g.2.2) {e:EdD} (he:e∈g.2.2):qF g.2.2 e.2.2 (-e.2.1)=e.1:=by
 have h:=(qI hg he).2.1;have h3:=(qB hg).1;have hb:=qAA hg hf (v:=e.1) (x:=e.2.1) tO (by rw[qt hg hf he];exact(qI hg he).2.2.1);rwa [qt hg hf he] at hb
theorem qDN (hg:grB g=true) (hf:Fol g.2.2) {e:EdD} (he:e∈g.2.2) (hx:exB g e=true) (h1:e.1∈canO g) (h2:e.2.2∈canO g):NoB (basW g e):=by
 obtain⟨n1,n2⟩:=qFC.1 hx;have hl:=(qI hg he).2.1;have hr:=(qB hg).1;unfold basW;refine NoB.app (NoB.app (qHc hg hf _ h1 (zad _)) trivial fun a ha b hb=> ?_) (qHc hg hf _ h2 (zad _)).inv fun a ha b hb=> ?_
 ·simp at hb
  subst hb;intro hx';by_cases fl:e.1=0
  ·rw[fl,qBX hg] at ha;simp at ha
  ·obtain⟨t,ht,y,hy,e2,ta⟩:=qEA hg h1 fl;rw[e2] at ha;simp at ha
   subst ha;have kc:=(qc hg).2.1 _ h1;have hb:=qAA hg hf (let3 hg hy) (by rw[ta];omega);rw[ta,←hx',qt hg hf he] at hb;subst hb;exact n2 (by rw[e2,hx'];simp)
 ·simp at ha
  subst ha;intro aJ;by_cases fl:e.2.2=0
  ·rw[fl,qBX hg] at hb;simp[invN] at hb
  ·obtain⟨t,ht,y,hy,e2,ta⟩:=qEA hg h2 fl;rw[e2,qKI] at hb;simp[invN] at hb
   have Ox:y=e.2.1:=tO;subst Ox;have yf:=(qc hg).2.1 _ h2;have b1:=qAA hg hf (let3 hg hy) (by rw[ta];omega);rw[ta,qAt hg hf he] at b1;subst b1;exact n1 e2
theorem qFt (hg:grB g=true) (hf:Fol g.2.2) {e:EdD} (he:e∈g.2.2) (h1:e.1∈canO g) (h2:e.2.2∈canO g):qY g.2.2 0 (basW g e)=0:=by
 have a1:=(qc hg).2.1 _ h1;have a2:=(qc hg).2.1 _ h2;have w1:qY g.2.2 0 (wdO g e.1++ [e.2.1])=e.2.2:=by
  rw[qAd _ _ _ _ (by rw[qCG hg h1];omega),qCG hg h1,qBw _ _ _ (by rw[qt hg hf he];omega),qt hg hf he]
 unfold basW;rw[qAd _ _ _ _ (by rw[w1];omega),w1];have:=qEp hg hf (wdO g e.2.2) 0 (qBx hg h2) (zak _) (by rw[qCG hg h2];omega)
 rwa [qCG hg h2] at this
theorem qo (h:qR g=true) {v:Int} (hv:0≤v∧v<g.2.1):v∈canO g:=by
 have hg:=qZ h;have af:=qc hg;have hl:((canO g).length:Int)=g.2.1:=by
  unfold qR at h;simp only[zaj,decide_eq_true_eq] at h;have:=congrArg (fun g:GrD=>g.2.1) h.2
  exact this
 apply zal
 intro hn;have:=qAc g.2.1.toNat (v::canO g) (zbd.2 ⟨hn,af.1⟩) fun y hy=>by
  rcases zbf.1 hy with rfl | hy
  ·omega
  ·have:=af.2.1 y hy;omega
 rw[za7] at this;omega
theorem qEj (es:List EdD) (n:Nat): ∀(f v:Nat),v+f=n→qAM es n f v<0→ ∀u,v≤u→u<n→qDM es u=false
 | 0,v,h,_,u,h1,h2=>tO
 | f+1,v,h,hl,u,h1,h2=>by
   unfold qAM at hl;rw[if_pos tO] at hl;split at hl
   ·omega
   ·rename_i hb
    by_cases e:u=v
    ·subst e;simpa using hb
    ·exact qEj es n f (v+1) tO hl u tO h2
theorem qHT (h:qR g=true) {v:Int} (hv:0<v∧v<g.2.1):2≤degL g.2.2 v:=by
 have hg:=qZ h;have hs:=(qB hg).2.1;unfold qR at h;simp only[zaj,decide_eq_true_eq] at h;have hl:=qEj g.2.2 g.2.1.toNat (g.2.1.toNat-1) 1 tO h.1.2 v.toNat tO tO;unfold qDM at hl;simp only[Bool.or_eq_false_iff,decide_eq_false_iff_not] at hl;have:=hl.1
 rw[show((v.toNat:Nat):Int)=v by omega] at this;omega
theorem qGF {v:Int}: ∀ {es:List EdD},(∀e∈es,degE v e=0)→degL es v=0
 | [],_=>rfl
 | e::es,h=>by
   have h1:=qGF (es:=es) fun e he=>h e (by simp[he]);have h2:=h e (by simp);unfold degL at h1⊢;rw[zaW,List.sum_cons,h1,h2]
theorem qHQ {v l0:Int}: ∀ {es:List EdD},Fol es→(∀e∈es,1≤e.2.1)→(∀e∈es,(e.1=v→e.2.1=l0)∧(e.2.2=v→ -e.2.1=l0))→degL es v≤1
 | [],_,_,_=>by simp[degL]
 | e::es,hf,hl,h=>by
   have p:=List.pairwise_cons.1 hf;have ih:=qHQ p.2 (fun e he=>hl e (by simp[he])) fun e he=>h e (by simp[he]);have he:=h e (by simp);have ii:=hl e (by simp);have lX:degL (e::es) v=degE v e+degL es v:=by simp[degL]
   rw[lX];by_cases ht:e.1=v∨e.2.2=v
   ·have hz:degL es v=0:=by
     refine qGF fun e' he'=> ?_;have h':=h e' (by simp[he']);have wV:=hl e' (by simp[he']);have hc:=p.1 e' he';unfold qBN at hc;have ai: ¬(e'.1=v∨e'.2.2=v):=by
      rintro(ha | ha)
      ·rcases ht with ht | ht
       ·have a1:=he.1 ht;have a2:=h'.1 ha;rw[show(e.2.1==e'.2.1)=true by simp;omega,show(e.1==e'.1)=true by simp;omega] at hc;simp at hc
       ·have a1:=he.2 ht;have a2:=h'.1 ha;omega
      ·rcases ht with ht | ht
       ·have a1:=he.1 ht;have a2:=h'.2 ha;omega
       ·have a1:=he.2 ht;have a2:=h'.2 ha;rw[show(e.2.1==e'.2.1)=true by simp;omega,show(e.2.2==e'.2.2)=true by simp;omega] at hc;simp at hc
     unfold degE;rw[if_neg fun q=>ai (.inl q),if_neg fun q=>ai (.inr q)]
    rw[hz];unfold degE;by_cases a:e.1=v
    ·rw[if_pos a];by_cases b:e.2.2=v
     ·have a1:=he.1 a;have a2:=he.2 b;omega
     ·rw[if_neg b];omega
    ·rw[if_neg a];by_cases b:e.2.2=v
     ·rw[if_pos b];omega
     ·rw[if_neg b];omega
   ·have:degE v e=0:=by
     unfold degE;rw[if_neg fun q=>ht (.inl q),if_neg fun q=>ht (.inr q)]
    omega
end
def imgW (a b:GrD) (v:Int):Int:=qY b.2.2 0 (wdO a v)
def stB (a b:GrD) (u l:Int):Bool:=decide (qF a.2.2 u l<0)||(decide (0≤qF b.2.2 (imgW a b u) l)&&decide (imgW a b (qF a.2.2 u l)=qF b.2.2 (imgW a b u) l))
def qAG (a b:GrD):Bool:=qR a&&qR b&&decide (a.1=b.1)&&(canO a).all fun u=>(qG a.1.toNat).all (stB a b u)
def qJU (a b:GrD):Bool:=qR a&&qR b&&decide (a.1=b.1)&&(basF a).all fun w=>decide (qY b.2.2 0 w=0)
section
variable {a b:GrD}
theorem qDp (ha:qR a=true) (hb:qR b=true) (hB: ∀e∈extL a,qY b.2.2 0 (basW a e)=0): ∀(n:Nat) {v:Int},v∈canO a→40≤(wdO a v).length+n→0≤imgW a b v
 | n,v,hv,hn=>by
   have aL:=qZ ha;have a8:=qZ hb;have cY:Fol a.2.2:=(qE (by unfold qR at ha;simp only[zaj] at ha;exact ha.1.1)).2;have d6:Fol b.2.2:=(qE (by unfold qR at hb;simp only[zaj] at hb;exact hb.1.1)).2;by_cases h0:v=0
   ·subst h0;unfold imgW;rw[qBX aL];exact zak _
   ·obtain⟨u,hu,x,hx,e1,dN⟩:=qEA aL hv h0;have IQ:=(qc aL).2.1 v hv;have hd:=qHT ha (v:=v) ⟨tO,IQ.2⟩;have au:=qHy aL hv;match n,hn with
    | 0,hn=>omega
    | n+1,hn=>
      apply zal
      intro mG;have key:degL a.2.2 v≤1:=by
       refine qHQ (l0:= -x) cY (fun e he=>(qI aL he).2.1.1) fun e he=>⟨fun h1=> ?_,fun h2=> ?_⟩
       ·apply zal
        intro hl;have hc:e.2.2∈canO a:=qo ha (qI aL he).2.2;by_cases dA:exB a e=true
        ·have hw:=hB e (zaK.2 ⟨he,dA⟩);unfold basW at hw;rw[za3,h1] at hw;exact mG (qBr _ _ _ _ (zak _) (by rw[hw];exact zak _))
        ·rw[qFC,zan,zam,zam,h1] at dA;rcases dA with dA | dA
         ·have ih:=qDp ha hb hB n hc (by rw[dA,zag];simp;omega);unfold imgW at ih;rw[dA] at ih;exact mG (qBr _ _ _ _ (zak _) ih)
         ·rw[e1] at dA;have:=(qFm dA).2
          omega
       ·apply zal
        intro hl;have hc:e.1∈canO a:=qo ha (qI aL he).1;by_cases dA:exB a e=true
        ·have hw:=hB e (zaK.2 ⟨he,dA⟩);have mJ:=qEp a8 d6 (basW a e) 0 (fun y hy=>by
          unfold basW at hy;rcases zae.1 hy with hy | hy
          ·rcases zae.1 hy with hy | hy
           ·exact qBx aL hc y hy
           ·rw[zaf.1 hy];have:=(qI aL he).2.1
            have:=(qB aL).1
            omega
          ·have:=qBx aL (h2▸hv) _ (qFu hy)
           omega) (zak _) (by rw[hw];exact zak _)
         rw[hw] at mJ;unfold basW at mJ;rw[qKI,qJq,h2] at mJ;exact mG (qBr _ _ _ _ (zak _) (by rw[mJ];exact zak _))
        ·rw[qFC,zan,zam,zam,h2] at dA;rcases dA with dA | dA
         ·rw[e1] at dA;have:=(qFm dA).2
          omega
         ·have ih:=qDp ha hb hB n hc (by rw[dA,zag];simp;omega);unfold imgW at ih;rw[dA] at ih;exact mG (qBr _ _ _ _ (zak _) ih)
      omega
theorem qNw (ha:qR a=true) (hb:qR b=true) (hB: ∀e∈extL a,qY b.2.2 0 (basW a e)=0) {e:EdD} (he:e∈a.2.2):
  qF b.2.2 (imgW a b e.1) e.2.1=imgW a b e.2.2∧qF b.2.2 (imgW a b e.2.2) (-e.2.1)=imgW a b e.1∧0≤imgW a b e.1∧0≤imgW a b e.2.2:=by
 have aL:=qZ ha;have a8:=qZ hb;have d6:Fol b.2.2:=(qE (by unfold qR at hb;simp only[zaj] at hb;exact hb.1.1)).2;have h1:e.1∈canO a:=qo ha (qI aL he).1;have h2:e.2.2∈canO a:=qo ha (qI aL he).2.2;have r1:=qDp ha hb hB 40 h1 tO;have r2:=qDp ha hb hB 40 h2 tO;have hl: -3≤e.2.1∧e.2.1≤3:=by
  have:=(qI aL he).2.1
  have:=(qB aL).1
  omega
 have out:qF b.2.2 (imgW a b e.1) e.2.1=imgW a b e.2.2:=by
  by_cases dA:exB a e=true
  ·have hw:=hB e (zaK.2 ⟨he,dA⟩);unfold basW at hw;rw[za3,qAd _ _ _ _ r1,zaP,zaR,qS] at hw;split at hw
   ·exact absurd hw (by decide)
   ·rename_i hn
    have mJ:=qEp a8 d6 (invN (wdO a e.2.2)) (qF b.2.2 (imgW a b e.1) e.2.1) (fun y hy=>by
     have:=qBx aL h2 _ (qFu hy)
     omega) (by unfold imgW;omega) (by unfold imgW;rw[hw];exact zak _)
    unfold imgW at mJ⊢;rw[hw,qJq] at mJ;exact mJ.symm
  ·rw[qFC,zan,zam,zam] at dA;rcases dA with dA | dA
   ·have q:=r2;unfold imgW at q;rw[dA,qAd _ _ _ _ r1,qS] at q;split at q
    ·exact absurd q (by decide)
    ·rename_i hn
     show _=qY b.2.2 0 (wdO a e.2.2)
     rw[dA,qAd _ _ _ _ r1,qS,if_neg hn];rfl
   ·have q:=r1;unfold imgW at q;rw[dA,qAd _ _ _ _ r2,qS] at q;split at q
    ·exact absurd q (by decide)
    ·rename_i hn
     have e1:imgW a b e.1=qF b.2.2 (imgW a b e.2.2) (-e.2.1):=by
      show qY b.2.2 0 (wdO a e.1)=_
      rw[dA,qAd _ _ _ _ r2,qS,if_neg hn];rfl
     have mJ:=qAA a8 d6 (v:=imgW a b e.2.2) (x:= -e.2.1) tO (by rw[←e1];exact r1);rw[←e1,zaS] at mJ;exact mJ
 refine⟨out,?_,r1,r2⟩;have mJ:=qAA a8 d6 hl (by rw[out];exact r2);rwa [out] at mJ
theorem qGl (a b:GrD):qAG a b=qJU a b:=by
 unfold qAG qJU;rcases ha:qR a with _ | _
 ·rfl
 rcases hb:qR b with _ | _
 ·rfl
 by_cases hr:a.1=b.1
 ·simp only[hr,decide_true,Bool.true_and];have aL:=qZ ha;have cY:Fol a.2.2:=(qE (by unfold qR at ha;simp only[zaj] at ha;exact ha.1.1)).2;rw[←hr];rw[zbb,zax,zax];unfold basF;rw[if_pos ha];constructor
  ·intro H w hw;obtain⟨e,he,rfl⟩:=zaw.1 hw;have CI:=(zaK.1 he).1;rw[decide_eq_true_eq];have h1:e.1∈canO a:=qo ha (qI aL CI).1;have h2:e.2.2∈canO a:=qo ha (qI aL CI).2.2;have il: ∀(w:List Int) (u:Int),(∀x∈w,x∈qG a.1.toNat)→u∈canO a→0≤qY a.2.2 u w→qY b.2.2 (imgW a b u) w=imgW a b (qY a.2.2 u w):=by
    intro w;induction w with
    | nil=>intro u _ _ _;rfl
    | cons x w ih=>
      intro u hx hu hw;rw[qS] at hw⊢;split at hw
      ·exact absurd hw (by decide)
      ·rename_i hn
       have hs:=zax.1 (H u hu) x (hx x (by simp));unfold stB at hs;rw[decide_eq_false hn,zbg,zaj,decide_eq_true_eq,decide_eq_true_eq] at hs;rw[if_neg tO];conv=>rhs;rw[qS,if_neg hn]
       rw[←hs.2];refine ih _ (fun y hy=>hx y (by simp[hy])) ?_ hw;rcases qO aL u x with e | e
       ·omega
       ·exact qo ha e
   have eX:=qFt aL cY CI h1 h2;have:=il (basW a e) 0 (fun x hx=>by
    unfold basW at hx;rcases zae.1 hx with hx | hx
    ·rcases zae.1 hx with hx | hx
     ·exact qMQ aL h1 x hx
     ·rw[zaf.1 hx];have:=(qI aL CI).2.1
      exact qX.2 (.inl ⟨tO,tO⟩)
    ·have h3:=qX.1 (qMQ aL h2 _ (qFu hx));exact qX.2 tO) (qo ha ⟨zak _,by have:=(qB aL).2.1;omega⟩) (by rw[eX];exact zak _)
   rw[eX] at this;have i0:imgW a b 0=0:=by unfold imgW;rw[qBX aL];rfl
   rwa [i0] at this
  ·intro H u hu;have hB: ∀e∈extL a,qY b.2.2 0 (basW a e)=0:=fun e he=>by simpa using H (basW a e) (zaw.2 ⟨e,he,rfl⟩)
   refine zax.2 fun l hl=> ?_;unfold stB;by_cases hn:qF a.2.2 u l<0
   ·rw[decide_eq_true hn];rfl
   ·rw[decide_eq_false hn,zbg,zaj,decide_eq_true_eq,decide_eq_true_eq];obtain⟨e,he,hm⟩:=qBb (by omega:0≤qF a.2.2 u l);generalize qF a.2.2 u l=c at*;obtain⟨p1,p2,p3,p4⟩:=qNw ha hb hB he;have jY:=let3 aL hl;unfold mt at hm;by_cases hp:0<l
    ·rw[if_pos hp] at hm;split at hm
     ·rename_i q
      injection hm with hm
      rw[←q.1,←q.2,←hm,p1];exact⟨p4,rfl⟩
     ·cases hm
    ·rw[if_neg hp] at hm;by_cases hng:l<0
     ·rw[if_pos hng,IntWalk.wrap64_in (-l) ⟨tO,tO⟩] at hm;split at hm
      ·rename_i q
       injection hm with hm
       have:l= -e.2.1:=tO
       rw[←q.2,←hm,this,p2];exact⟨p3,rfl⟩
      ·cases hm
     ·rw[if_neg hng] at hm;cases hm
 ·simp[hr]
end
def TwS (g:GrD) (ls:List Int) (k:Nat) (o:List Int):Prop:= ∃tw,tw.map (·.1)=o∧wcO g=wcF g.2.2 ls (41-k) k tw
theorem TwS.zero (g:GrD):TwS g (qG g.1.toNat) 0 [0]:=⟨[(0,[])],rfl,rfl⟩
theorem TwS.step {g:GrD} {ls:List Int} {k:Nat} {o:List Int} (h:TwS g ls k o) {u:Int} (hk:o[k]? =some u) (h41:k<41):TwS g ls (k+1) (ls.foldl (qW g.2.2 u) o):=by
 obtain⟨tw,rfl,h2⟩:=h;have ac:k<tw.length:=by have:=(zaD.1 hk).1;simpa using this
 have hu:tw[k].1=u:=by rw[zaN,zau ac] at hk;simpa using hk
 refine⟨ls.foldl (wst g.2.2 tw[k].1 tw[k].2) tw,by rw[qEm,hu],?_⟩;rw[h2,show 41-k=(41-(k+1))+1 by omega,qJw _ _ _ _ _ ac]
theorem TwS.new {g:GrD} (hg:grB g=true) {ls:List Int} {k:Nat} {o:List Int} (h:TwS g ls k o) {u:Int} (hk:o[k]? =some u) (h41:k<41) {m:Nat} (hm:m<ls.length)
  (h0:0≤qF g.2.2 u ls[m]) (hn:hasB ((ls.take m).foldl (qW g.2.2 u) o) (qF g.2.2 u ls[m])=false):wdO g (qF g.2.2 u ls[m])=wdO g u++ [ls[m]]:=by
 obtain⟨tw,rfl,h2⟩:=h;have ac:k<tw.length:=by have:=(zaD.1 hk).1;simpa using this
 have hu:tw[k].1=u:=by rw[zaN,zau ac] at hk;simpa using hk
 rw[show 41-k=(41-(k+1))+1 by omega] at h2;have m1:tw[k]∈wcO g:=by rw[h2];exact zaB (qFG _ _ _ _ _ k _ (zau ac))
 have w1:=qMm hg m1;rw[hu] at w1;rw[qJw _ _ _ _ _ ac,hu] at h2;have uP:=qEm g.2.2 u tw[k].2 (ls.take m) tw;have hst:wst g.2.2 u tw[k].2 ((ls.take m).foldl (wst g.2.2 u tw[k].2) tw) ls[m]=(ls.take m).foldl (wst g.2.2 u tw[k].2) tw++ [(qF g.2.2 u ls[m],tw[k].2++ [ls[m]])]:=by
  rw[wst,if_pos h0,uP,if_neg (by rw[hn];simp)]
 have aB:ls.foldl (wst g.2.2 u tw[k].2) tw=(ls.drop (m+1)).foldl (wst g.2.2 u tw[k].2) ((ls.take (m+1)).foldl (wst g.2.2 u tw[k].2) tw):=by
  rw[←za2,List.take_append_drop]
 have m2:(qF g.2.2 u ls[m],tw[k].2++ [ls[m]])∈wcO g:=by
  rw[h2,aB,qKl _ _ _ _ _ _ hm,hst];refine zaB (qFG _ _ _ _ _ ((ls.take m).foldl (wst g.2.2 u tw[k].2) tw).length _ (qDe _ _ _ _ _ _ _ ?_));rw[List.getElem?_append_right (zad _),Nat.sub_self];rfl
 have w2:=qMm hg m2;rw[w2,w1]
def tE (g:GrD) (y:Int):EdD:=
 if 0<(wdO g y).getLastD 0 then(qF g.2.2 y (-(wdO g y).getLastD 0),(wdO g y).getLastD 0,y) else(y,-(wdO g y).getLastD 0,qF g.2.2 y (-(wdO g y).getLastD 0))
theorem qOD {g:GrD} {v:Int} (hv:v∉canO g):wdO g v= []:=by
 unfold wdO lkW;cases e:(wcO g).find? (fun p=>decide (p.1=v)) with
 | none=>rfl
 | some p=>
   have h1:=List.find?_some e;have h2:=List.mem_of_find?_eq_some e;rw[decide_eq_true_eq] at h1;exact absurd (h1▸qOL h2) hv
theorem qEs (l:List Int) (x:Int):(l++ [x]).getLastD 0=x:=by simp[List.getLastD_eq_getLast?]
theorem qKS {g:GrD} (hg:grB g=true) (hf:Fol g.2.2) {u x y:Int} (hx:x∈qG g.1.toNat) (h0:0≤qF g.2.2 u x) (hy:qF g.2.2 u x=y) (hw:wdO g y=wdO g u++ [x]):tE g y=if 0<x then(u,x,y) else(y,-x,u):=by
 have hb:=qAA hg hf (let3 hg hx) h0;rw[hy] at hb;unfold tE;rw[hw,qEs,hb]
theorem qPC {g:GrD} (hg:grB g=true) (hf:Fol g.2.2) {e:EdD} (he:e∈g.2.2):(∃y∈canO g,y≠0∧e=tE g y)↔exB g e=false:=by
 have hl:=(qI hg he).2.1;rw[za4,Ne,qFC,zan,zam,zam];constructor
 ·rintro⟨y,hy,h0,rfl⟩
  obtain⟨u,hu,x,hx,e1,dN⟩:=qEA hg hy h0;have lJ:=(qc hg).2.1 y hy;have ht:=qKS hg hf hx (by rw[dN];omega) dN e1;rw[ht];split
  ·exact .inl e1
  ·exact .inr (by simp only;rw[zaS];exact e1)
 ·rintro(h | h)
  ·have hy:e.2.2∈canO g:=zal fun hn=>by
    rw[qOD hn] at h;have:=congrArg zaM h
    simp at this
   have h0:e.2.2≠0:=fun h0=>by
    rw[h0,qBX hg] at h;have:=congrArg zaM h
    simp at this
   obtain⟨u,hu,x,hx,e1,dN⟩:=qEA hg hy h0;have lJ:=(qc hg).2.1 _ hy;rw[h] at e1;have pe:=(qFm e1).2;subst pe;have hb:=qAA hg hf (let3 hg hx) (by rw[dN];omega);rw[dN,qAt hg hf he] at hb;refine⟨e.2.2,hy,h0,?_⟩;have ht:=qKS hg hf hx (by rw[dN];omega) dN (by rw[h,hb]);rw[ht,if_pos tO,←hb]
  ·have hy:e.1∈canO g:=zal fun hn=>by
    rw[qOD hn] at h;have:=congrArg zaM h
    simp at this
   have h0:e.1≠0:=fun h0=>by
    rw[h0,qBX hg] at h;have:=congrArg zaM h
    simp at this
   obtain⟨u,hu,x,hx,e1,dN⟩:=qEA hg hy h0;have lJ:=(qc hg).2.1 _ hy;rw[h] at e1;have pe:=(qFm e1).2;subst pe;have hb:=qAA hg hf (let3 hg hx) (by rw[dN];omega);rw[dN,zaS,qt hg hf he] at hb;refine⟨e.1,hy,h0,?_⟩;have ht:=qKS hg hf hx (by rw[dN];omega) dN (by rw[h,hb]);rw[ht,if_neg tO,←hb,zaS]
def TrE (g:GrD) (o:List Int) (T:List EdD):Prop:= ∀e,e∈T↔ ∃y∈o,y≠0∧e=tE g y
theorem TrE.add {g:GrD} {o:List Int} {T T':List EdD} (h:TrE g o T) {y:Int} (hy:y≠0) (hT: ∀e,e∈T'↔e=tE g y∨e∈T):TrE g (o++ [y]) T':=by
 intro e;rw[hT,h e];constructor
 ·rintro(rfl | ⟨z,hz,r⟩)
  ·exact⟨y,by simp,hy,rfl⟩
  ·exact⟨z,by simp[hz],r⟩
 ·rintro⟨z,hz,r⟩
  rcases zae.1 hz with hz | hz
  ·exact .inr ⟨z,hz,r⟩
  ·rw[zaf.1 hz] at r;exact .inl r.2
theorem TrE.ext {g:GrD} (hf:qb g=true) {T:List EdD} (h:TrE g (canO g) T) {e:EdD} (he:e∈g.2.2):(e∈T↔exB g e=false):=by
 obtain⟨hg,bO⟩:=qE hf;rw[h e];exact qPC hg bO he
abbrev FoD:=Int×Int
def fo2 (a b:EdD):List FoD:=
 (if a.2.1=b.2.1∧a.1=b.1 then [(min a.2.2 b.2.2,max a.2.2 b.2.2)] else [])++
 (if a.2.1=b.2.1∧a.2.2=b.2.2 then [(min a.1 b.1,max a.1 b.1)] else [])
def foAt (es:List EdD) (i k:Nat):List FoD:=((es.take k).drop (i+1)).flatMap (fo2 (es.getD i (0,0,0)))
def foUp (es:List EdD):Nat→List FoD
 | 0=> []
 | i+1=>foUp es i++foAt es i es.length
def foL (es:List EdD):List FoD:=foUp es es.length
theorem qEw (es:List EdD) (i:Nat):foAt es i (i+1)= []:=by
 unfold foAt;rw[List.drop_eq_nil_of_le (by rw[zap];omega)];rfl
theorem qIy (es:List EdD) (i k:Nat) (hk:k<es.length) (hi:i<k):foAt es i (k+1)=foAt es i k++fo2 (es.getD i (0,0,0)) es[k]:=by
 unfold foAt;rw[zaH hk,List.drop_append_of_le_length (by rw[zap];omega),List.flatMap_append];simp
theorem qOU (a b:EdD):(fo2 a b).length≤2:=by
 unfold fo2;rw[zag];split<;>split<;>simp
theorem qHR (es:List EdD) (i k:Nat):(foAt es i k).length≤2*es.length:=by
 unfold foAt;have h: ∀L:List EdD,(L.flatMap (fo2 (es.getD i (0,0,0)))).length≤2*L.length:=by
  intro L;induction L with
  | nil=>simp
  | cons a L ih=>
    rw[List.flatMap_cons,zag,za7];have:=qOU (es.getD i (0,0,0)) a
    omega
 have h1:=h ((es.take k).drop (i+1));rw[zat,zap] at h1;omega
theorem qHm (es:List EdD): ∀i,(foUp es i).length≤2*es.length*i
 | 0=>by simp[foUp]
 | i+1=>by
   have h1:=qHm es i;have h2:=qHR es i es.length;unfold foUp;rw[zag,Nat.mul_succ];omega
theorem qNJ {es:List EdD} {i k:Nat} (hi:i<k) (hk:k<es.length) {f:FoD} (h:f∈fo2 es[i] es[k]):f∈foAt es i es.length:=by
 unfold foAt;rw[zaA];refine za8.2 ⟨es[k],?_,by simpa[List.getD,show i<es.length by omega] using h⟩;rw[zaV];exact⟨k-(i+1),by rw[zat];omega,by rw[za5];congr 1;omega⟩
theorem qJi {es:List EdD} {i:Nat} {f:FoD} (h:f∈foAt es i es.length): ∀n,i<n→f∈foUp es n
 | 0,hn=>tO
 | n+1,hn=>by
   unfold foUp;by_cases e:i=n
   ·subst e;exact zae.2 (.inr h)
   ·exact zae.2 (.inl (qJi h n tO))
theorem qIq {es:List EdD} {f:FoD}: ∀n,f∈foUp es n→ ∃i,i<n∧f∈foAt es i es.length
 | 0,h=>by cases h
 | n+1,h=>by
   unfold foUp at h;rcases zae.1 h with h | h
   ·obtain⟨i,hi,hf⟩:=qIq n h;exact⟨i,tO,hf⟩
   ·exact⟨n,tO,h⟩
theorem qKa {es:List EdD} {f:FoD} (h:f∈foL es): ∃i k,∃(hi:i<k) (hk:k<es.length),f∈fo2 (es[i]'tO) es[k]:=by
 obtain⟨i,hi,hf⟩:=qIq _ h;unfold foAt at hf;rw[zaA] at hf;obtain⟨b,hb,hf⟩:=za8.1 hf;obtain⟨j,hj,rfl⟩:=zaV.1 hb;rw[zat] at hj;rw[za5] at hf;refine⟨i,i+1+j,tO,tO,?_⟩;simpa[List.getD,hi] using hf
theorem qKn {es:List EdD} (h:foL es= []):Fol es:=by
 refine qOG fun k hk i hi=> ?_;rcases e:qBN es[k] es[i] with _ | _
 ·rfl
 ·rw[qCi] at e;have hm: ∃f,f∈fo2 es[i] es[k]:=by
   unfold qBN at e;simp only[zaj,zaQ,beq_iff_eq] at e;unfold fo2;rcases e.2 with q | q
   ·exact⟨_,zae.2 (.inl (by rw[if_pos ⟨e.1,q⟩];exact zaf.2 rfl))⟩
   ·exact⟨_,zae.2 (.inr (by rw[if_pos ⟨e.1,q⟩];exact zaf.2 rfl))⟩
  obtain⟨f,hf⟩:=hm;have:=qJi (qNJ hi hk hf) es.length tO
  rw[show foUp es es.length= [] from h] at this;cases this
theorem qHH {g:GrD} (h:grB g=true):Srt cmpE g.2.2:=(qDl h).1
theorem qHC {g:GrD} (h:grB g=true) {f:FoD} (hf:f∈foL g.2.2):0≤f.1∧f.1<f.2∧f.2<g.2.1:=by
 obtain⟨i,k,hi,hk,hm⟩:=qKa hf;have ai:g.2.2[i]≠g.2.2[k]:=fun e=>by
  have:=(zaO.1 (qHH h)) i k tO hk hi
  rw[e,qBe.2 rfl] at this;omega
 have e1:=qI h (za9 (show i<g.2.2.length by omega));have e2:=qI h (za9 hk);generalize g.2.2[i]'tO=a at*;generalize g.2.2[k]=b at*;obtain⟨a1,a2,a3⟩:=a;obtain⟨b1,b2,b3⟩:=b;simp only at*
 unfold fo2 at hm;rcases zae.1 hm with hm | hm
 ·split at hm
  ·rename_i q
   simp only at q
   have:a3≠b3:=fun e=>ai (by rw[q.1,q.2,e])
   rw[zaf.1 hm];simp only
   omega
  ·cases hm
 ·split at hm
  ·rename_i q
   simp only at q
   have:a1≠b1:=fun e=>ai (by rw[q.1,q.2,e])
   rw[zaf.1 hm];simp only
   omega
  ·cases hm
def plF (f:FoD) (v:Int):Int:=if v=f.2 then f.1 else if f.2<v then v-1 else v
def plE (f:FoD) (e:EdD):EdD:=(plF f e.1,e.2.1,plF f e.2.2)
def merG (g:GrD) (f:FoD):GrD:=(g.1,g.2.1-1,srt cmpE (g.2.2.map (plE f)))
theorem qCa {f:FoD} {n v:Int} (hf:0≤f.1∧f.1<f.2∧f.2<n) (hv:0≤v∧v<n):0≤plF f v∧plF f v<n-1:=by
 unfold plF;split
 ·omega
 ·split<;>omega
theorem qHt {g:GrD} {f:FoD} (hg:grB g=true) (hf:0≤f.1∧f.1<f.2∧f.2<g.2.1):grB (merG g f)=true:=by
 obtain⟨h1,h2,h3,_⟩:=qB hg;have gF:=qAu qAD (g.2.2.map (plE f));refine qFP h1 ⟨by show(1:Int)≤g.2.1-1;omega,by show g.2.1-1≤40;omega⟩ ?_ gF.1 fun e he=> ?_
 ·have a:=qCV (c:=cmpE) (g.2.2.map (plE f));rw[zbe] at a;show(srt cmpE (g.2.2.map (plE f))).length≤120
  omega
 ·obtain⟨d,hd,rfl⟩:=zaw.1 ((gF.2 e).1 he);obtain⟨q1,q2,q3⟩:=qI hg hd;exact⟨qCa hf q1,q2,qCa hf q3⟩
def folF:Nat→GrD→GrD
 | 0,g=>g
 | n+1,g=>match foL g.2.2 with
   | []=>g
   | f::_=>folF n (merG g f)
def folA (g:GrD):GrD:=folF g.2.1.toNat g
theorem qHh {g:GrD} (h:foL g.2.2= []): ∀n,folF n g=g
 | 0=>rfl
 | n+1=>by unfold folF;rw[h]
theorem qIs {g:GrD} {f:FoD} {l:List FoD} (h:foL g.2.2=f::l) (n:Nat):folF (n+1) g=folF n (merG g f):=by
 show(match foL g.2.2 with | []=>g | f::_=>folF n (merG g f))=_
 rw[h]
theorem qLb: ∀(n:Nat) (g:GrD),grB g=true→g.2.1≤n→qb (folF n g)=true
 | 0,g,hg,hn=>by have:=(qB hg).2.1;omega
 | n+1,g,hg,hn=>by
   rcases e:foL g.2.2 with _ | ⟨f,l⟩
   ·rw[qHh e];unfold qb;rw[hg,decide_eq_true (qKn e)];rfl
   ·rw[qIs e];have hf:=qHC hg (f:=f) (by rw[e];simp);exact qLb n (merG g f) (qHt hg hf) (by show g.2.1-1≤n;omega)
theorem qHb {g:GrD} (hg:grB g=true):qb (folA g)=true:=qLb _ g hg (by have:=(qB hg).2.1;omega)
theorem qOn {es:List EdD} (h:Fol es) {a b:EdD} (ha:a∈es) (hb:b∈es) (ai:a≠b):qBN a b=false:=by
 unfold Fol at h;rw[zaO] at h;obtain⟨i,hi,rfl⟩:=zaL ha;obtain⟨k,hk,rfl⟩:=zaL hb;rcases Nat.lt_trichotomy i k with q | q | q
 ·exact h i k hi hk q
 ·subst q;exact absurd rfl ai
 ·rw[qCi];exact h k i hk hi q
theorem qOg {g:GrD} (o:List Int) (h:Fol g.2.2):Fol (rnG g o).2.2:=by
 have gF:=qAu qAD (rnL g.2.2 o);show Fol (srt cmpE (rnL g.2.2 o))
 unfold Fol;refine gF.1.imp_of_mem fun {x y} hx hy hxy=> ?_;obtain⟨a,ha,vp⟩:=za0.1 ((gF.2 x).1 hx);obtain⟨b,hb,lY⟩:=za0.1 ((gF.2 y).1 hy);have ai:a≠b:=fun e=>by
  subst e;rw[vp] at lY;injection lY with e
  rw[e,qBe.2 rfl] at hxy;omega
 have hc:=qOn h ha hb ai;unfold rnE at vp lY;split at vp
 ·rename_i p1
  split at lY
  ·rename_i p2
   injection vp with vp
   injection lY with lY
   subst vp lY;unfold qBN at hc⊢;rw[za4] at hc⊢;intro q;apply hc
   simp only[zaj,zaQ,beq_iff_eq] at q⊢;refine⟨q.1,?_⟩;rcases q.2 with q | q
   ·exact .inl (qGH (o:=o) tO tO)
   ·exact .inr (qGH (o:=o) tO tO)
  ·cases lY
 ·cases vp
theorem qBY {g:GrD} {o:List Int} (h:qb g=true) (ho:OrdN g.2.1 o):qb (rnG g o)=true:=by
 obtain⟨h1,h2⟩:=qE h;unfold qb;rw[qFl h1 ho,decide_eq_true (qOg o h2)];rfl
theorem qDa {g:GrD} {o:List Int} (h:qb g=true) (ho:qAB g.2.1 o):qb (rnG g o)=true:=qBY h ho.toN
theorem qDv: ∀(n:Nat) (g:GrD) (l:List Int),qb g=true→qb (trimF n g l).1=true
 | 0,g,l,h=>h
 | n+1,g,l,h=>by
   unfold trimF;split
   ·exact h
   ·rename_i hv
    have aq:=(qB (qE h).1).2.1;have hr:=qAQ g.2.2 g.2.1.toNat;refine qDv n _ _ (qDa h ?_);have:=qCS (n:=g.2.1.toNat) (x:=qk g.2.2 g.2.1.toNat) tO tO
    rwa [show((g.2.1.toNat:Nat):Int)=g.2.1 by omega] at this
theorem qCW {g:GrD} (h:qb g=true):qb (qBT g).1=true:=qDv _ _ _ h
def qAj (g:GrD):GrD:=canG (qBT (folA g)).1
end Go.Proofs.YtnjpoljbagfdnaaGreat
