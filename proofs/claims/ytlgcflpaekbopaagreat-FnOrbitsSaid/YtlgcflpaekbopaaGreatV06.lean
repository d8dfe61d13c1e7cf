/- Parts of the proof: Rgh, MorE, Cyc, Short, ShortL, Red, Exp, Der, EqnN, WhtP, MorF, AddP, FoldP. -/
import Derived.Test.YtlgcflpaekbopaaGreatV05
import Derived.Test.YtlgcflpaekbopaaGreatV03
import Derived.Test.YtlgcflpaekbopaaGreatV04
import Derived.Deep.RegionHeld3
import Derived.Outline
import Derived.Test.YtlgcflpaekbopaaGreatV01
import Derived.Test.YtlgcflpaekbopaaGreatV02
set_option maxRecDepth 100000
set_option maxHeartbeats 16000000
set_option linter.unusedVariables false
set_option linter.unusedSimpArgs false
namespace Go.Proofs.YtlgcflpaekbopaaGreat
open Go.RowKit
open _root_.List renaming setIfInBounds_toArray→zaa,set_cons_zero→zab,set_cons_succ→zac,mem_append→zal,take_length→zam,all_eq_true→zao,take_succ_eq_append_getElem→zaq,mem_singleton→zar,mem_range→zas,mem_flatMap→zat,getElem_mem→zau,mem_filterMap→zax,length_append→zay,range→zaz,length_take→zaC,getD→zaE,eq_nil_of_length_eq_zero→zaF,getElem_of_mem→zaG,getD_eq_getElem?_getD→zaH,getElem?_eq_some_iff→zaI,pairwise_iff_getElem→zaJ,length_drop→zaK,getElem_cons_zero→zaM,getElem_cons_succ→zaN,mem_of_getElem?→zaO,mem_iff_getElem→zaQ,mem_map→zaS,getElem_drop→zaV,range_succ→zaY,mem_filter→zaZ,mem_cons→za0
open Go.Value renaming slice→zad
open _root_.Nat renaming le_refl→zae,lt_of_lt_of_le→zaf,zero_add→zai,le_of_lt→zak,zero_le→zaB,pow_succ→zaT
open Go.RowKit.Below renaming refl→zag,drew→zaj,heap_alloc→zaD
open Go.Act renaming put→zah
open _root_.Array renaming getD_eq_getD_getElem?→zan,replicate→zaw,getElem?_eq_none→zaA
open _root_.Bool renaming and_eq_true→zap,or_eq_true→zav,eq_iff_iff→zaL,true_and→zaR,eq_false_iff→zaU
open Go.World renaming cell?_of_block→zaP
open _root_.Option renaming getD_some→zaW,bind_some→zaX
def gdB2 (l:List Oper) (L:List Sg) (G:List Nat):Bool:=(zaz l.length).all fun i=>match l[i]? with
 | none=>true
 | some o=>match o.guard with
   | none=> !G.contains i
   | some (j,want)=>qw l l.length i j&&(match (l[j]?).bind (·.dst) with | some _=>true | none=>false)&&(match sgA L j with | .val (.bool b)=>(b==want)== !G.contains i | .val (.tuple _)=>G.contains i | _=>false)
section
variable {P:Program} {I Hs:World→Prop} {D:List Nat} {J:Nat→World→Prop} {l:List Oper} {L:List Sg} {T:List (Option (World→World→Prop))} {w:World} {a:Act} {Q:Exit→Act→World→Prop} {G:List Nat}
theorem qNI (hB:freG l=true) (q9:gdB2 l L G=true) (hGo:GOff L T G) (ak: ∀(i:Nat) (o:Oper),l[i]? =some o→ ∀t,o.dst=some t→t<a.tmps.size)
  (hIT: ∀t,some t∈T→ ∀W W',I W→t W W'→I W') (hHT:ItD I Hs D T 0 T) (hst:Stb I L T (clG l L T)) (h: ∀vs,ObwG G P (JH I Hs l D) l L T vs Q l L 0 a): ∀(fuel:Nat) (listed:Array Bool) (vs:Nat→Value) (W:World),
  ((zaz l.length).filter fun j=> !listed.getD j false).length=fuel→Cl l.toArray listed→I W→((∀d∈D,listed.getD d false=false)→Hs W)→(∀j,j<l.length→(sgA L j).pick (vs j)=vs j)→(∀j,listed.getD j false=true→(sgA L j).R (qAz l j vs) W (vs j))→
  wpAny P .any l.toArray Q fuel listed (actV (fun j=>listed.getD j false) vs l 0 a) W:=by
 have hI: ∀k W W',I W→tnA T k W W'→I W':=fun k W W' hi ht=>by
  unfold tnA at ht;cases e:T.getD k none with
  | none=>rw[e] at ht;rw[show W'=W from ht];exact hi
  | some t=>
    rw[e] at ht;refine hIT t ?_ W W' hi ht;rw[zaH] at e;cases e2:T[k]? with
    | none=>rw[e2] at e;cases e
    | some q=>rw[e2] at e;simp only[zaW] at e;subst e;exact zaO e2
 have hH: ∀k W W',I W→k∉D→Hs W→tnA T k W W'→Hs W':=fun k W W' hi hk hs ht=>by
  unfold tnA at ht;cases e:T.getD k none with
  | none=>rw[e] at ht;rw[show W'=W from ht];exact hs
  | some t=>
    rw[e] at ht;rw[zaH] at e;cases e2:T[k]? with
    | none=>rw[e2] at e;cases e
    | some q=>
      rw[e2] at e;simp only[zaW] at e;subst e;rcases hHT.at k t e2 with h | h
      ·rw[zai] at h;exact absurd h hk
      ·exact h W W' hi hs ht
 have all: ∀(listed:Array Bool) (vs:Nat→Value) (W:World),Cl l.toArray listed→I W→((∀d∈D,listed.getD d false=false)→Hs W)→(∀j,j<l.length→(sgA L j).pick (vs j)=vs j)→(∀j,listed.getD j false=true→(sgA L j).R (qAz l j vs) W (vs j))→(∀j,j<l.length→listed.getD j false=true)→Q .normal (actV (fun j=>listed.getD j false) vs l 0 a) W:=fun listed vs W hc hb hd hp hr hl=>by
  have:=(qJl hp l L 0 a (fun j=>by rw[zai]) (fun j=>by rw[zai];rfl) (h vs)).2 W (qA ⟨hb,fun ok=>hd fun d hd'=>by
   have h1:=zao.1 ok d hd';simp only[zav,beq_iff_eq] at h1;rcases h1 with h1 | h1
   ·rw[zan,zaA (by rw[hc.1,h1];simp)];rfl
   ·have h2:=qDK hB _ _ _ h1;rw[zan,zaA (by rw[hc.1];simp;omega)];rfl⟩) (qA fun j hj=>hr j (hl j hj))
  rwa [qBn (S':=fun _=>true) (vs':=vs) l 0 a fun j hj=>by rw[zai];exact⟨hl j hj,fun _=>rfl⟩]
 have none_ready: ∀(listed:Array Bool),Cl l.toArray listed→Region.ready .any l.toArray listed= []→ ∀j,j<l.length→listed.getD j false=true:=fun listed hc hr j=>by
  induction j using Nat.strongRecOn with
  | _ j ih=>
    intro hj;by_cases q:listed.getD j false=true
    ·exact q
    ·exfalso
     have:j∈Region.ready .any l.toArray listed:=by
      rw[mem_ready];refine⟨by rw[qAc (by rw[hc.1];simpa using hj)];simpa using q,l[j],by simp[hj],fun e he hb=> ?_⟩;have:=((qCZ hB).2 j l[j] (List.getElem?_eq_getElem hj)).1 e he hb
      exact ih e.on this tO
     rw[hr] at this;cases this
 intro fuel;induction fuel with
 | zero=>
   intro listed vs W hf hc hb hd hp hr;have hl: ∀j,j<l.length→listed.getD j false=true:=fun j hj=>by
    have:=List.filter_eq_nil_iff.1 (zaF hf) j (zas.2 hj)
    simpa using this
   refine⟨?_,all listed vs W hc hb hd hp hr hl⟩;cases hq:Region.ready .any l.toArray listed with
   | nil=>rfl
   | cons i r=>
     obtain⟨h1,o,ho,_⟩:=mem_ready.1 (show i∈Region.ready .any l.toArray listed by rw[hq];simp);have hi:i<l.length:=by simpa using (Array.getElem?_eq_some_iff.1 ho).1
     rw[qAc (by rw[hc.1];simpa using hi),hl i hi] at h1;cases h1
 | succ fuel ih=>
   intro listed vs W hf hc hb hd hp hr;refine⟨fun h0=>all listed vs W hc hb hd hp hr (none_ready listed hc h0),fun i hi=> ?_⟩;obtain⟨h1,o,ho,kv⟩:=mem_ready.1 hi;have bi:l[i]? =some o:=by simpa using ho
   have jj:i<l.length:=(zaI.1 bi).1;have jF:i<listed.size:=by rw[hc.1];simpa using jj
   have eo:listed.getD i false=false:=by rw[←qAc jF];exact h1
   obtain⟨_,oI,jY⟩:=(qCZ hB).2 i o bi;have lh:=fun (cs:Array SelectCase) (b:Bool)=>Region.noSelect_spec (qCZ hB).1 i o cs b ho;have te:=(qJl hp l L 0 a (fun j=>by rw[zai]) (fun j=>by rw[zai];rfl) (h vs)).1 i o bi;rw[zai] at te;have iX: ∀j,qw l l.length i j=true→listed.getD j false=true:=fun j hj=>qBX hc l.length i j (fun o2 eG e he hb=>by rw[bi] at eG;injection eG with eG;subst eG;exact kv e he hb) hj;have dy: ∀j,listed.getD j false=true→qw l l.length j i=false:=fun j hj=>by
    cases q:qw l l.length j i with
    | false=>rfl
    | true=>
      have:=qBX hc l.length j i (fun o2 eG e he hb=>hc.2 j o2 (by simpa using eG) hj e he hb) q
      rw[eo] at this;cases this
   have iD:Region.wanted o (yielded l.toArray (actV (fun j=>listed.getD j false) vs l 0 a).tmps)= !G.contains i:=by
    have h1:=zao.1 q9 i (zas.2 jj);rw[bi] at h1;cases hq:o.guard with
    | none=>
      simp only[hq] at h1;rw[qAT hq,h1]
    | some p=>
      obtain⟨j,want⟩:=p;simp only[hq,zap] at h1;obtain⟨⟨h2,h3⟩,h4⟩:=h1;have dW:=iX j h2;cases jL:l[j]? with
      | none=>rw[jL] at h3;cases h3
      | some oj=>
        cases pn:oj.dst with
        | none=>rw[jL] at h3;simp only[zaX,pn] at h3;cases h3
        | some d=>
          have Cf:=hr j dW;have jV:j<l.length:=(zaI.1 jL).1;have hy:yielded l.toArray (actV (fun j=>listed.getD j false) vs l 0 a).tmps j=(match vs j with | .bool b=>some b | _=>none):=by
           have hg:=qLe (S:=fun j=>listed.getD j false) (vs:=vs) (d:=d) l 0 a j oj jL pn (by rw[zai];exact dW) (fun m o2 hm hmj=>((qCZ hB).2 j oj jL).2.1 m o2 hm (fun e=>hmj e.symm) d pn) (ak j oj jL d pn);rw[zai] at hg;unfold yielded;simp only[List.getElem?_toArray,jL,zaX,pn,hg];cases vs j<;>rfl
          cases hsj:sgA L j with
          | pur q=>rw[hsj] at h4;cases h4
          | mem q=>rw[hsj] at h4;cases h4
          | val c=>
            rw[hsj] at h4 Cf;have C9:vs j=c:=Cf;cases c with
            | bool b=>
              unfold Region.wanted;rw[hq];simp only[hy,C9];simp only[beq_iff_eq] at h4;rw[←h4];cases b<;>cases want<;>rfl
            | tuple _=>
              unfold Region.wanted;rw[hq];simp only[hy,C9];simp only at h4
              rw[h4];rfl
            | _=>cases h4
   have tail: ∀v W',tnA T i W W'→(sgA L i).R (qAz l i vs) W' v→wpAny P .any l.toArray Q fuel (listed.setIfInBounds i true) ((actV (fun j=>listed.getD j false) vs l 0 a).put o.dst v) W':=fun v W' hbv hv=>by
    have e:=qIF (S:=fun j=>listed.getD j false) (vs:=vs) (v:=v) l 0 a i o bi (by rw[zai];exact eo) fun j o2 hj dh d hd=>oI j o2 hj dh d hd;rw[zai] at e;rw[e];rw[qBn (S':=fun j=>(listed.setIfInBounds i true).getD j false) (vs':=fun j=>if j=i then v else vs j) l 0 a fun j hj=>⟨by
     rw[zai];by_cases q:j=i
     ·subst q;simp[jF]
     ·rw[decide_eq_false q,Bool.or_false,getD_set_ne false (fun e=>q e.symm)],fun _=>rfl⟩]
    have oF: ∀j,(listed.setIfInBounds i true).getD j false=true→j≠i→listed.getD j false=true:=fun j hj q=>by
     rwa [getD_set_ne false (fun e=>q e.symm)] at hj
    have fQ: ∀j,qw l l.length j i=false→qAz l j (fun m=>if m=i then v else vs m)=qAz l j vs:=fun j hj=>by
     funext m
     unfold qAz;by_cases q:m=i
     ·subst q;rw[if_neg (by simp[hj]),if_neg (by simp[hj])]
     ·simp only[if_neg q]
    have zJ:qw l l.length i i=false:=by
     cases q:qw l l.length i i with
     | false=>rfl
     | true=>have:=qDK hB _ _ _ q;omega
    have so:I W':=hI i W W' hb hbv;refine ih (listed.setIfInBounds i true) _ W' ?_ (hc.set hi) so (fun hd'=> ?_) (fun j hj=> ?_) (fun j hj=> ?_)
    ·have:=qGk jF eo l.length jj
     omega
    ·have sI:i∉D:=fun hm=>by have:=hd' i hm;simp[jF] at this
     exact hH i W W' hb sI (hd fun d nP=>by
      have ai:i≠d:=fun e=>sI (e▸nP);have:=hd' d nP
      rwa [getD_set_ne false ai] at this) hbv
    ·by_cases q:j=i
     ·subst q;simp only[if_true];exact Sg.pick_of _ _ hv
     ·simp only[if_neg q];exact hp j hj
    ·by_cases q:j=i
     ·subst q;simp only[if_true];rw[fQ _ zJ];exact hv
     ·simp only[if_neg q];have dW:=oF j hj q;rw[fQ j (dy j dW)];have jV:j<l.length:=by
       by_cases q:j<l.length
       ·exact q
       ·rw[zan,zaA (by rw[hc.1];simpa using q)] at dW;cases dW
      have bS:=hr j dW;cases hs:sgA L j with
      | val c=>rw[hs] at bS;exact bS
      | pur p=>rw[hs] at bS;exact bS
      | mem p=>
        cases ht:T.getD i none with
        | none=>
          have:W'=W:=by unfold tnA at hbv;rw[ht] at hbv;exact hbv
          rw[this,←hs];exact bS
        | some t=>
          rw[←hs];refine hst.at (j,i) ?_ _ W W' _ hb so hbv bS;unfold clG;refine zat.2 ⟨j,zas.2 jV,zax.2 ⟨i,zas.2 jj,?_⟩⟩;rw[if_pos];simp only[hs,ht,Sg.isMem,Option.isSome_some,dy j dW,Bool.not_false,Bool.and_true,zaR];simpa using q
   unfold wpOp;simp only[ho];cases hGi:G.contains i with
   | true=>
     rw[hGi] at iD;rw[if_neg (by rw[iD];decide)];obtain⟨hu,ht⟩:=hGo.at i hGi;refine tail undef W ?_ ?_
     ·unfold tnA;rw[ht]
     ·rw[hu];rfl
   | false=>
   have pt:=te hGi;have Ba:=pt W (fun c W'=> ∃v,c=(actV (fun j=>decide (j<i)) vs l 0 a).put o.dst v∧(tnA T i W W'∧(sgA L i).R (qAz l i vs) W' v)) (fun e _ _=>e= .outgrown∧False) (qA ⟨hb,fun ok=>hd fun d hd'=>by
    have h1:=zao.1 ok d hd';simp only[zav,beq_iff_eq] at h1;rcases h1 with h1 | h1
    ·rw[h1];exact eo
    ·cases q:listed.getD d false with
     | false=>rfl
     | true=>have:=dy d q;rw[h1] at this;cases this⟩) (qA fun j hj=>hr j (iX j hj)) (qA fun v W' hbv hv=>⟨v,rfl,hbv,hv⟩)
   rw[hGi] at iD;rw[if_pos (by rw[iD];rfl)];refine .inl (qNU ?_ Ba (fun t ht=> ?_) fun v W' ⟨hbv,hv⟩=>tail v W' hbv hv)
   ·refine execOp_congr o (fun cs b e=>lh cs b e) fun x hx=> ?_;cases x with
    | tmp t=>
      refine qGG l 0 a a rfl rfl fun k o' hk hd=> ?_;rw[zai];have ht:t∈o.looksAt l.toArray:=List.mem_append_left _ (zax.2 ⟨.tmp t,by simpa using hx,rfl⟩);rcases jY k o' t hk hd ht with q | q
      ·rw[iX k q,decide_eq_true (qDK hB _ _ _ q)]
      ·have vK:=qDK hB _ _ _ q;rw[decide_eq_false tO];cases jg:listed.getD k false with
       | false=>rfl
       | true=>
         exfalso
         have:=dy k jg
         rw[q] at this;cases this
    | const v=>rfl
    | global g=>rfl
    | func f=>rfl
   ·have: ∀(S:Nat→Bool) (r:List Oper) (k:Nat) (b:Act),(actV S vs r k b).tmps.size=b.tmps.size:=by
     intro S r;induction r with
     | nil=>intros;rfl
     | cons o r ih=>intro k b;unfold actV;rw[ih];split;exact qFl _ _ _;rfl
    rw[this];exact ak i o bi t ht
theorem qAI {id:Nat} (G:List Nat) (L:List Sg) (T:List (Option (World→World→Prop))) (I Hs:World→Prop) (D:List Nat) (X:List (Nat×Nat)) (hm:P.follows .mixedOrders=true) (hB:freG l=true) (q9:gdB2 l L G=true) (hGo:GOff L T G) (hX:clG l L T=X) (ak:(l.all fun o=>match o.dst with | some t=>decide (t<a.tmps.size) | none=>true)=true)
  (hI0:I w.drew) (hH0:Hs w.drew) (hIT:Its I T) (hHT:ItD I Hs D T 0 T) (hst:Stb I L T X)
  (h: ∀vs,ObwG G P (JH I Hs l D) l L T vs Q l L 0 a):(Code.region id l.toArray true).wp P Q a w:=by
 refine wp_region_any hm ?_;subst hX;have hv: ∀j,j<l.length→(sgA L j).pick ((sgA L j).pick undef)=(sgA L j).pick undef:=fun j _=>by cases sgA L j<;>rfl
 have h0: ∀j,(zaw l.toArray.size false).getD j false=false:=fun j=>by
  simp only[zan,Array.getElem?_replicate];split<;>rfl
 have:=qNI (P:=P) (Q:=Q) (G:=G) hB q9 hGo (fun i o ho t ht=>by
  have:=zao.1 ak o (zaO ho)
  rw[ht] at this;simpa using this) hIT.at hHT hst h l.toArray.size (zaw l.toArray.size false) (fun j=>(sgA L j).pick undef) w.drew (by
   have:(zaz l.length).filter (fun j=> !(zaw l.toArray.size false).getD j false)=zaz l.length:=List.filter_eq_self.2 fun j _=>by rw[h0];rfl
   rw[this];simp) ⟨by simp,fun j o _ hj=>by rw[h0] at hj;cases hj⟩ hI0 (fun _=>hH0) hv (fun j hj=>by rw[h0] at hj;cases hj)
 have e:actV (fun j=>(zaw l.toArray.size false).getD j false) (fun j=>(sgA L j).pick undef) l 0 a=a:=by
  have: ∀(r:List Oper) (k:Nat) (b:Act),actV (fun j=>(zaw l.toArray.size false).getD j false) (fun j=>(sgA L j).pick undef) r k b=b:=by
   intro r;induction r with
   | nil=>intros;rfl
   | cons o r ih=>intro k b;unfold actV;rw[h0];exact ih _ _
  exact this l 0 a
 rw[e] at this;exact this
end
def ArgM (w:World) (v:Value) (d:MoD):Prop:= ∃s,v= .agg #[.int .i64 d.1,s]∧I64 d.1∧RdII w s d.2
theorem ArgM.below {w w':World} {v:Value} {d:MoD} (h:ArgM w v d) (hb:Below w.heap.size w w'):ArgM w' v d:=by
 obtain⟨s,e,i,r⟩:=h;exact⟨s,e,i,r.below hb⟩
def morB (m:MoD):Bool:=m.2.all (qY m.1)&&inB m.1 1 3&&decide ((m.2.length:Int)=m.1)
structure MBx (w:World) (p:Nat) (x y:Value):Prop where
 c0:w.cell? ⟨p,0,none⟩=some x
 c1:w.cell? ⟨p,1,none⟩=some y
 fz: ∀j,w.frozen? ⟨p,j,none⟩=false
 lt:p<w.heap.size
theorem MBx.below {w w':World} {p:Nat} {x y:Value} (h:MBx w p x y) (hb:Below w.heap.size w w'):MBx w' p x y:=
 ⟨(hb.cell (p:=⟨p,0,none⟩) h.lt).trans h.c0,(hb.cell (p:=⟨p,1,none⟩) h.lt).trans h.c1,fun j=>(hb.frozen (p:=⟨p,j,none⟩) h.lt).trans (h.fz j),zaf h.lt hb.size⟩
theorem MBx.belowAt {w w':World} {p n:Nat} {x y:Value} (h:MBx w p x y) (hb:Below n w w') (hn:p<n):MBx w' p x y:=
 ⟨(hb.cell (p:=⟨p,0,none⟩) hn).trans h.c0,(hb.cell (p:=⟨p,1,none⟩) hn).trans h.c1,fun j=>(hb.frozen (p:=⟨p,j,none⟩) hn).trans (h.fz j),zaf h.lt hb.size⟩
theorem MBx.new {w W:World} {x y:Value} {t:TypeId} (hW:W=w.alloc (.cells #[x,y] t)):MBx W w.heap.size x y∧Below w.heap.size w W∧W.heap.size=w.heap.size+1:=by
 refine⟨⟨by rw[hW];simp[go_sem],by rw[hW];simp[go_sem],fun j=>by rw[hW];simp[go_sem],by rw[hW];simp⟩,by rw[hW];exact(zag _ _).alloc (zae _) _,by rw[hW];simp⟩
theorem qCs (v u:Value) (L M:List (List Int)) (w:World) (h:RdII w v L) (h':RdII w u M):
  Calls Tryz.prog 55 #[v,u] w fun e w'=>e= .returned (.bool (decide (L=M)))∧Below w.heap.size w w':=by
 have HL:=qA h;have HM:=qA h';obtain⟨A,c,rfl,hc,hm,_⟩:=h.form;obtain⟨A',c',rfl,cH,ch,_⟩:=h'.form;unfold maxLen at hm ch;clear h h';by_cases ai:L.length=M.length
 ·have hd:((L.length:Int) != (M.length:Int))=false:=by simp[ai]
  have bk:=qA ai;clear ai;go_enter Tryz.func55,Tryz.ntmps55
  go_wp2;go_loopw [5] (fun i wr=> ∃k:Nat,k≤L.length∧i= .int .i64 k∧L.take k=M.take k∧Below w.heap.size w wr) (fun i _=>L.length-(intOf i).toNat)
  case atStart=>exact⟨0,zaB _,rfl,by simp,zag _ _⟩
  case round=>
   obtain⟨k,hk,rfl,cP,hb⟩:=hrel;have bN:=qA cP;have HB:=qA hb;have gN:=hb.size;clear cP hb;by_cases ac:k<L.length
   ·have bT:(k:Int)<(L.length:Int):=tO;have an:k<M.length:=by have:=bk.out;omega
    obtain⟨b1,o1,A1,c1,rfl,q1,y1,-,-,r1⟩:=(HL.out.below HB.out).at ac;obtain⟨b2,o2,A2,c2,rfl,q2,y2,-,-,r2⟩:=(HM.out.below HB.out).at an;have R1:=qA r1;have R2:=qA r2;have HX:Hid (decide (L[k]=M[k])=true→L.take (k+1)=M.take (k+1)):=qA fun e=>qAn bN.out ac an (of_decide_eq_true e);have HY:Hid (decide (L[k]=M[k])=false→decide (L=M)=false):=qA fun e=>decide_eq_false fun q=>by subst q;simp at e
    have HE:=qA (fun W (h1:RdI W (.slice A1 L[k].length c1) L[k]) (h2:RdI W (.slice A2 M[k].length c2) M[k])=>qAj _ _ L[k] M[k] W h1.arg h2.arg);have jp:IntKind.i64.wrap ((k:Int)+1)=((k+1:Nat):Int):=by rw[IntKind.wrap_i64];omega
    clear r1 r2 bN bk HL HM;generalize L[k]=x at*;generalize M[k]=y at*;generalize decide (x=y)=b at*;cases b
    all_goals
     go_wp2_with fail
    ·skip;refine qAI [] [.val (.slice (some ⟨b1,o1,none⟩) L.length c), .val (.int .i64 k), .val (.pointer (some ⟨b1,o1+k,none⟩)), .val (.slice A1 x.length c1), .val (.slice (some ⟨b2,o2,none⟩) M.length c'), .val (.int .i64 k), .val (.pointer (some ⟨b2,o2+k,none⟩)), .val (.slice A2 y.length c2), .val (.bool false), .val (.bool true)]
      [none,none,none,none,none,none,none,none,some (fun W W'=>Below W.heap.size W W'),none]
      (fun W=>Below wr.heap.size wr W) (fun _=>True) [] [] tK tK tK
      trivial (by rfl) (by rfl) (zag _ _).drew trivial
      ⟨fun _ _ h t=>h.trans (t.mono h.size),trivial⟩ (qCI _ 0)
      trivial (fun vs=> ?_)
     iterate 3
      refine⟨fun W' _ _ hI hD hK=> ?_,?_⟩
      ·skip;go_simp;exact hK.out _ _ rfl rfl
      simp only[zah,zaa,zab,zac,Sg.pick,Nat.reduceAdd]
     refine⟨fun W' _ _ hI hD hK=> ?_,?_⟩
     ·have z0:=(hI.out.1.cell (p:=⟨b1,o1+k,none⟩) q1).trans y1;go_simp;exact hK.out _ _ rfl rfl
     simp only[zah,zaa,zab,zac,Sg.pick,Nat.reduceAdd]
     iterate 3
      refine⟨fun W' _ _ hI hD hK=> ?_,?_⟩
      ·skip;go_simp;exact hK.out _ _ rfl rfl
      simp only[zah,zaa,zab,zac,Sg.pick,Nat.reduceAdd]
     refine⟨fun W' _ _ hI hD hK=> ?_,?_⟩
     ·have z0:=(hI.out.1.cell (p:=⟨b2,o2+k,none⟩) q2).trans y2;go_simp;exact hK.out _ _ rfl rfl
     simp only[zah,zaa,zab,zac,Sg.pick,Nat.reduceAdd];refine⟨fun W' _ _ hI hD hK=> ?_,?_⟩
     ·skip;go_simp;refine(HE.out _ (R1.out.below hI.out.1) (R2.out.below hI.out.1)).mono ?_;rintro e w' ⟨rfl,nd,rfl⟩;exact hK.out _ _ (qB (zag _ _) _) rfl
     simp only[zah,zaa,zab,zac,Sg.pick,Nat.reduceAdd];refine⟨fun W' _ _ hI hD hK=> ?_,?_⟩
     ·skip;go_simp;exact hK.out _ _ rfl rfl
     simp only[zah,zaa,zab,zac,Sg.pick,Nat.reduceAdd];intro W9 hI9 hD9;have I9:=qA hI9.out.1;clear hI9 hD9;go_wp2;go_ret;exact⟨qC (HY.out (by trivial)).symm,HB.out.trans (I9.out.mono gN)⟩
    ·skip;refine qAI [] [.val (.slice (some ⟨b1,o1,none⟩) L.length c), .val (.int .i64 k), .val (.pointer (some ⟨b1,o1+k,none⟩)), .val (.slice A1 x.length c1), .val (.slice (some ⟨b2,o2,none⟩) M.length c'), .val (.int .i64 k), .val (.pointer (some ⟨b2,o2+k,none⟩)), .val (.slice A2 y.length c2), .val (.bool true), .val (.bool false)]
      [none,none,none,none,none,none,none,none,some (fun W W'=>Below W.heap.size W W'),none]
      (fun W=>Below wr.heap.size wr W) (fun _=>True) [] [] tK tK tK
      trivial (by rfl) (by rfl) (zag _ _).drew trivial
      ⟨fun _ _ h t=>h.trans (t.mono h.size),trivial⟩ (qCI _ 0)
      trivial (fun vs=> ?_)
     iterate 3
      refine⟨fun W' _ _ hI hD hK=> ?_,?_⟩
      ·skip;go_simp;exact hK.out _ _ rfl rfl
      simp only[zah,zaa,zab,zac,Sg.pick,Nat.reduceAdd]
     refine⟨fun W' _ _ hI hD hK=> ?_,?_⟩
     ·have z0:=(hI.out.1.cell (p:=⟨b1,o1+k,none⟩) q1).trans y1;go_simp;exact hK.out _ _ rfl rfl
     simp only[zah,zaa,zab,zac,Sg.pick,Nat.reduceAdd]
     iterate 3
      refine⟨fun W' _ _ hI hD hK=> ?_,?_⟩
      ·skip;go_simp;exact hK.out _ _ rfl rfl
      simp only[zah,zaa,zab,zac,Sg.pick,Nat.reduceAdd]
     refine⟨fun W' _ _ hI hD hK=> ?_,?_⟩
     ·have z0:=(hI.out.1.cell (p:=⟨b2,o2+k,none⟩) q2).trans y2;go_simp;exact hK.out _ _ rfl rfl
     simp only[zah,zaa,zab,zac,Sg.pick,Nat.reduceAdd];refine⟨fun W' _ _ hI hD hK=> ?_,?_⟩
     ·skip;go_simp;refine(HE.out _ (R1.out.below hI.out.1) (R2.out.below hI.out.1)).mono ?_;rintro e w' ⟨rfl,nd,rfl⟩;exact hK.out _ _ (qB (zag _ _) _) rfl
     simp only[zah,zaa,zab,zac,Sg.pick,Nat.reduceAdd];refine⟨fun W' _ _ hI hD hK=> ?_,?_⟩
     ·skip;go_simp;exact hK.out _ _ rfl rfl
     simp only[zah,zaa,zab,zac,Sg.pick,Nat.reduceAdd];intro W9 hI9 hD9;have I9:=qA hI9.out.1;clear hI9 hD9;replace HB:=qA (HB.out.trans (I9.out.mono gN));go_wp2;go_roundw
     case rel=>exact⟨k+1,tO,by go_num,HX.out (by trivial),HB.out⟩
     case measure=>(simp[intOf];omega)
   ·obtain rfl:k=L.length:=tO
    have bT: ¬(L.length:Int)<(L.length:Int):=tO;go_wp2;go_ret;refine⟨qC ?_,HB.out⟩;have h1:=bN.out;rw[zam,bk.out,zam] at h1;simp[h1]
 ·have hd:((L.length:Int) != (M.length:Int))=true:=by simp;omega
  go_enter Tryz.func55,Tryz.ntmps55
  go_wp2;go_ret;exact⟨qC (by symm;rw[decide_eq_false_iff_not];rintro rfl;exact ai rfl),zag _ _⟩
theorem qCw (v u:Value) (d d':MoD) (w:World) (h:ArgM w v d) (h':ArgM w u d'):
  Calls Tryz.prog 9 #[v,u] w fun e w'=>e= .returned (.bool (decide (d=d')))∧Below w.heap.size w w':=by
 obtain⟨s,rfl,-,ha⟩:=h;obtain⟨s',rfl,-,cN⟩:=h';obtain⟨x,L⟩:=d;obtain⟨y,M⟩:=d';have HL:=qA ha;have HM:=qA cN;obtain⟨A,c,rfl,_⟩:=ha.form;obtain⟨A',c',rfl,_⟩:=cN.form;clear ha cN;simp only at HL HM
 rcases e1:(x==y) with _ | _
 ·have F:Hid (decide ((x,L)=(y,M))=false):=qA (by simp at e1;simp[e1]);go_enter Tryz.func9,Tryz.ntmps9
  go_wp2;go_ret;exact⟨qC (by simpa using F.out.symm),(by repeat(first | exact .refl _ _ | (refine BxS ?_ _) | (refine qB ?_ _) | (refine zaj ?_) | (refine BxA ?_ _)))⟩
 ·have F:Hid (decide ((x,L)=(y,M))=decide (L=M)):=qA (by simp at e1;simp[e1]);go_enter Tryz.func9,Tryz.ntmps9
  go_wp2_with fail;have hb:Below w.heap.size w ((w.alloc (.cells #[.int .i64 x, .slice A L.length c] 31)).alloc (.cells #[.int .i64 y, .slice A' M.length c'] 31)):=(by repeat(first | exact .refl _ _ | (refine BxS ?_ _) | (refine qB ?_ _) | (refine zaj ?_) | (refine BxA ?_ _)));have HB:=qA hb;have IL:=hb.size;refine(qCs _ _ L M _ (HL.out.below hb) (HM.out.below hb)).mono ?_
  rintro e w1 ⟨rfl,b1⟩;have B1:=qA (HB.out.trans (b1.mono IL));clear hb b1;generalize decide (L=M)=b at*;go_wp2;go_ret;exact⟨qC F.out.symm,B1.out⟩
def idL (n:Nat):List (List Int):=(zaz n).map fun (i:Nat)=> [(i:Int)+1]
theorem qPF (k:Nat):idL (k+1)=idL k++ [[(k:Int)+1]]:=by simp[idL,zaY]
theorem qNT (k:Nat):(idL k).length=k:=by simp[idL]
theorem qCT (n:Nat) (w:World) (h1:1≤n) (h3:n≤3):
  Calls Tryz.prog 14 #[.int .i64 n] w fun e w'=> ∃s,e= .returned (.tuple #[.agg #[.int .i64 n,s], .bool true])∧OwII w.heap.size w'.heap.size s (idL n) w'∧Below w.heap.size w w':=by
 have bQ:inB (n:Int) 1 3=true:=qP.2 ⟨tO,tO⟩;have cM:=qA (fun W=>qI n 1 3 W);rw[bQ] at cM;clear bQ;go_enter Tryz.func14,Tryz.ntmps14
 go_wp2_with fail;refine(cM.out _).mono ?_
 rintro e w1 ⟨rfl,rfl⟩;go_wp2_with fail;obtain⟨w1,aL⟩: ∃W,W=w.alloc (.cells #[.int .i64 0,zad none 0 0] 31):=⟨_,rfl⟩;rw[←aL];obtain⟨x1,b1,s1⟩:=MBx.new aL;have X1:=qA x1;have IK:=qA b1;have mZ:=qA s1;clear x1 b1 s1 aL;go_loopw [5] (fun i wr=> ∃k:Nat,k≤n∧i= .int .i64 (k+1)∧ ∃s:Value,wr.cell? ⟨w.heap.size+1,0,none⟩=some (.int .i64 n)∧wr.cell? ⟨w.heap.size+1,1,none⟩=some s∧(∀o,wr.frozen? ⟨w.heap.size+1,o,none⟩=false)∧OwII (w.heap.size+2) wr.heap.size s (idL k) wr∧Below (w.heap.size+1) w1 wr∧w.heap.size+1<wr.heap.size)
  (fun i _=>n+1-(intOf i).toNat)
 case atStart=>
  refine⟨0,zaB _,rfl, .slice none 0 0,by simp[go_sem,mZ.out],by simp[go_sem,mZ.out],by simp[go_sem,mZ.out],qBs _ _ _,(zag _ _).alloc (by have:=mZ.out;omega) _,by have:=mZ.out;simp;omega⟩
 case round=>
  obtain⟨k,hk,rfl,s,h0,fT,hf,hs,bC,bn⟩:=hrel;have aH:=qNT k;have aI:=qA bC;have aR:=qA hs;obtain⟨A5,ay,rfl,_⟩:=hs.len;clear hs bC;by_cases ac:k<n
  ·have bT:(k:Int)+1≤(n:Int):=tO;have gM:I64s [(k:Int)+1]:=fun y hy=>by rw[zar.1 hy];exact⟨tO,tO⟩
   have cY:=qA (qPF k);have iT:(idL k).length≤3:=tO;clear aH;generalize idL k=acc at aR cY iT fT;have O1:Hid (OwI (wr.alloc (.cells #[.int .i64 ((k:Int)+1)] 3)) wr.heap.size (.slice (some ⟨wr.heap.size,0,none⟩) 1 1) [(k:Int)+1]):=qA (qW wr [(k:Int)+1] gM (by simp) (zae _));have B1:Hid (Below wr.heap.size wr (wr.alloc (.cells #[.int .i64 ((k:Int)+1)] 3))):=qA ((zag _ _).alloc (zae _) _);go_wp2_with (at_builtin;refine qAV rfl (.tmp 18) (.tmp 21) rfl (w0:=wr) aR.out tO (B1.out.alloc (by simp) _) rfl _ _ _ rfl (O1.out.alloc _) (zae _) (by simp[go_sem]) rfl tO ?_;intro vz wz oz gz;obtain⟨Az,cz,rfl,_⟩:=OwnL.len oz;obtain⟨dY,dE⟩:=qj gz (b:=w.heap.size+1) (by simp;omega) (fun h=>by have:=(aR.out.lt h).1;omega);have cG:=gz.size;simp at cG;have gw:w.heap.size+1<wz.heap.size:=tO;have OZ:=qA oz;have GZ:=qA gz;clear oz gz)
   go_roundw
   case rel=>
    have q0:=(dY 0).trans ((B1.out.cell (p:=⟨w.heap.size+1,0,none⟩) bn).trans h0);have q1:=(dY 1).trans ((B1.out.cell (p:=⟨w.heap.size+1,1,none⟩) bn).trans fT);have qf:=fun o=>(dE o).trans ((B1.out.frozen (p:=⟨w.heap.size+1,o,none⟩) bn).trans (hf o));refine⟨k+1,tO,by go_num, .slice Az (acc.length+1) cz,by simp[go_sem,q0],by simp[go_sem,q1],by simp[go_sem,qf],?_,?_,by simp;omega⟩
    ·rw[cY.out];have h9:=OZ.out;simp only[zay,List.length_singleton] at h9;have h:=h9.keep EI.stable (w':=wz.setCell ⟨w.heap.size+1,1,none⟩ (.slice Az (acc.length+1) cz)) fun b hb _=>by rw[qL _ _ _ b (by show b≠w.heap.size+1;omega)]
     exact h.widen (zae _) (by simp)
    ·exact(((aI.out.trans (B1.out.mono tO)).alloc (by simp;omega) _).grown GZ.out (by simp;omega) (fun j hj=>zak (aR.out.lt hj).1)).setCell (zae _) _
   case measure=>simp[intOf];omega
  ·obtain rfl:k=n:=tO
   have bT: ¬(k:Int)+1≤(k:Int):=tO;have X:=X1.out.belowAt aI.out tO;have e0:=X.c0;have e1:=X.c1;have ef:=X.fz;have aK:=X.lt;have dl:=qA (IK.out.trans (aI.out.mono tO));go_wp2;refine bodyPost_ret (v:= .tuple #[.agg #[.int .i64 k, .slice A5 k ay], .bool true]) (by simp[results,Tryz.results14,go_sem,aK,e0,e1]) rfl ⟨_,rfl,?_,?_⟩
   ·have h0:=aR.out;rw[aH] at h0;have h:OwII (w.heap.size+2) wr.heap.size (.slice A5 k ay) (idL k) ((wr.setCell ⟨w.heap.size,0,none⟩ (.int .i64 k)).setCell ⟨w.heap.size,1,none⟩ (.slice A5 k ay)):=
     h0.keep EI.stable fun b hb _=>by rw[qL _ _ _ b (by show b≠w.heap.size;omega),qL _ _ _ b (by show b≠w.heap.size;omega)]
    exact h.widen tO (by simp)
   ·exact(dl.out.setCell (zae _) _).setCell (zae _) _
theorem qKe {r:Int} {L:List (List Int)} {k:Nat} (h:k<L.length) (h1:(L.take k).all (qY r)=true) (h2:qY r L[k]=true):(L.take (k+1)).all (qY r)=true:=by
 rw[zaq h,List.all_append,h1,zaR];simp[h2]
theorem qNN {r:Int} {L:List (List Int)} {k:Nat} (h:k<L.length) (h2:qY r L[k]=false):L.all (qY r)=false:=by
 rw[zaU];intro q;rw[zao] at q;rw[q _ (zau h)] at h2;cases h2
theorem qCD (v:Value) (d:MoD) (w:World) (h:ArgM w v d) (hl: ∀x∈d.2,x.length≤1073741824):
  Calls Tryz.prog 69 #[v] w fun e w'=>e= .returned (.bool (morB d))∧Below w.heap.size w w':=by
 obtain⟨s,rfl,-,ha⟩:=h;obtain⟨r,L⟩:=d;have HL:=qA ha;obtain⟨A,c,rfl,hc,hm,_⟩:=ha.form;unfold maxLen at hm;have dO:=qA hl;simp only at HL dO
 clear ha hl;go_enter Tryz.func69,Tryz.ntmps69
 go_wp2_with fail;obtain⟨w1,aL⟩: ∃W,W=w.alloc (.cells #[.int .i64 r,zad A L.length c] 31):=⟨_,rfl⟩;rw[←aL];obtain⟨x1,b1,s1⟩:=MBx.new aL;have X:=qA x1;replace HL:=qA (HL.out.below b1);have BW:=qA b1;clear x1 b1 aL;go_loopw [3] (fun i wr=> ∃k:Nat,k≤L.length∧i= .int .i64 k∧(L.take k).all (qY r)=true∧Below w1.heap.size w1 wr) (fun i _=>L.length-(intOf i).toNat)
 case atStart=>exact⟨0,zaB _,rfl,by simp,zag _ _⟩
 case round=>
  obtain⟨k,hk,rfl,az,hb⟩:=hrel;have HA:=qA az;have BB:=qA (BW.out.trans (hb.mono tO));have HB:=qA hb;have gN:=hb.size;replace X:=qA (X.out.below hb);replace HL:=qA (HL.out.below hb);clear az hb;have u0:=X.out.c0;have u1:=X.out.c1;by_cases ac:k<L.length
  ·have bT:(k:Int)<(L.length:Int):=tO;obtain⟨b2,o1,A1,c1,rfl,q1,y1,-,-,r1⟩:=HL.out.at ac;have R1:=qA r1;have HT:=qA (fun h=>qKe (r:=r) ac HA.out h);have HF:=qA (fun h=>qNN (r:=r) ac h);have HW:=qA (fun W (h1:RdI W (.slice A1 L[k].length c1) L[k])=>qc r _ L[k] W h1.arg (dO.out _ (zau ac)));have jp:IntKind.i64.wrap ((k:Int)+1)=((k+1:Nat):Int):=by rw[IntKind.wrap_i64];omega
   clear r1 HA dO;generalize L[k]=x at*;generalize qY r x=b at*;cases b
   all_goals
    go_wp2_with fail
   ·skip;refine qAI [] [.val (.pointer (some ⟨w.heap.size,0,none⟩)), .val (.int .i64 r), .val (.pointer (some ⟨w.heap.size,1,none⟩)), .val (.slice (some ⟨b2,o1,none⟩) L.length c), .val (.int .i64 k), .val (.pointer (some ⟨b2,o1+k,none⟩)), .val (.slice A1 x.length c1), .val (.bool false), .val (.bool true)]
     [none,none,none,none,none,none,none,some (fun W W'=>Below W.heap.size W W'),none]
     (fun W=>Below wr.heap.size wr W) (fun _=>True) [] [] tK tK tK
     trivial (by rfl) (by rfl) (zag _ _).drew trivial
     ⟨fun _ _ h t=>h.trans (t.mono h.size),trivial⟩ (qCI _ 0)
     trivial (fun vs=> ?_)
    refine⟨fun W' _ _ hI hD hK=> ?_,?_⟩
    ·skip;go_simp;exact hK.out _ _ rfl rfl
    simp only[zah,zaa,zab,zac,Sg.pick,Nat.reduceAdd];refine⟨fun W' _ _ hI hD hK=> ?_,?_⟩
    ·have z0:=(X.out.below hI.out.1).c0;have z1:=(X.out.below hI.out.1).c1;go_simp;exact hK.out _ _ rfl rfl
    simp only[zah,zaa,zab,zac,Sg.pick,Nat.reduceAdd];refine⟨fun W' _ _ hI hD hK=> ?_,?_⟩
    ·skip;go_simp;exact hK.out _ _ rfl rfl
    simp only[zah,zaa,zab,zac,Sg.pick,Nat.reduceAdd];refine⟨fun W' _ _ hI hD hK=> ?_,?_⟩
    ·have z0:=(X.out.below hI.out.1).c0;have z1:=(X.out.below hI.out.1).c1;go_simp;exact hK.out _ _ rfl rfl
    simp only[zah,zaa,zab,zac,Sg.pick,Nat.reduceAdd]
    iterate 2
     refine⟨fun W' _ _ hI hD hK=> ?_,?_⟩
     ·skip;go_simp;exact hK.out _ _ rfl rfl
     simp only[zah,zaa,zab,zac,Sg.pick,Nat.reduceAdd]
    refine⟨fun W' _ _ hI hD hK=> ?_,?_⟩
    ·have z0:=(hI.out.1.cell (p:=⟨b2,o1+k,none⟩) q1).trans y1;go_simp;exact hK.out _ _ rfl rfl
    simp only[zah,zaa,zab,zac,Sg.pick,Nat.reduceAdd];refine⟨fun W' _ _ hI hD hK=> ?_,?_⟩
    ·skip;go_simp;refine(HW.out _ (R1.out.below hI.out.1)).mono ?_;rintro e w' ⟨rfl,nd,rfl⟩;exact hK.out _ _ (qB (zag _ _) _) rfl
    simp only[zah,zaa,zab,zac,Sg.pick,Nat.reduceAdd];refine⟨fun W' _ _ hI hD hK=> ?_,?_⟩
    ·skip;go_simp;exact hK.out _ _ rfl rfl
    simp only[zah,zaa,zab,zac,Sg.pick,Nat.reduceAdd];intro W9 hI9 hD9;have I9:=qA hI9.out.1;clear hI9 hD9;go_wp2;go_ret;exact⟨qC (by unfold morB;rw[HF.out (by trivial)];rfl),BB.out.trans (I9.out.mono BB.out.size)⟩
   ·skip;refine qAI [] [.val (.pointer (some ⟨w.heap.size,0,none⟩)), .val (.int .i64 r), .val (.pointer (some ⟨w.heap.size,1,none⟩)), .val (.slice (some ⟨b2,o1,none⟩) L.length c), .val (.int .i64 k), .val (.pointer (some ⟨b2,o1+k,none⟩)), .val (.slice A1 x.length c1), .val (.bool true), .val (.bool false)]
     [none,none,none,none,none,none,none,some (fun W W'=>Below W.heap.size W W'),none]
     (fun W=>Below wr.heap.size wr W) (fun _=>True) [] [] tK tK tK
     trivial (by rfl) (by rfl) (zag _ _).drew trivial
     ⟨fun _ _ h t=>h.trans (t.mono h.size),trivial⟩ (qCI _ 0)
     trivial (fun vs=> ?_)
    refine⟨fun W' _ _ hI hD hK=> ?_,?_⟩
    ·skip;go_simp;exact hK.out _ _ rfl rfl
    simp only[zah,zaa,zab,zac,Sg.pick,Nat.reduceAdd];refine⟨fun W' _ _ hI hD hK=> ?_,?_⟩
    ·have z0:=(X.out.below hI.out.1).c0;have z1:=(X.out.below hI.out.1).c1;go_simp;exact hK.out _ _ rfl rfl
    simp only[zah,zaa,zab,zac,Sg.pick,Nat.reduceAdd];refine⟨fun W' _ _ hI hD hK=> ?_,?_⟩
    ·skip;go_simp;exact hK.out _ _ rfl rfl
    simp only[zah,zaa,zab,zac,Sg.pick,Nat.reduceAdd];refine⟨fun W' _ _ hI hD hK=> ?_,?_⟩
    ·have z0:=(X.out.below hI.out.1).c0;have z1:=(X.out.below hI.out.1).c1;go_simp;exact hK.out _ _ rfl rfl
    simp only[zah,zaa,zab,zac,Sg.pick,Nat.reduceAdd]
    iterate 2
     refine⟨fun W' _ _ hI hD hK=> ?_,?_⟩
     ·skip;go_simp;exact hK.out _ _ rfl rfl
     simp only[zah,zaa,zab,zac,Sg.pick,Nat.reduceAdd]
    refine⟨fun W' _ _ hI hD hK=> ?_,?_⟩
    ·have z0:=(hI.out.1.cell (p:=⟨b2,o1+k,none⟩) q1).trans y1;go_simp;exact hK.out _ _ rfl rfl
    simp only[zah,zaa,zab,zac,Sg.pick,Nat.reduceAdd];refine⟨fun W' _ _ hI hD hK=> ?_,?_⟩
    ·skip;go_simp;refine(HW.out _ (R1.out.below hI.out.1)).mono ?_;rintro e w' ⟨rfl,nd,rfl⟩;exact hK.out _ _ (qB (zag _ _) _) rfl
    simp only[zah,zaa,zab,zac,Sg.pick,Nat.reduceAdd];refine⟨fun W' _ _ hI hD hK=> ?_,?_⟩
    ·skip;go_simp;exact hK.out _ _ rfl rfl
    simp only[zah,zaa,zab,zac,Sg.pick,Nat.reduceAdd];intro W9 hI9 hD9;have I9:=qA hI9.out.1;clear hI9 hD9;replace HB:=qA (HB.out.trans (I9.out.mono gN));go_wp2;go_roundw
    case rel=>exact⟨k+1,tO,by go_num,HT.out (by trivial),HB.out⟩
    case measure=>(simp[intOf];omega)
  ·obtain rfl:k=L.length:=tO
   have bT: ¬(L.length:Int)<(L.length:Int):=tO;have az:=HA.out;rw[zam] at az;have F:Hid (morB (r,L)=(inB r 1 3&&decide ((L.length:Int)=r))):=qA (by unfold morB;rw[az];rfl);have cM:=qA (fun W=>qI r 1 3 W);have mJ:((L.length:Int)==r)=decide ((L.length:Int)=r):=by rw[zaL];simp
   clear az HA;rcases e1:inB r 1 3 with _ | _
   ·rw[e1] at cM F;clear e1 mJ;go_wp2_with fail;refine(cM.out _).mono ?_
    rintro e w2 ⟨rfl,rfl⟩;go_wp2;go_ret;exact⟨qC (by rw[F.out];rfl),BB.out⟩
   ·rw[e1,zaR] at F;rw[e1] at cM;clear e1;rcases e2:((L.length:Int)==r) with _ | _
    all_goals
     rw[←mJ,e2] at F;clear mJ;go_wp2_with fail;refine(cM.out _).mono ?_
     rintro e w2 ⟨rfl,rfl⟩;go_wp2;go_ret;exact⟨qC (by rw[F.out]),BB.out⟩
theorem qEN (v:Value) (d:MoD) (w:World) (h:ArgM w v d) (hl: ∀x∈d.2,x.length≤1073741824):
  Calls Tryz.prog 65 #[v] w fun e w'=>e= .returned (.bool (morB d))∧Below w.heap.size w w':=by
 obtain⟨s,rfl,-,ha⟩:=h;obtain⟨r,L⟩:=d;have HL:=qA ha;obtain⟨A,c,rfl,hc,hm,_⟩:=ha.form;unfold maxLen at hm;have dO:=qA hl;simp only at HL dO
 clear ha hl;have cM:=qA (fun W=>qX r 1 3 W);have mJ:((L.length:Int) != r)= !decide ((L.length:Int)=r):=by rw[zaL];simp
 rcases e1:inB r 1 3 with _ | _
 ·rw[e1] at cM;have F:Hid (morB (r,L)=false):=qA (by unfold morB;simp[e1]);clear e1 mJ;go_enter Tryz.func65,Tryz.ntmps65
  go_wp2_with fail;refine(cM.out _).mono ?_
  rintro e w2 ⟨rfl,rfl⟩;go_wp2;go_ret;exact⟨qC F.out.symm,(by repeat(first | exact .refl _ _ | (refine BxS ?_ _) | (refine qB ?_ _) | (refine zaj ?_) | (refine BxA ?_ _)))⟩
 rw[e1] at cM;rcases e2:((L.length:Int) != r) with _ | _
 ·have F:Hid (morB (r,L)=L.all (qY r)):=qA (by
   have:decide ((L.length:Int)=r)=true:=by rw[mJ] at e2;simpa using e2
   unfold morB;simp[e1,this])
  clear e1 mJ;go_enter Tryz.func65,Tryz.ntmps65
  go_wp2_with fail;refine(cM.out _).mono ?_
  rintro e w2 ⟨rfl,rfl⟩;clear cM;go_wp2_with fail;obtain⟨w1,aL⟩: ∃W,W=w.alloc (.cells #[.int .i64 r,zad A L.length c] 31):=⟨_,rfl⟩;rw[←aL];obtain⟨x1,b1,s1⟩:=MBx.new aL;have X:=qA x1;replace HL:=qA (HL.out.below b1);have BW:=qA b1;clear x1 b1 aL e2;go_loopw [20] (fun i wr=> ∃k:Nat,k≤L.length∧i= .int .i64 k∧(L.take k).all (qY r)=true∧Below w1.heap.size w1 wr) (fun i _=>L.length-(intOf i).toNat)
  case atStart=>exact⟨0,zaB _,rfl,by simp,zag _ _⟩
  case round=>
   obtain⟨k,hk,rfl,az,hb⟩:=hrel;have HA:=qA az;have BB:=qA (BW.out.trans (hb.mono tO));have HB:=qA hb;have gN:=hb.size;replace X:=qA (X.out.below hb);replace HL:=qA (HL.out.below hb);clear az hb;have u0:=X.out.c0;have u1:=X.out.c1;by_cases ac:k<L.length
   ·have bT:(k:Int)<(L.length:Int):=tO;obtain⟨b2,o1,A1,c1,rfl,q1,y1,-,-,r1⟩:=HL.out.at ac;have R1:=qA r1;have HT:=qA (fun h=>qKe (r:=r) ac HA.out h);have HF:=qA (fun h=>qNN (r:=r) ac h);have HW:=qA (fun W (h1:RdI W (.slice A1 L[k].length c1) L[k])=>qz r _ L[k] W h1.arg (dO.out _ (zau ac)));have jp:IntKind.i64.wrap ((k:Int)+1)=((k+1:Nat):Int):=by rw[IntKind.wrap_i64];omega
    clear r1 HA dO;generalize L[k]=x at*;generalize qY r x=b at*;cases b
    ·go_wp2_with fail;refine(HW.out _ R1.out).mono ?_
     rintro e w2 ⟨rfl,rfl⟩;go_wp2;go_ret;exact⟨qC (by rw[F.out,HF.out (by trivial)]),BB.out⟩
    ·go_wp2_with fail;refine(HW.out _ R1.out).mono ?_
     rintro e w2 ⟨rfl,rfl⟩;go_wp2;go_roundw
     case rel=>exact⟨k+1,tO,by go_num,HT.out (by trivial),HB.out⟩
     case measure=>(simp[intOf];omega)
   ·obtain rfl:k=L.length:=tO
    have bT: ¬(L.length:Int)<(L.length:Int):=tO;have az:=HA.out;rw[zam] at az;replace F:Hid (morB (r,L)=true):=qA (by rw[F.out,az]);clear az HA;go_wp2;go_ret;exact⟨qC F.out.symm,BB.out⟩
 ·have F:Hid (morB (r,L)=false):=qA (by
   have:decide ((L.length:Int)=r)=false:=by rw[mJ] at e2;simpa using e2
   unfold morB;simp[this])
  clear e1 mJ;go_enter Tryz.func65,Tryz.ntmps65
  go_wp2_with fail;refine(cM.out _).mono ?_
  rintro e w2 ⟨rfl,rfl⟩;go_wp2;go_ret;exact⟨qC F.out.symm,(by repeat(first | exact .refl _ _ | (refine BxS ?_ _) | (refine qB ?_ _) | (refine zaj ?_) | (refine BxA ?_ _)))⟩
theorem qHM {xs:List Int} {M:Nat} (h:xs.length≤M):(qAL xs).length≤M:=Nat.le_trans (qJI xs) h
theorem qAe (v:Value) (xs:List Int) (w:World) (h:RdI w v xs) (hl:xs.length≤536870912):
  Calls Tryz.prog 26 #[v] w fun e w'=> ∃r,e= .returned r∧OwI w' w.heap.size r (cycF xs)∧Below w.heap.size w w':=by
 have H:=qA h;have aZ:=qHM hl;obtain⟨A,cap,rfl,_⟩:=h.arg;clear h;go_enter Tryz.func26,Tryz.ntmps26
 go_wp2_with fail;refine(qEV _ xs _ H.out hl).mono ?_
 rintro e w1 ⟨r1,s1,rfl,o1,p1,b1⟩;have O1:=qA o1;have B1:=qA b1;have aA:=b1.size;clear o1 b1 p1;go_wp2_with fail;refine(qDE _ _ _ O1.out.rd aZ).mono ?_
 rintro e w2 ⟨r2,rfl,o2,b2⟩;have O2:=qA o2;have B2:=qA b2;clear o2 b2;go_wp2;go_ret;exact⟨_,rfl,O2.out.mono aA,B1.out.trans (B2.out.mono aA)⟩
theorem qBJ (v:Value) (xs:List Int) (w:World) (h:RdI w v xs) (hl:xs.length≤536870912):
  Calls Tryz.prog 73 #[v] w fun e w'=> ∃r,e= .returned r∧OwI w' w.heap.size r (cycF xs)∧Below w.heap.size w w':=by
 have H:=qA h;have aZ:=qHM hl;obtain⟨A,cap,rfl,_⟩:=h.arg;clear h;go_enter Tryz.func73,Tryz.ntmps73
 go_wp2_with fail;refine(qCB _ xs _ H.out hl).mono ?_
 rintro e w1 ⟨r1,s1,rfl,o1,p1,b1⟩;have O1:=qA o1;have B1:=qA b1;have aA:=b1.size;clear o1 b1 p1;go_wp2_with fail;refine(qDA _ _ _ O1.out.rd aZ).mono ?_
 rintro e w2 ⟨r2,rfl,o2,b2⟩;have O2:=qA o2;have B2:=qA b2;clear o2 b2;go_wp2;go_ret;exact⟨_,rfl,O2.out.mono aA,B1.out.trans (B2.out.mono aA)⟩
theorem qDl (v:Value) (xs:List Int) (w:World) (h:RdI w v xs) (hl:xs.length≤536870912):
  Calls Tryz.prog 114 #[v] w fun e w'=>e= .returned (.int .i64 (qAL xs).length)∧Below w.heap.size w w':=by
 have H:=qA h;obtain⟨A,cap,rfl,_⟩:=h.arg;clear h;go_enter Tryz.func114,Tryz.ntmps114
 go_wp2_with fail;refine(qCB _ xs _ H.out hl).mono ?_
 rintro e w1 ⟨r1,s1,rfl,o1,p1,b1⟩;have B1:=qA b1;obtain⟨A1,ah,rfl,_⟩:=OwI.form o1;clear o1 b1 p1;go_wp2;go_ret;exact⟨rfl,B1.out⟩
theorem qEn (r:Int) (d:WhD):(whM r d).2.length≤3∧ ∀b∈(whM r d).2,b.length≤3:=by
 unfold whM;split
 ·rename_i h
  have:=qP.1 (qCi h).1
  exact⟨by rw[qDb];omega,qGa d _⟩
 ·exact⟨by simp,fun b hb=>by cases hb⟩
theorem qNS (r:Int) (d:WhD) (c:List Int):(whX r d c).length≤600:=by
 unfold whX;have h:=qLJ (qEn r d).2 c;have:(c.take 200).length≤200:=by rw[zaC];omega
 omega
theorem qFQ (r:Int) (v u:Value) (d:WhD) (c:List Int) (w:World) (hr:I64 r) (h:qCv w v d) (h':RdI w u c) (hl:d.2.length≤1073741824) (hc:c.length≤200):
  Calls Tryz.prog 75 #[.int .i64 r,v,u] w fun e w'=> ∃s,e= .returned s∧OwI w' w.heap.size s (cycF (whX r d c))∧Below w.heap.size w w':=by
 have H:=qA h;have H':=qA h';obtain⟨s,rfl,hd,ha⟩:=h;obtain⟨L,xs⟩:=d;obtain⟨A,cap,rfl,aj,hm,_⟩:=ha;obtain⟨A',cap',rfl,cV,ch,_⟩:=h'.arg;have HR:=qA hr;clear hd h' hr;have Ix:=qNS r (L,xs) c;have fE:=qEn r (L,xs);have cY:=qA fE;clear fE;go_enter Tryz.func75,Tryz.ntmps75
 go_wp2_with fail;have gi:Below w.heap.size w (w.alloc (.cells #[.int .i64 L,zad A xs.length cap] 26)):=(by repeat(first | exact .refl _ _ | (refine BxS ?_ _) | (refine qB ?_ _) | (refine zaj ?_) | (refine BxA ?_ _)));have cQ:=qA gi;have H0:=qA (H.out.below gi);clear gi;generalize w.alloc (.cells #[.int .i64 L,zad A xs.length cap] 26)=w0 at cQ H0⊢;have aW:=cQ.out.size;refine(qy r _ (L,xs) _ HR.out H0.out hl).mono ?_
 rintro e w1 ⟨s1,rfl,o1,b1⟩;have O1:=qA o1;have B1:=qA (cQ.out.trans (b1.mono aW));obtain⟨A1,c1,rfl,_⟩:=o1.len;clear o1 b1;have aA:=B1.out.size;go_wp2_with fail;have bD:Below w1.heap.size w1 (w1.alloc (.cells #[.int .i64 (whM r (L,xs)).1,zad A1 (whM r (L,xs)).2.length c1] 31)):=(by repeat(first | exact .refl _ _ | (refine BxS ?_ _) | (refine qB ?_ _) | (refine zaj ?_) | (refine BxA ?_ _)));have R1:=qA (O1.out.rd.below bD);have R2:=qA ((H'.out.below B1.out).below bD);have B2:=qA (B1.out.trans (bD.mono aA));clear bD;generalize w1.alloc (.cells #[.int .i64 (whM r (L,xs)).1,zad A1 (whM r (L,xs)).2.length c1] 31)=w2 at R1 R2 B2⊢;have bK:=B2.out.size;refine(qAW _ _ _ c _ R1.out R2.out (by have:=cY.out.1;omega) (fun b hb=>by have:=cY.out.2 b hb;omega) hc).mono ?_
 rintro e w3 ⟨s3,rfl,o3,b3⟩;have O3:Hid (OwI w3 w2.heap.size s3 (whX r (L,xs) c)):=qA o3;have B3:=qA (B2.out.trans (b3.mono bK));obtain⟨A3,c3,rfl,_⟩:=o3.form;clear o3 b3;have dd:=B3.out.size;go_wp2_with fail;refine(qAe _ (whX r (L,xs) c) _ O3.out.rd tO).mono ?_
 rintro e w4 ⟨s4,rfl,o4,b4⟩;have O4:=qA o4;have B4:=qA (B3.out.trans (b4.mono dd));clear o4 b4;go_wp2;go_ret;exact⟨_,rfl,O4.out.mono dd,B4.out⟩
theorem qCQ (r:Int):(qh r).length≤1073741824∧ ∀d∈qh r,d.2.length≤1073741824:=by
 have h:=qMq r;have: ∀ds:List WhD,ds.length≤cntL cW ds∧ ∀d∈ds,d.2.length≤cntL cW ds:=by
  intro ds;induction ds with
  | nil=>exact⟨by simp,fun d hd=>by cases hd⟩
  | cons d ds ih=>
    rw[qMR];have:cW d=d.2.length+1:=rfl
    refine⟨by simp;omega,fun e he=> ?_⟩;rcases za0.1 he with rfl | he
    ·omega
    ·have:=ih.2 e he;omega
 exact⟨by have:=(this (qh r)).1;omega,fun d hd=>by have:=(this (qh r)).2 d hd;omega⟩
def qOw (r:Int) (c:List Int) (lo:Nat) (w':World) (e:Ending):Prop:=
 match qAh r c with
 | some d=> ∃S F m,e= .returned (.tuple #[.agg #[.int .i64 d.1,S],F, .bool true])∧I64 d.1∧OwI w' lo S d.2∧(∀b,S.ownBlock=some b→b<m)∧OwI w' m F (cycF (whX r d c))∧lo≤m
 | none=> ∃F,e= .returned (.tuple #[.agg #[.int .i64 0, .slice none 0 0],F, .bool false])
theorem qKD (r:Int) (u:Value) (c:List Int) (w:World) (hr:I64 r) (h:RdI w u c) (hc:c.length≤200):
  Calls Tryz.prog 74 #[.int .i64 r,u] w fun e w'=>qOw r c w.heap.size w' e∧Below w.heap.size w w':=by
 have H:=qA h;obtain⟨A,cap,rfl,aj,hm,_⟩:=h.arg;have HR:=qA hr;clear h hr;have HN:=qA (qCQ r);go_enter Tryz.func74,Tryz.ntmps74
 go_wp2_with fail;have gi:Below w.heap.size w (w.alloc (.cells #[.int .i64 0,zad none 0 0] 26)):=(by repeat(first | exact .refl _ _ | (refine BxS ?_ _) | (refine qB ?_ _) | (refine zaj ?_) | (refine BxA ?_ _)));have cQ:=qA gi;have H0:=qA (H.out.below gi);have hq: ∀o,(w.alloc (.cells #[.int .i64 0,zad none 0 0] 26)).frozen? ⟨w.heap.size,o,none⟩=false:=fun o=>by simp[go_sem]
 have d5:(w.alloc (.cells #[.int .i64 0,zad none 0 0] 26)).cell? ⟨w.heap.size,0,none⟩=some (.int .i64 0):=by simp[go_sem]
 have dN:(w.alloc (.cells #[.int .i64 0,zad none 0 0] 26)).cell? ⟨w.heap.size,1,none⟩=some (.slice none 0 0):=by simp[go_sem]
 have aS:w.heap.size<(w.alloc (.cells #[.int .i64 0,zad none 0 0] 26)).heap.size:=by simp
 clear gi;generalize w.alloc (.cells #[.int .i64 0,zad none 0 0] 26)=w0 at cQ H0 hq d5 dN aS⊢;refine(qBh r _).mono ?_
 rintro e w1 ⟨lv,rfl,ol,bl⟩;have OL:=qA ol;have eh:=qA (cQ.out.trans (bl.mono (zak aS)));have H1:=qA (H0.out.below bl);have d7: ∀o,w1.frozen? ⟨w.heap.size,o,none⟩=false:=fun o=>(bl.frozen (p:=⟨w.heap.size,o,none⟩) aS).trans (hq o);have gI:w1.cell? ⟨w.heap.size,0,none⟩=some (.int .i64 0):=(bl.cell (p:=⟨w.heap.size,0,none⟩) aS).trans d5;have aC:w1.cell? ⟨w.heap.size,1,none⟩=some (.slice none 0 0):=(bl.cell (p:=⟨w.heap.size,1,none⟩) aS).trans dN;have ao:w.heap.size<w1.heap.size:=zaf aS bl.size;obtain⟨Al,cl,rfl,aZ,gW,_⟩:=ol.len;have Bm:=qA aS;clear ol bl hq d5 dN aS H0 cQ;unfold maxLen at gW;have yt:=HN.out.1;go_wp2_with fail;go_loopw [15] (fun i wr=> ∃k:Nat,k≤(qh r).length∧i= .int .i64 k∧((qh r).drop k).find? (fun d=>decide ((qAL (whX r d c)).length<c.length))=qAh r c∧Below w1.heap.size w1 wr)
  (fun i _=>(qh r).length-(intOf i).toNat)
 case atStart=>exact⟨0,zaB _,rfl,rfl,zag _ _⟩
 case round=>
  obtain⟨k,hk,rfl,fV,aa⟩:=hrel;have HF:=qA fV;have ak:=aa.size;have HB:=qA aa;clear fV;by_cases ac:k<(qh r).length
  ·obtain⟨g,cs,Fe,rfl,vH,fd,hE,gO,ci,_,js,_⟩:=(OL.out.keep EWh.stable (w':=wr) fun b _ hb=>aa.block b hb).focus EWh.stable ac;obtain⟨s0,rfl,a7,sF,rfl⟩:=hE;have e0:=js 0 (by simp);have e1:=js 1 (by simp);simp only[zaM,zaN,Nat.add_zero] at e0 e1;have HS:=qA (qJY r c k ac);have my:=HN.out.2 (qh r)[k] (by simp);have ge:=qA sF;have rT:=qA ci;have nZ:=qA a7;have mE:g<wr.heap.size:=tO;clear js ci a7 aa sF;generalize (qh r)[k]=d at e0 HS my ge nZ;obtain⟨L,xs⟩:=d;obtain⟨A2,c2,rfl,_⟩:=OwI.form ge.out;go_wp2_with fail;have bD:Below wr.heap.size wr (wr.alloc (.cells #[.int .i64 L,zad A2 xs.length c2] 26)):=(by repeat(first | exact .refl _ _ | (refine BxS ?_ _) | (refine qB ?_ _) | (refine zaj ?_) | (refine BxA ?_ _)));have au:=qA (HB.out.trans (bD.mono ak));have AW:Hid (qCv (wr.alloc (.cells #[.int .i64 L,zad A2 xs.length c2] 26)) (.agg #[.int .i64 L, .slice A2 xs.length c2]) (L,xs)):=qA ⟨_,rfl,nZ.out,ge.out.arg.below bD⟩;have dA:(wr.alloc (.cells #[.int .i64 L,zad A2 xs.length c2] 26)).cell? ⟨wr.heap.size,0,none⟩=some (.int .i64 L):=by simp[go_sem]
   have aQ:(wr.alloc (.cells #[.int .i64 L,zad A2 xs.length c2] 26)).cell? ⟨wr.heap.size,1,none⟩=some (.slice A2 xs.length c2):=by simp[go_sem]
   have mf:wr.heap.size<(wr.alloc (.cells #[.int .i64 L,zad A2 xs.length c2] 26)).heap.size:=by simp
   clear bD;generalize wr.alloc (.cells #[.int .i64 L,zad A2 xs.length c2] 26)=w2 at au AW dA aQ mf⊢;have bK:=au.out.size;refine(qAw r _ (L,xs) _ HR.out AW.out my).mono ?_
   rintro e w3 ⟨s3,rfl,o3,b3⟩;have O3:=qA o3;have ax:=qA (au.out.trans (b3.mono bK));have mq:=(b3.cell (p:=⟨wr.heap.size,0,none⟩) mf).trans dA;have jO:=(b3.cell (p:=⟨wr.heap.size,1,none⟩) mf).trans aQ;have wO:=zaf mf b3.size;obtain⟨A3,c3,rfl,_⟩:=o3.len;clear o3 b3 dA aQ AW;have dd:=ax.out.size;go_wp2_with fail;have rX:Below w3.heap.size w3 (w3.alloc (.cells #[.int .i64 (whM r (L,xs)).1,zad A3 (whM r (L,xs)).2.length c3] 31)):=(by repeat(first | exact .refl _ _ | (refine BxS ?_ _) | (refine qB ?_ _) | (refine zaj ?_) | (refine BxA ?_ _)));have eO:=qA (ax.out.trans (rX.mono dd));have R1:=qA (O3.out.rd.below rX);have R2:=qA (H1.out.below eO.out);have rE:=(rX.cell (p:=⟨wr.heap.size,0,none⟩) wO).trans mq;have pw:=(rX.cell (p:=⟨wr.heap.size,1,none⟩) wO).trans jO;have wt:=zaf wO rX.size;clear rX mq jO;generalize w3.alloc (.cells #[.int .i64 (whM r (L,xs)).1,zad A3 (whM r (L,xs)).2.length c3] 31)=w4 at eO R1 R2 rE pw wt⊢;have rZ:=eO.out.size;have cY:=qA (qEn r (L,xs));have Ix:=qNS r (L,xs) c;refine(qCr _ _ _ c _ R1.out R2.out (by have:=cY.out.1;omega) (fun b hb=>by have:=cY.out.2 b hb;omega) hc).mono ?_
   rintro e w5 ⟨s5,rfl,o5,b5⟩;have O5:Hid (OwI w5 w4.heap.size s5 (whX r (L,xs) c)):=qA o5;have aI:=qA (eO.out.trans (b5.mono rZ));have Di:=(b5.cell (p:=⟨wr.heap.size,0,none⟩) wt).trans rE;have lD:=(b5.cell (p:=⟨wr.heap.size,1,none⟩) wt).trans pw;have vI:=zaf wt b5.size;obtain⟨A5,c5,rfl,_⟩:=OwI.form O5.out;clear o5 b5 rE pw R1 R2;have eQ:=aI.out.size;go_wp2_with fail;refine(qDl _ (whX r (L,xs) c) _ O5.out.rd tO).mono ?_
   rintro e w6 ⟨rfl,b6⟩;have bR:=qA (aI.out.trans (b6.mono eQ));have O6:=qA (O5.out.below b6);have zc:=(b6.cell (p:=⟨wr.heap.size,0,none⟩) vI).trans Di;have zT:=(b6.cell (p:=⟨wr.heap.size,1,none⟩) vI).trans lD;have ub:=zaf vI b6.size;have fU:=bR.out.size;clear b6 Di lD vI;rcases et:decide ((qAL (whX r (L,xs) c)).length<c.length) with _ | _
   ·have d9:=HS.out;rw[et] at d9;have pN:Hid (((qh r).drop (k+1)).find? (fun d=>decide ((qAL (whX r d c)).length<c.length))=qAh r c):=qA (by rw[←HF.out,d9];rfl);have yS: ¬(qAL (whX r (L,xs) c)).length<c.length:=by simpa using et
    clear d9 et;go_wp2;go_roundw
    case rel=>exact⟨k+1,tO,by go_num,pN.out,bR.out⟩
    case measure=>simp[intOf];omega
   ·have d9:=HS.out;rw[et] at d9;have pN:Hid (qAh r c=some (L,xs)):=qA (by rw[←HF.out,d9];rfl);have yS:(qAL (whX r (L,xs) c)).length<c.length:=by simpa using et
    clear d9 et;have r0:=(bR.out.cell (p:=⟨w.heap.size,0,none⟩) ao).trans gI;have r1:=(bR.out.cell (p:=⟨w.heap.size,1,none⟩) ao).trans aC;have rf:=fun o=>(bR.out.frozen (p:=⟨w.heap.size,o,none⟩) ao).trans (d7 o);have Ex:=qA (O6.out.rd.drew);have uw:=qA bR.out.drew;have iy:w.heap.size<w6.heap.size:=tO;have fc:wr.heap.size≠w.heap.size:=tO;clear gI aC d7 e0 e1;go_wp2;go_region_held3 (fun w'=>w'.cell? ⟨wr.heap.size,0,none⟩=some (.int .i64 L)∧w'.cell? ⟨wr.heap.size,1,none⟩=some (.slice A2 xs.length c2))
     (first | go_keep | exact⟨q0,q1⟩ | (constructor<;>(rw[zaP (qL _ _ _ _ fc),zaP (qL _ _ _ _ fc)];first | exact q0 | exact q1)))
     ((go_at_call 73;refine(qBJ _ (whX r (L,xs) c) _ Ex.out tO).mono ?_;rintro e w7 ⟨s7,rfl,o7,b7⟩;have O7:=qA o7;have jM:=qA (uw.out.trans (b7.mono uw.out.size));have q0:=(b7.cell (p:=⟨wr.heap.size,0,none⟩) ub).trans zc;have q1:=(b7.cell (p:=⟨wr.heap.size,1,none⟩) ub).trans zT;have q2:=(b7.cell (p:=⟨w.heap.size,0,none⟩) iy).trans r0;have q3:=(b7.cell (p:=⟨w.heap.size,1,none⟩) iy).trans r1;have qf:=(fun o=>(b7.frozen (p:=⟨w.heap.size,o,none⟩) iy).trans (rf o));obtain⟨A7,c7,rfl,_⟩:=OwI.form o7;have zM:=zaf iy b7.size;clear o7 b7))
    have hS:OwI w7 w.heap.size (.slice A2 xs.length c2) xs:=by
     refine OwI.alone ⟨qZ ge.out.1 fun b hb=> ?_,ge.out.2⟩ fun b hb=> ?_
     ·have h1:=rT.out b (by simp[hb]);exact(jM.out.block b h1.2.1).trans (HB.out.block b h1.2.1).symm
     ·have h1:=rT.out b (by simp[hb]);have:=Bm.out
      omega
    have vh: ∀b,(zad A2 xs.length c2).ownBlock=some b→w0.heap.size≤b∧b<w1.heap.size:=fun b hb=>by
     have h1:=rT.out b (by simp[hb]);exact⟨h1.1,h1.2.1⟩
    have lF:=qA hS;have BU:=qA vh;have bP:=qA (eh.out.trans (jM.out.mono (zak ao)));clear hS vh;go_wp2;refine bodyPost_ret (v:= .tuple #[.agg #[.int .i64 L, .slice A2 xs.length c2], .slice A7 (cycF (whX r (L,xs) c)).length c7, .bool true]) (by simp[results,Tryz.results74,go_sem,zM,q2,q3]) rfl ⟨?_,(by repeat(first | exact .refl _ _ | (refine BxS ?_ _) | (refine qB ?_ _) | (refine zaj ?_) | (refine BxA ?_ _) | (refine BxT ?_ (Hid.out bP))))⟩;unfold qOw;rw[pN.out];have bJ: ∀b,(zad A2 xs.length c2).ownBlock=some b→b≠w.heap.size:=fun b hb=>by have:=BU.out b hb;have:=Bm.out;omega
    refine⟨_,_,w6.heap.size,rfl,nZ.out,⟨qZ lF.out.1 fun b hb=> ?_,lF.out.2⟩,fun b hb=> ?_,?_,zak iy⟩
    ·rw[qL _ _ _ b (bJ b hb),qL _ _ _ b (bJ b hb)]
    ·have:=BU.out b hb;omega
    ·exact(OwI.far O7.out (p:=⟨w.heap.size,0,none⟩) iy _).far (p:=⟨w.heap.size,1,none⟩) iy _
  ·obtain rfl:k=(qh r).length:=tO
   have HE:Hid (qAh r c=none):=qA (by rw[←HF.out];simp);obtain⟨gC,lG⟩:=qBM aa;have zG:w.heap.size<wr.heap.size:=tO;have d5:wr.cell? ⟨w.heap.size,0,none⟩=some (.int .i64 0):=by rw[gC _ _ ao];exact gI
   have dN:wr.cell? ⟨w.heap.size,1,none⟩=some (.slice none 0 0):=by rw[gC _ _ ao];exact aC
   have Cc: ∀o,wr.frozen? ⟨w.heap.size,o,none⟩=false:=fun o=>by rw[lG _ _ ao];exact d7 o
   have HW:=qA (eh.out.trans (aa.mono (zak ao)));clear gC lG aa gI aC d7;go_wp2;refine bodyPost_ret (v:= .tuple #[.agg #[.int .i64 0, .slice none 0 0], .slice (some ⟨wr.heap.size,0,none⟩) 0 0, .bool false]) (by simp[results,Tryz.results74,go_sem,zG,d5,dN]) rfl ⟨?_,(by repeat(first | exact .refl _ _ | (refine BxS ?_ _) | (refine qB ?_ _) | (refine zaj ?_) | (refine BxA ?_ _) | (refine BxT ?_ (Hid.out HW))))⟩;unfold qOw;rw[HE.out];exact⟨_,rfl⟩
theorem wh0 (w:World) (base:Nat):OwWh w base (.agg #[.int .i64 0, .slice none 0 0]) (0,[]):=⟨_,rfl,⟨tO,tO⟩,⟨⟨rfl, .inl ⟨rfl,rfl⟩⟩,qS⟩⟩
theorem qBW (r:Int) (v:Value) (xs:List Int) (w:World) (hr:I64 r) (h:RdI w v xs) (hl:xs.length≤1048576):
  Calls Tryz.prog 35 #[.int .i64 r,v] w fun e w'=> ∃t,e= .returned (.tuple #[t, .bool (shF r xs).2])∧OwWh w' w.heap.size t (shF r xs).1∧Below w.heap.size w w':=by
 have H:=qA h;obtain⟨A,cap,rfl,aj,hm,_⟩:=h.arg;have HR:=qA hr;clear h hr;have gi:Below w.heap.size w (w.alloc (.cells #[.int .i64 0,zad none 0 0] 26)):=(by repeat(first | exact .refl _ _ | (refine BxS ?_ _) | (refine qB ?_ _) | (refine zaj ?_) | (refine BxA ?_ _)));have cQ:=qA gi;have H0:=qA (H.out.below gi);have hq: ∀o,(w.alloc (.cells #[.int .i64 0,zad none 0 0] 26)).frozen? ⟨w.heap.size,o,none⟩=false:=fun o=>by simp[go_sem]
 have d5:(w.alloc (.cells #[.int .i64 0,zad none 0 0] 26)).cell? ⟨w.heap.size,0,none⟩=some (.int .i64 0):=by simp[go_sem]
 have dN:(w.alloc (.cells #[.int .i64 0,zad none 0 0] 26)).cell? ⟨w.heap.size,1,none⟩=some (.slice none 0 0):=by simp[go_sem]
 have aS:w.heap.size<(w.alloc (.cells #[.int .i64 0,zad none 0 0] 26)).heap.size:=by simp
 clear gi;rcases ew:qY r xs with _ | _
 ·have F:Hid (shF r xs=((0,[]),false)):=qA (by unfold shF;rw[ew];rfl);go_enter Tryz.func35,Tryz.ntmps35
  go_wp2_with fail;generalize w.alloc (.cells #[.int .i64 0,zad none 0 0] 26)=w0 at cQ H0 hq d5 dN aS⊢;have C:=qc r _ xs _ H0.out.arg tO;rw[ew] at C;refine C.mono ?_;rintro e w' ⟨rfl,n,rfl⟩;clear C;go_wp2;refine bodyPost_ret (v:= .tuple #[.agg #[.int .i64 0, .slice none 0 0], .bool false]) (by simp[results,Tryz.results35,go_sem,aS,d5,dN]) rfl ⟨_,by rw[F.out],by rw[F.out];exact wh0 _ _,(by repeat(first | exact .refl _ _ | (refine BxS ?_ _) | (refine qB ?_ _) | (refine zaj ?_) | (refine BxA ?_ _) | (refine BxT ?_ (Hid.out cQ))))⟩
 ·have aZ:(cycF xs).length≤24:=Nat.le_trans (qFp xs) (qCW ew);have HN:=qA (qCQ r);have Ch:Hid (shF r xs=match qAh r (cycF xs) with | some d=>(d,true) | none=>((0,[]),false)):=qA (by unfold shF;rw[ew,if_pos rfl];cases qAh r (cycF xs)<;>rfl);go_enter Tryz.func35,Tryz.ntmps35
  go_wp2_with fail;generalize w.alloc (.cells #[.int .i64 0,zad none 0 0] 26)=w0 at cQ H0 hq d5 dN aS⊢;have C:=qc r _ xs _ H0.out.arg tO;rw[ew] at C;refine C.mono ?_;rintro e w' ⟨rfl,n,rfl⟩;clear C ew;go_wp2_with fail;refine(qAe _ xs _ (H0.out.drewN n) tO).mono ?_
  rintro e w1 ⟨s1,rfl,o1,b1⟩;have iS:w.heap.size<(w0.drewN n).heap.size:=aS;have O1:=qA o1;have eh:=qA ((qB cQ.out n).trans (b1.mono (zak iS)));have d7:=fun o=>(b1.frozen (p:=⟨w.heap.size,o,none⟩) iS).trans (hq o);have gI:=(b1.cell (p:=⟨w.heap.size,0,none⟩) iS).trans d5;have aC:=(b1.cell (p:=⟨w.heap.size,1,none⟩) iS).trans dN;have ao:w.heap.size<w1.heap.size:=zaf iS b1.size;obtain⟨A1,c1,rfl,_⟩:=OwI.form o1;clear o1 b1 hq d5 dN H0 cQ aS iS;go_wp2_with fail;refine(qAR r _).mono ?_
  rintro e w2 ⟨lv,rfl,ol,b2⟩;have OL:=qA ol;have au:=qA (eh.out.trans (b2.mono (zak ao)));have HC:=qA (O1.out.below b2);have dq:=fun o=>(b2.frozen (p:=⟨w.heap.size,o,none⟩) ao).trans (d7 o);have nA:=(b2.cell (p:=⟨w.heap.size,0,none⟩) ao).trans gI;have vl:=(b2.cell (p:=⟨w.heap.size,1,none⟩) ao).trans aC;have aP:w.heap.size<w2.heap.size:=zaf ao b2.size;obtain⟨Al,cl,rfl,ev,gW,_⟩:=ol.len;clear b2 d7 gI aC ol;unfold maxLen at gW;have yt:=HN.out.1;generalize kQ:cycF xs=c at*;clear kQ;go_wp2_with fail;go_loopw [8] (fun i wr=> ∃k:Nat,k≤(qh r).length∧i= .int .i64 k∧((qh r).drop k).find? (fun d=>decide ((qAL (whX r d c)).length<c.length))=qAh r c∧Below w2.heap.size w2 wr)
   (fun i _=>(qh r).length-(intOf i).toNat)
  case atStart=>exact⟨0,zaB _,rfl,rfl,zag _ _⟩
  case round=>
   obtain⟨k,hk,rfl,fV,aa⟩:=hrel;have HF:=qA fV;have ak:=aa.size;have HB:=qA aa;clear fV;by_cases ac:k<(qh r).length
   ·obtain⟨g,cs,Fe,rfl,vH,fd,hE,gO,ci,_,js,_⟩:=(OL.out.keep EWh.stable (w':=wr) fun b _ hb=>aa.block b hb).focus EWh.stable ac;obtain⟨s0,rfl,a7,sF,rfl⟩:=hE;have e0:=js 0 (by simp);have e1:=js 1 (by simp);simp only[zaM,zaN,Nat.add_zero] at e0 e1;have HS:=qA (qJY r c k ac);have my:=HN.out.2 (qh r)[k] (by simp);have ge:=qA sF;have rT:=qA ci;have nZ:=qA a7;have mE:g<wr.heap.size:=tO;clear js ci a7 aa sF;generalize (qh r)[k]=d at e0 HS my ge nZ;obtain⟨L,ys⟩:=d;obtain⟨A2,c2,rfl,_⟩:=OwI.form ge.out;go_wp2_with fail;refine(qFQ r _ _ (L,ys) c _ HR.out ⟨_,rfl,nZ.out,ge.out.arg⟩ (HC.out.rd.below HB.out) my tO).mono ?_
    rintro e w3 ⟨s3,rfl,o3,b3⟩;have uU:=qGp (whX r (L,ys) c);obtain⟨A3,c3,rfl,_⟩:=OwI.form o3;rw[uU];have ax:=qA (HB.out.trans (b3.mono ak));have g0:=(b3.cell (p:=⟨g,k*2,none⟩) mE).trans e0;have g1:=(b3.cell (p:=⟨g,k*2+1,none⟩) mE).trans e1;have Hj:=zaf mE b3.size;clear o3 b3 uU e0 e1;have dd:=ax.out.size;rcases et:decide ((qAL (whX r (L,ys) c)).length<c.length) with _ | _
    ·have d9:=HS.out;rw[et] at d9;have pN:Hid (((qh r).drop (k+1)).find? (fun d=>decide ((qAL (whX r d c)).length<c.length))=qAh r c):=qA (by rw[←HF.out,d9];rfl);have yS: ¬(qAL (whX r (L,ys) c)).length<c.length:=by simpa using et
     clear d9 et;go_wp2;go_roundw
     case rel=>exact⟨k+1,tO,by go_num,pN.out,ax.out⟩
     case measure=>simp[intOf];omega
    ·have d9:=HS.out;rw[et] at d9;have pN:Hid (qAh r c=some (L,ys)):=qA (by rw[←HF.out,d9];rfl);have yS:(qAL (whX r (L,ys) c)).length<c.length:=by simpa using et
     clear d9 et;have r0:=(ax.out.cell (p:=⟨w.heap.size,0,none⟩) aP).trans nA;have r1:=(ax.out.cell (p:=⟨w.heap.size,1,none⟩) aP).trans vl;have rf:=fun o=>(ax.out.frozen (p:=⟨w.heap.size,o,none⟩) aP).trans (dq o);have mC:w.heap.size<w3.heap.size:=tO;have F:Hid (shF r xs=((L,ys),true)):=qA (by rw[Ch.out,pN.out]);have bP:=qA (au.out.trans (ax.out.mono (zak aP)));have hS:OwI w3 w1.heap.size (.slice A2 ys.length c2) ys:=by
      refine OwI.alone ⟨qZ ge.out.1 fun b hb=> ?_,ge.out.2⟩ fun b hb=> ?_
      ·have h1:=rT.out b (by simp[hb]);exact(ax.out.block b h1.2.1).trans (HB.out.block b h1.2.1).symm
      ·exact(rT.out b (by simp[hb])).1
     have lF:=qA hS;clear hS nA vl dq;go_wp2;refine bodyPost_ret (v:= .tuple #[.agg #[.int .i64 L, .slice A2 ys.length c2], .bool true]) (by simp[results,Tryz.results35,go_sem,mC,r0,r1]) rfl ⟨_,by rw[F.out],?_,(by repeat(first | exact .refl _ _ | (refine BxS ?_ _) | (refine qB ?_ _) | (refine zaj ?_) | (refine BxA ?_ _) | (refine BxT ?_ (Hid.out bP))))⟩;rw[F.out];exact⟨_,rfl,nZ.out,((OwI.far lF.out (p:=⟨w.heap.size,0,none⟩) ao _).far (p:=⟨w.heap.size,1,none⟩) ao _).mono (zak ao)⟩
   ·obtain rfl:k=(qh r).length:=tO
    have HE:Hid (qAh r c=none):=qA (by rw[←HF.out];simp);have F:Hid (shF r xs=((0,[]),false)):=qA (by rw[Ch.out,HE.out]);have zG:w.heap.size<wr.heap.size:=tO;have r0:=(aa.cell (p:=⟨w.heap.size,0,none⟩) aP).trans nA;have r1:=(aa.cell (p:=⟨w.heap.size,1,none⟩) aP).trans vl;have rf:=fun o=>(aa.frozen (p:=⟨w.heap.size,o,none⟩) aP).trans (dq o);have HW:=qA (au.out.trans (aa.mono (zak aP)));clear aa nA vl dq;go_wp2;refine bodyPost_ret (v:= .tuple #[.agg #[.int .i64 0, .slice none 0 0], .bool false]) (by simp[results,Tryz.results35,go_sem,zG,r0,r1]) rfl ⟨_,by rw[F.out],by rw[F.out];exact wh0 _ _,(by repeat(first | exact .refl _ _ | (refine BxS ?_ _) | (refine qB ?_ _) | (refine zaj ?_) | (refine BxA ?_ _) | (refine BxT ?_ (Hid.out HW))))⟩
theorem qDG.len {r:Int} {c:List Int} (h:qDG r c):c.length≤24:=h.2.2.1
theorem qHT {r:Int} {n:Nat} {c:List Int} {l:List WhD} (h:qAh r c=none):qDi r n c l=(c,l):=by
 cases n with
 | zero=>rfl
 | succ n=>simp[qDi,h]
theorem qHO {r:Int} {n:Nat} {c:List Int} {l:List WhD} {d:WhD} (h:qAh r c=some d):qDi r (n+1) c l=qDi r n (cycF (whX r d c)) (l++ [d]):=by simp[qDi,h]
theorem qOs {r:Int} {c:List Int} (h:qDG r c) {d:WhD} (hs:qAh r c=some d):shF r c=(d,true):=by rw[qKz h,hs]
theorem qOG {r:Int} {c:List Int} (h:qDG r c) (hs:qAh r c=none):shF r c=((0,[]),false):=by rw[qKz h,hs]
theorem qLF (w:World) {lo:Nat} (h:lo≤w.heap.size):OWhS lo (w.alloc (.cells #[] 26)).heap.size (.slice (some ⟨w.heap.size,0,none⟩) 0 0) [] (w.alloc (.cells #[] 26)):=by
 have:=qEd w h
 simpa using this
theorem qBl (r:Int) (v:Value) (xs:List Int) (w:World) (hr:I64 r) (h:RdI w v xs) (hl:xs.length≤1048576):
  Calls Tryz.prog 21 #[.int .i64 r,v] w fun e w'=> ∃s t,e= .returned (.tuple #[s,t])∧OwI w' w.heap.size s (redF r xs).1∧OWhS w.heap.size w'.heap.size t (redF r xs).2 w'∧Below w.heap.size w w':=by
 have H:=qA h;obtain⟨A,cap,rfl,aj,hm,_⟩:=h.arg;have HR:=qA hr;clear h hr;have ks:Hid (OWhS w.heap.size (w.alloc (.cells #[] 26)).heap.size (.slice (some ⟨w.heap.size,0,none⟩) 0 0) [] (w.alloc (.cells #[] 26))):=qA (qLF w (zae _));have cQ:Hid (Below w.heap.size w (w.alloc (.cells #[] 26))):=qA ((zag _ _).alloc (zae _) _);have H0:=qA (H.out.below cQ.out);rcases ew:qY r xs with _ | _
 ·have F:Hid (redF r xs=([],[])):=qA (by unfold redF;rw[ew];rfl);go_enter Tryz.func21,Tryz.ntmps21
  go_wp2_with fail;generalize w.alloc (.cells #[] 26)=w0 at ks cQ H0⊢;have C:=qz r _ xs _ H0.out.arg tO;rw[ew] at C;refine C.mono ?_;rintro e w' ⟨rfl,rfl⟩;clear C;have aW:=cQ.out.size;go_wp2;go_ret2
  rw[F.out];exact⟨_,_,rfl,qW _ [] qS (by simp) aW,(ks.out.keep EWh.stable fun b _ hb=>zaD _ _ b hb).widen (zae _) (by simp),cQ.out.alloc aW _⟩
 ·have F:Hid (redF r xs=qDi r 24 (cycF xs) []):=qA (by unfold redF;rw[ew];rfl);have HG:=qA (qGL ew);go_enter Tryz.func21,Tryz.ntmps21
  go_wp2_with fail;generalize w.alloc (.cells #[] 26)=w0 at ks cQ H0⊢;have C:=qz r _ xs _ H0.out.arg tO;rw[ew] at C;refine C.mono ?_;rintro e w' ⟨rfl,rfl⟩;clear C;have aW:=cQ.out.size;go_wp2_with fail;refine(qBJ _ xs _ H0.out tO).mono ?_
  rintro e w1 ⟨s1,rfl,o1,b1⟩;have O1:=qA (o1.mono aW);have eh:=qA (cQ.out.trans (b1.mono aW));have fK:=qA ((ks.out.keep EWh.stable fun b _ hb=>b1.block b hb).widen (zae _) b1.size);clear o1 b1;go_wp2_with fail;go_loopw [6,7] (fun l f wr=> ∃(c:List Int) (acc:List WhD),qLy l=acc.length∧acc.length≤24∧qDG r c∧qDi r (24-acc.length) c acc=redF r xs∧OwI wr w.heap.size f c∧OWhS w.heap.size wr.heap.size l acc wr∧Below w.heap.size w wr)
   (fun l _ _=>24-qLy l)
  case atStart=>exact⟨cycF xs,[],rfl,by simp,HG.out,F.out.symm,O1.out,fK.out,eh.out⟩
  case round=>
   obtain⟨c,acc,lH,du,oQ,bF,hf,eE,aa⟩:=hrel;have gA:=qA oQ;have aD:=qA bF;have lS:=qA hf;have cd:=qA eE;have HB:=qA aa;have aZ:=oQ.len;have ak:=aa.size;obtain⟨A2,c2,rfl,_⟩:=hf.form;obtain⟨A3,c3,rfl,_⟩:=eE.len;clear lH oQ bF hf eE aa fK O1 ks;by_cases ac:acc.length<24
   ·go_wp2_with fail;refine(qKD r _ c _ HR.out lS.out.rd tO).mono ?_
    rintro e w2 ⟨fL,b2⟩;have B2:=qA b2;have au:=qA (HB.out.trans (b2.mono ak));have bK:=b2.size;clear b2;unfold qOw at fL;rcases eX:qAh r c with _ | d
    ·rw[eX] at fL;obtain⟨F1,rfl⟩:=fL;have HE:Hid (redF r xs=(c,acc)):=qA (by rw[←aD.out,qHT eX]);clear eX;go_wp2;go_ret2
     rw[HE.out];exact⟨_,_,rfl,(lS.out.below B2.out).alloc _,(cd.out.keep EWh.stable fun b _ hb=>(zaD _ _ b tO).trans (B2.out.block b hb)).widen (zae _) (by simp;omega),au.out.alloc tO _⟩
    ·rw[eX] at fL;obtain⟨S,F1,m,rfl,hi,hS,Gi,hF,ri⟩:=fL;obtain⟨L,ys⟩:=d;have HE:Hid (qDi r (24-(acc.length+1)) (cycF (whX r (L,ys) c)) (acc++ [(L,ys)])=redF r xs):=qA (by
      rw[←aD.out,show 24-acc.length=(24-(acc.length+1))+1 by omega,qHO eX])
     have pf:=qA (qFC gA.out eX);have HI:=qA hi;have HS:=qA hS;have yC:=qA hF;have eM:=qA (hF.mono ri);obtain⟨A5,c5,rfl,_⟩:=OwI.form hS;obtain⟨A6,c6,rfl,_⟩:=OwI.form hF;obtain⟨i0,a7,aS,ao,aP⟩:=info_parts qHg;have wy:=HI.out.1;have zY:=HI.out.2;have gE:=qA (fun b (hb:(zad A5 ys.length c5).ownBlock=some b)=>HS.out.1.lt b hb);clear eX hi hS Gi hF ri;have yY:=qA (fun b (hb:(zad A6 (cycF (whX r (L,ys) c)).length c6).ownBlock=some b)=>(eM.out.1.lt b hb).1);have mk:=qA (fun b (hb:(zad A3 acc.length c3).ownBlock=some b)=>(cd.out.lt hb).2);go_wp2_with (at_builtin;refine qEr EWh.stable rfl (.tmp 33) (.tmp 35) rfl Tryz.underlying47 a7 aS ao aP rfl (by decide) (by decide) (w0:=wr) cd.out ak ((B2.out.alloc bK _).alloc (by simp;omega) _) rfl _ [.int .i64 L, .slice A5 ys.length c5] (L,ys) _ rfl (EWh.of HI.out ((HS.out.alloc _).alloc _)) rfl (qET _) ?_ ?_ ?_ tO ?_;(intro b hb;have h9:=gE.out b (by simpa using hb);simp;omega);(intro j u hj;match j,hj with | 0,hj=>(simp at hj;subst hj;simp[go_sem]) | 1,hj=>(simp at hj;subst hj;simp[go_sem]));(intro u hu;simp at hu;rcases hu with rfl | rfl<;>rfl);intro v3 w3 o3 g3;obtain⟨A7,c7,rfl,_⟩:=OwnL.len o3;have O3:=qA o3;have G3:=qA g3;clear o3 g3)
     go_roundw
     case rel=>
      refine⟨cycF (whX r (L,ys) c),acc++ [(L,ys)],by simp[qLy],by simp;omega,pf.out,by simpa using HE.out,?_,by simpa using O3.out,qEx (((HB.out.trans (B2.out.mono ak)).alloc tO _).alloc (by simp;omega) _) cd.out (zae _) (by simp;omega) G3.out⟩;refine OwI.mono (base:=wr.heap.size) (((eM.out.alloc _).alloc _).kept G3.out ?_) ak;cases hF:(zad A6 (cycF (whX r (L,ys) c)).length c6).ownBlock with
      | none=>exact .inl rfl
      | some b=>
        refine .inr fun e=> ?_;have h1:=yY.out b hF;have h2:=mk.out b e.symm;omega
     case measure=>simp[qLy];omega
   ·have he:acc.length=24:=tO;have HE:Hid (redF r xs=(c,acc)):=qA (by rw[←aD.out,he];rfl);clear he;go_wp2;go_ret2
    rw[HE.out];exact⟨_,_,rfl,lS.out,cd.out,HB.out⟩
theorem qBk (r:Int) (v:Value) (xs:List Int) (w:World) (hr:I64 r) (h:RdI w v xs) (hl:xs.length≤1048576):
  Calls Tryz.prog 22 #[.int .i64 r,v] w fun e w'=> ∃s t,e= .returned (.tuple #[s,t])∧OwI w' w.heap.size s (redF r xs).1∧OWhS w.heap.size w'.heap.size t (redF r xs).2 w'∧Below w.heap.size w w':=by
 have H:=qA h;obtain⟨A,cap,rfl,aj,hm,_⟩:=h.arg;have HR:=qA hr;clear h hr;have ks:Hid (OWhS w.heap.size (w.alloc (.cells #[] 26)).heap.size (.slice (some ⟨w.heap.size,0,none⟩) 0 0) [] (w.alloc (.cells #[] 26))):=qA (qLF w (zae _));have cQ:Hid (Below w.heap.size w (w.alloc (.cells #[] 26))):=qA ((zag _ _).alloc (zae _) _);have H0:=qA (H.out.below cQ.out);rcases ew:qY r xs with _ | _
 ·have F:Hid (redF r xs=([],[])):=qA (by unfold redF;rw[ew];rfl);go_enter Tryz.func22,Tryz.ntmps22
  go_wp2_with fail;generalize w.alloc (.cells #[] 26)=w0 at ks cQ H0⊢;have C:=qc r _ xs _ H0.out.arg tO;rw[ew] at C;refine C.mono ?_;rintro e w' ⟨rfl,n,rfl⟩;clear C;have aW:=cQ.out.size;go_wp2;go_ret2
  rw[F.out];exact⟨_,_,rfl,qW _ [] qS (by simp) aW,(ks.out.keep EWh.stable fun b _ hb=>zaD (w0.drewN n) _ b hb).widen (zae _) (by simp),(qB cQ.out n).alloc aW _⟩
 ·have F:Hid (redF r xs=qDi r 24 (cycF xs) []):=qA (by unfold redF;rw[ew];rfl);have HG:=qA (qGL ew);go_enter Tryz.func22,Tryz.ntmps22
  go_wp2_with fail;generalize w.alloc (.cells #[] 26)=w0 at ks cQ H0⊢;have C:=qc r _ xs _ H0.out.arg tO;rw[ew] at C;refine C.mono ?_;rintro e w' ⟨rfl,n,rfl⟩;clear C;have aW:=cQ.out.size;go_wp2_with fail;refine(qAe _ xs _ (H0.out.drewN n) tO).mono ?_
  rintro e w1 ⟨s1,rfl,o1,b1⟩;have O1:=qA (o1.mono aW);have eh:=qA ((qB cQ.out n).trans (b1.mono aW));have fK:=qA ((ks.out.keep EWh.stable (w':=w1) fun b _ hb=>b1.block b hb).widen (zae _) b1.size);clear o1 b1;go_wp2_with fail;go_loopw [6,7,8] (fun l f i wr=> ∃(k:Nat) (c:List Int) (acc:List WhD),k≤24∧i= .int .i64 k∧acc.length=k∧qDG r c∧qDi r (24-k) c acc=redF r xs∧OwI wr w.heap.size f c∧OWhS w.heap.size wr.heap.size l acc wr∧Below w.heap.size w wr)
   (fun _ _ i _=>24-(intOf i).toNat)
  case atStart=>exact⟨0,cycF xs,[],tO,rfl,rfl,HG.out,F.out.symm,O1.out,fK.out,eh.out⟩
  case round=>
   obtain⟨k,c,acc,hk,rfl,Bs,oQ,bF,hf,eE,aa⟩:=hrel;have gA:=qA oQ;have aD:=qA bF;have lS:=qA hf;have cd:=qA eE;have HB:=qA aa;have aZ:=oQ.len;have ak:=aa.size;have nj:=qA Bs;have du:acc.length≤24:=tO;obtain⟨A2,c2,rfl,_⟩:=hf.form;obtain⟨A3,c3,rfl,_⟩:=eE.len;clear oQ bF hf eE aa fK O1 ks Bs;by_cases ac:k<24
   ·go_wp2_with fail;rcases eX:qAh r c with _ | d
    ·have C:=qBW r _ c _ HR.out lS.out.rd tO;rw[qOG gA.out eX] at C;refine C.mono ?_;rintro e w2 ⟨t2,rfl,o2,b2⟩;have B2:=qA b2;have au:=qA (HB.out.trans (b2.mono ak));have bK:=b2.size;obtain⟨S2,rfl,_,lI⟩:=o2;obtain⟨A8,c8,rfl,_⟩:=OwI.form lI;have HE:Hid (redF r xs=(c,acc)):=qA (by rw[←aD.out,qHT eX]);clear eX b2 C lI;go_wp2;go_ret2
     rw[HE.out];exact⟨_,_,rfl,(lS.out.below B2.out).alloc _,(cd.out.keep EWh.stable fun b _ hb=>(zaD _ _ b tO).trans (B2.out.block b hb)).widen (zae _) (by simp;omega),au.out.alloc tO _⟩
    ·have C:=qBW r _ c _ HR.out lS.out.rd tO;rw[qOs gA.out eX] at C;refine C.mono ?_;rintro e w2 ⟨t2,rfl,o2,b2⟩;have B2:=qA b2;have au:=qA (HB.out.trans (b2.mono ak));have bK:=b2.size;obtain⟨S2,rfl,hi,hS⟩:=o2;obtain⟨L,ys⟩:=d;have HE:Hid (qDi r (24-(k+1)) (cycF (whX r (L,ys) c)) (acc++ [(L,ys)])=redF r xs):=qA (by
      rw[←aD.out,show 24-k=(24-(k+1))+1 by omega,qHO eX])
     have pf:=qA (qFC gA.out eX);have HI:Hid (I64 L):=qA hi;have HS:Hid (OwI w2 wr.heap.size S2 ys):=qA hS;obtain⟨A5,c5,rfl,_⟩:=OwI.form HS.out;have uC:ys.length≤1073741824:=(qCQ r).2 (L,ys) (List.mem_of_find?_eq_some eX);obtain⟨i0,a7,aS,ao,aP⟩:=info_parts qHg;have wy:=HI.out.1;have zY:=HI.out.2;have gE:=qA (fun b (hb:(zad A5 ys.length c5).ownBlock=some b)=>HS.out.1.lt b hb);have dA:(w2.alloc (.cells #[.int .i64 L,zad A5 ys.length c5] 26)).cell? ⟨w2.heap.size,0,none⟩=some (.int .i64 L):=by simp[go_sem]
     have aQ:(w2.alloc (.cells #[.int .i64 L,zad A5 ys.length c5] 26)).cell? ⟨w2.heap.size,1,none⟩=some (.slice A5 ys.length c5):=by simp[go_sem]
     have mf:w2.heap.size<(w2.alloc (.cells #[.int .i64 L,zad A5 ys.length c5] 26)).heap.size:=by simp
     have B3:Hid (Below wr.heap.size wr (w2.alloc (.cells #[.int .i64 L,zad A5 ys.length c5] 26))):=qA (B2.out.alloc bK _);have lU:=qA (HS.out.alloc (.cells #[.int .i64 L,zad A5 ys.length c5] 26));clear eX b2 C hS hi;go_wp2_with fail;generalize w2.alloc (.cells #[.int .i64 L,zad A5 ys.length c5] 26)=w3 at dA aQ mf B3 lU⊢;have dd:=B3.out.size;refine(qFQ r _ _ (L,ys) c _ HR.out ⟨_,rfl,HI.out,lU.out.arg⟩ (lS.out.rd.below B3.out) uC tO).mono ?_
     rintro e w4 ⟨F1,rfl,o4,b4⟩;have B4:=qA (B3.out.trans (b4.mono dd));have yC:=qA (o4.mono dd);have sT:=qA (lU.out.below b4);have mq:=(b4.cell (p:=⟨w2.heap.size,0,none⟩) mf).trans dA;have jO:=(b4.cell (p:=⟨w2.heap.size,1,none⟩) mf).trans aQ;have wO:=zaf mf b4.size;obtain⟨A6,c6,rfl,_⟩:=OwI.form o4;clear o4 b4 dA aQ;have rZ:=B4.out.size;have yY:=qA (fun b (hb:(zad A6 (cycF (whX r (L,ys) c)).length c6).ownBlock=some b)=>(yC.out.1.lt b hb).1);have mk:=qA (fun b (hb:(zad A3 acc.length c3).ownBlock=some b)=>(cd.out.lt hb).2);go_wp2_with (at_builtin;refine qEr EWh.stable rfl (.tmp 38) (.tmp 40) rfl Tryz.underlying47 a7 aS ao aP rfl (by decide) (by decide) (w0:=wr) cd.out ak (B4.out.alloc rZ _) rfl _ [.int .i64 L, .slice A5 ys.length c5] (L,ys) _ rfl (EWh.of HI.out (sT.out.alloc _)) rfl (qET _) ?_ ?_ ?_ tO ?_;(intro b hb;have h9:=gE.out b (by simpa using hb);simp;omega);(intro j u hj;match j,hj with | 0,hj=>(simp at hj;subst hj;simp[go_sem]) | 1,hj=>(simp at hj;subst hj;simp[go_sem]));(intro u hu;simp at hu;rcases hu with rfl | rfl<;>rfl);intro v3 w5 o3 g3;obtain⟨A7,c7,rfl,_⟩:=OwnL.len o3;have O3:=qA o3;have G3:=qA g3;clear o3 g3)
     go_roundw
     case rel=>
      refine⟨k+1,cycF (whX r (L,ys) c),acc++ [(L,ys)],tO,by go_num,by simp[nj.out],pf.out,HE.out,?_,by simpa using O3.out,qEx ((HB.out.trans (B4.out.mono ak)).alloc tO _) cd.out (zae _) (by simp;omega) G3.out⟩;refine OwI.mono (base:=wr.heap.size) ((yC.out.alloc _).kept G3.out ?_) ak;cases hF:(zad A6 (cycF (whX r (L,ys) c)).length c6).ownBlock with
      | none=>exact .inl rfl
      | some b=>
        refine .inr fun e=> ?_;have h1:=yY.out b hF;have h2:=mk.out b e.symm;omega
     case measure=>simp[intOf];omega
   ·obtain rfl:k=24:=tO
    have HE:Hid (redF r xs=(c,acc)):=qA (by rw[←aD.out];rfl);go_wp2;go_ret2
    rw[HE.out];exact⟨_,_,rfl,lS.out,cd.out,HB.out⟩
def orbN (r:Int) (xs:List Int):Int:=if qY r xs then((redF r xs).1.length:Nat) else-1
theorem qDs (r:Int) (v:Value) (xs:List Int) (w:World) (hr:I64 r) (h:RdI w v xs) (hl:xs.length≤1048576):
  Calls Tryz.prog 42 #[.int .i64 r,v] w fun e w'=>e= .returned (.int .i64 (orbN r xs))∧Below w.heap.size w w':=by
 have H:=qA h;have HR:=qA hr;clear h hr;rcases ew:qY r xs with _ | _
 ·have F:Hid (orbN r xs= -1):=qA (by unfold orbN;rw[ew];rfl);go_enter Tryz.func42,Tryz.ntmps42
  go_wp2_with fail;have C:=qz r _ xs _ H.out.arg tO;rw[ew] at C;refine C.mono ?_;rintro e w' ⟨rfl,rfl⟩;clear C ew;go_wp2;go_ret;exact⟨qU F.out.symm,zag _ _⟩
 ·have F:Hid (orbN r xs=((redF r xs).1.length:Nat)):=qA (by unfold orbN;rw[ew];rfl);go_enter Tryz.func42,Tryz.ntmps42
  go_wp2_with fail;have C:=qz r _ xs _ H.out.arg tO;rw[ew] at C;refine C.mono ?_;rintro e w' ⟨rfl,rfl⟩;clear C ew;go_wp2_with fail;refine(qBl r _ xs _ HR.out H.out hl).mono ?_
  rintro e w1 ⟨s1,t1,rfl,o1,p1,b1⟩;have B1:=qA b1;obtain⟨A1,c1,rfl,_⟩:=OwI.form o1;clear o1 p1 b1;go_wp2;go_ret;exact⟨qU F.out.symm,B1.out⟩
theorem qDz (r:Int) (v:Value) (xs:List Int) (w:World) (hr:I64 r) (h:RdI w v xs) (hl:xs.length≤1048576):
  Calls Tryz.prog 43 #[.int .i64 r,v] w fun e w'=>e= .returned (.int .i64 (orbN r xs))∧Below w.heap.size w w':=by
 have H:=qA h;have HR:=qA hr;clear h hr;go_enter Tryz.func43,Tryz.ntmps43
 go_wp2_with fail;refine(qBk r _ xs _ HR.out H.out hl).mono ?_
 rintro e w1 ⟨s1,t1,rfl,o1,p1,b1⟩;have B1:=qA b1;have H1:=qA (H.out.below b1);obtain⟨A1,c1,rfl,_⟩:=OwI.form o1;clear o1 p1 b1;go_wp2_with fail;rcases ew:qY r xs with _ | _
 ·have C:=qc r _ xs _ H1.out.arg tO;rw[ew] at C;refine C.mono ?_;rintro e w' ⟨rfl,n,rfl⟩;have F:Hid (orbN r xs= -1):=qA (by unfold orbN;rw[ew];rfl);clear C ew;go_wp2;go_ret;exact⟨qU F.out.symm,qB B1.out n⟩
 ·have C:=qc r _ xs _ H1.out.arg tO;rw[ew] at C;refine C.mono ?_;rintro e w' ⟨rfl,n,rfl⟩;have F:Hid (orbN r xs=((redF r xs).1.length:Nat)):=qA (by unfold orbN;rw[ew];rfl);clear C ew;go_wp2;go_ret;exact⟨qU F.out.symm,qB B1.out n⟩
theorem qCd {n:Nat} {x:Int} (h:(1≤x∧x≤n)∨(1≤ -x∧ -x≤n)):x∈qD n:=by
 induction n with
 | zero=>omega
 | succ n ih=>
   simp only[qD,zal,za0,List.not_mem_nil,or_false];by_cases e:(1≤x∧x≤n)∨(1≤ -x∧ -x≤n)
   ·exact .inl (ih e)
   ·right;omega
theorem qMv {r:Nat} (hr:r≤3): ∀(n:Nat) (w:List Int),w.length=n→letR r w→redP w→w∈layW (qD r) n
 | 0,w,hn,_,_=>by rw[zaF hn];simp[layW]
 | n+1,w,hn,hl,hp=>by
   rcases qBB w with rfl | ⟨p,x,rfl⟩
   ·simp at hn
   ·have pK:p.length=n:=by simpa using hn
    have dD:letR r p:=fun y hy=>hl y (by simp[hy]);have hx:=hl x (by simp);have Df:redP p:=by
     have:=qEW hp p.length
     rwa [List.take_left' rfl] at this
    have hm:=qMv hr n p pK dD Df;unfold layW;rw[zat];refine⟨p,hm,?_⟩;unfold nxtW;rw[zaS];refine⟨x,zaZ.2 ⟨qCd tO,?_⟩,rfl⟩;unfold okW;rw[zav,decide_eq_true_eq,decide_eq_true_eq];rcases qBB p with rfl | ⟨q,l,rfl⟩
    ·exact .inl rfl
    ·right
     have h1:=hp q.length (by simp);have e1:(q++ [l]++ [x]).getD q.length 0=l:=by simp[zaE]
     have e2:(q++ [l]++ [x]).getD (q.length+1) 0=x:=by simp[zaE]
     have e3:(q++ [l]).getD ((q++ [l]).length-1) 0=l:=by simp[zaE]
     have tA:=dD l (by simp);rw[e1,e2,qBE tO] at h1;rw[e3];exact of_decide_eq_false h1
theorem qNM {ls:List Int} {m:Nat} {w:List Int} (hw:w∈layW ls m): ∀n,m≤n→w∈uptW ls n
 | 0,h=>by
   obtain rfl:m=0:=tO
   simpa[layW,uptW] using hw
 | n+1,h=>by
   unfold uptW;rw[zal];rcases Nat.lt_or_ge n m with h' | h'
   ·obtain rfl:m=n+1:=tO
    exact .inr hw
   ·exact .inl (qNM hw n h')
theorem qPx {r n:Nat} (hr:r≤3) {w:List Int} (hl:w.length≤n) (h1:letR r w) (h2:redP w):w∈uptW (qD r) n:=
 qNM (qMv hr w.length w rfl h1 h2) n hl
theorem qPe {m i k:Nat} (h:i<k):bitB (m+2^k) i=bitB m i:=by
 unfold bitB;obtain⟨d,rfl⟩: ∃d,k=i+1+d:=⟨k-(i+1),tO⟩;have e:2^(i+1+d)=2^i*(2*2^d):=by rw[Nat.pow_add,zaT,Nat.mul_assoc]
 rw[e,Nat.add_mul_div_left _ _ (Nat.pow_pos (by decide)),Nat.add_mul_mod_self_left]
theorem qNk {m k:Nat} (h:m<2^k):bitB (m+2^k) k=true∧bitB m k=false:=by
 unfold bitB;rw[Nat.add_div_right _ (Nat.pow_pos (by decide)),Nat.div_eq_of_lt h];exact⟨rfl,rfl⟩
theorem qIs {os:List Int} {m k:Nat}: ∀j,j≤k→qBZ os (m+2^k) j=qBZ os m j
 | 0,_=>rfl
 | j+1,h=>by
   unfold qBZ;rw[qIs j tO,qPe tO]
theorem qHQ (os:List Int) (p:Int→Bool): ∀k,k≤os.length→ ∃m,m<2^k∧qBZ os m k=(os.take k).filter p
 | 0,_=>⟨0,by simp,by simp[qBZ]⟩
 | k+1,h=>by
   obtain⟨m,hm,e⟩:=qHQ os p k tO;have hk:k<os.length:=tO;have hg:os.getD k 0=os[k]:=by simp[zaE,hk]
   rw[zaq hk,List.filter_append];rcases hp:p os[k] with _ | _
   ·refine⟨m,by rw[zaT];omega,?_⟩;unfold qBZ;rw[e,(qNk hm).2];simp[hp]
   ·refine⟨m+2^k,by rw[zaT];omega,?_⟩;unfold qBZ;rw[qIs k (zae _),e,(qNk hm).1,hg];simp[hp]
def twin (n:Nat) (d:WhD):WhD:=(d.1,(othL (qD n) d.1).filter (hasB d.2))
theorem qQH {n:Nat} {d:WhD} (h1:1≤n) (h3:n≤3) (h:d.1∈qD n):twin n d∈qh n:=by
 have hn:inB (n:Int) 1 3=true:=qP.2 ⟨tO,tO⟩;unfold qh;rw[if_pos hn,Int.toNat_natCast];unfold allK;refine zat.2 ⟨d.1,?_,?_⟩
 ·rw[List.take_of_length_le (by rw[qo];omega)];exact h
 ·obtain⟨m,hm,e⟩:=qHQ (othL (qD n) d.1) (hasB d.2) _ (zae _);rw[zam] at e;refine zaS.2 ⟨m,zas.2 hm,?_⟩;unfold twin;rw[e]
theorem qPW {r:Int} {d:WhD} (h:whB r d=true) {x:Int} (hx:x∈d.2):letB r x=true∧x≠d.1∧x≠ -d.1:=by
 unfold whB at h;simp only[zap,zao,zas] at h;obtain⟨i,hi,rfl⟩:=zaG hx;have:=h.2 i hi
 unfold whAt at this;simp only[zap] at this;have e:d.2.getD i 0=d.2[i]:=by simp[zaE,hi]
 rw[e] at this;exact⟨this.1.1.1,by simpa using this.1.1.2,by simpa using this.1.2⟩
theorem qOA {n:Nat} {r:Int} {d:WhD} (h:whB r d=true) {x:Int} (hx:x∈qD n):hasB (twin n d).2 x=hasB d.2 x:=by
 rw[zaL,qBR,qBR];unfold twin othL;simp only[zaZ,zap,bne_iff_ne,ne_eq];constructor
 ·exact fun h=>qBR.1 h.2
 ·exact fun q=>⟨⟨hx,(qPW h q).2.1,(qPW h q).2.2⟩,qBR.2 q⟩
theorem qQd {n:Nat} {d e:WhD} (h1:e.1=d.1) (h2: ∀x∈qD n,hasB e.2 x=hasB d.2 x) {x:Int} (hx:1≤x∧x≤n):qEw e x=qEw d x:=by
 unfold qEw;rw[h1,h2 x (qCd (.inl hx)),h2 (-x) (qCd (.inr tO))]
theorem qNW {n:Nat} {d e:WhD} (h1:e.1=d.1) (h2: ∀x∈qD n,hasB e.2 x=hasB d.2 x): ∀k,k≤n→qAi e k=qAi d k
 | 0,_=>rfl
 | k+1,h=>by
   unfold qAi;rw[qNW h1 h2 k tO,qQd h1 h2 tO]
theorem qQJ {r:Int} {d:WhD} (h:whB r d=true): ∃n:Nat,r=n∧1≤n∧n≤3∧d.1∈qD n:=by
 obtain⟨h1,h2⟩:=qCi h;have a:=qP.1 h1;have b:=(qAB h1).1 h2;exact⟨r.toNat,tO,tO,tO,qCd tO⟩
theorem qNA:(zaz 4).all (fun n=>(qh n).all (whB n))=true:=by kernel_rfl
inductive RedS (r:Int):List Int→List WhD→List Int→Prop
 | done {c:List Int}:qAh r c=none→RedS r c [] c
 | step {c c':List Int} {d:WhD} {l:List WhD}:qAh r c=some d→RedS r (cycF (whX r d c)) l c'→RedS r c (d::l) c'
theorem qOe {r x:Int} (hr:inB r 1 3=true) (h:letB r x=true):Lt3 x:=by
 have a:=qP.1 hr;have b:=(qAB hr).1 h;exact⟨tO,tO,b.1⟩
theorem qQX {r:Int} {d:WhD} (h:whB r d=true): ∀b∈(whM r d).2,gL b:=by
 obtain⟨h1,h2⟩:=qCi h;have a:=qP.1 h1;intro b hb x hx;unfold whM at hb;rw[if_pos h] at hb;have:=qFG h2 h1 tO b hb x hx
 obtain⟨q1,q2,q3⟩:=qOe h1 this;exact⟨q3,q1,q2⟩
def appF (d:MoD) (l:List Int):List Int×Bool:=if(morB d&&qY d.1 l)=true then(expL d.2 l,true) else([],false)
theorem qDD (v u:Value) (d:MoD) (l:List Int) (w:World) (h:ArgM w v d) (h':RdI w u l) (hB:d.2.length≤1048576) (hb: ∀x∈d.2,x.length≤1048576) (hl:l.length≤200):
  Calls Tryz.prog 17 #[v,u] w fun e w'=> ∃r,e= .returned (.tuple #[r, .bool (appF d l).2])∧OwI w' w.heap.size r (appF d l).1∧Below w.heap.size w w':=by
 have HM:=qA (fun W (h:ArgM W v d)=>qCD v d W h (fun x hx=>by have:=hb x hx;omega));have H:=qA h;obtain⟨s,rfl,-,ha⟩:=h;obtain⟨r,B⟩:=d;have HB:=qA ha;have HL:=qA h';obtain⟨A,c,rfl,_⟩:=ha.form;obtain⟨A',c',rfl,_⟩:=h'.arg;have HE:=qA (fun W (h1:RdII W (.slice A B.length c) B) (h2:RdI W (.slice A' l.length c') l)=>qAW _ _ B l W h1 h2 hB hb hl);have HW:=qA (fun W (h2:RdI W (.slice A' l.length c') l)=>qc r _ l W h2.arg tO);simp only at HB H HM
 clear ha h' hb;obtain⟨w1,aL⟩: ∃W,W=w.alloc (.cells #[.int .i64 r,zad A B.length c] 31):=⟨_,rfl⟩;obtain⟨x1,b1,s1⟩:=MBx.new aL;have F:Hid (appF (r,B) l=if(morB (r,B)&&qY r l)=true then(expL B l,true) else([],false)):=qA rfl;generalize appF (r,B) l=ap at*;generalize morB (r,B)=mb at*;have uj:=qA (HM.out w1 (H.out.below b1));have e0:=x1.c0;have e1:=x1.c1;replace HB:=qA (HB.out.below b1);replace HL:=qA (HL.out.below b1);have X:=qA x1;have BW:=qA b1;clear x1 b1 s1 HM H;rcases mb with _ | _
 ·go_enter Tryz.func17,Tryz.ntmps17
  go_wp2_with fail;rw[←aL];clear aL;refine uj.out.mono ?_;rintro e w2 ⟨rfl,b2⟩;have B2:=qA (BW.out.trans (b2.mono BW.out.size));have bK:=B2.out.size;have O:=qA (qW (base:=w.heap.size) w2 [] qS (by simp) bK);clear b2;go_wp2;exact bodyPost_ret (v:= .tuple #[.slice (some ⟨w2.heap.size,0,none⟩) 0 0, .bool false]) (by simp[results,Tryz.results17,go_sem]) rfl ⟨_,by rw[F.out];rfl,by rw[F.out];exact O.out,B2.out.alloc bK _⟩
 ·rcases ew:qY r l with _ | _
  all_goals
   rw[ew] at F HW;clear ew;go_enter Tryz.func17,Tryz.ntmps17
   go_wp2_with fail;rw[←aL];clear aL;refine uj.out.mono ?_;rintro e w2 ⟨rfl,b2⟩;have B2:=qA (BW.out.trans (b2.mono BW.out.size));have bK:=B2.out.size;replace X:=qA (X.out.below b2);replace HB:=qA (HB.out.below b2);replace HL:=qA (HL.out.below b2);have u0:=X.out.c0;have u1:=X.out.c1;clear b2 e0 e1 uj;go_wp2_with fail;refine(HW.out _ HL.out).mono ?_
   rintro e w3 ⟨rfl,nd,rfl⟩;obtain⟨w3,fX⟩: ∃W,W=w2.drewN nd:=⟨_,rfl⟩;rw[←fX];have b3:Below w2.heap.size w2 w3:=by rw[fX];exact qB (zag _ _) _
   replace X:=qA (X.out.below b3);replace HB:=qA (HB.out.below b3);replace HL:=qA (HL.out.below b3);replace B2:=qA (B2.out.trans (b3.mono bK));have dd:=B2.out.size;clear b3 fX u0 u1 HW;have u0:=X.out.c0;have u1:=X.out.c1
  ·have O:=qA (qW (base:=w.heap.size) w3 [] qS (by simp) dd);go_wp2;exact bodyPost_ret (v:= .tuple #[.slice (some ⟨w3.heap.size,0,none⟩) 0 0, .bool false]) (by simp[results,Tryz.results17,go_sem]) rfl ⟨_,by rw[F.out];rfl,by rw[F.out];exact O.out,B2.out.alloc dd _⟩
  ·go_wp2_with fail;refine(HE.out _ HB.out HL.out).mono ?_
   rintro e w4 ⟨rv,rfl,o4,b4⟩;have O:=qA (o4.mono dd);have B4:=qA (B2.out.trans (b4.mono dd));obtain⟨A4,c4,rfl,_⟩:=o4.form;clear o4 b4;go_wp2;exact bodyPost_ret (v:= .tuple #[.slice A4 (expL B l).length c4, .bool true]) (by simp[results,Tryz.results17,go_sem]) rfl ⟨_,by rw[F.out];rfl,by rw[F.out];exact O.out,B4.out⟩
theorem qNm {α:Type} (c:α→α→Int) (L:List α) (e:α):srt c (L++ [e])=insF c (srt c L) e:=by
 unfold srt;rw[List.foldl_append];rfl
def stpE (u x v:Int):EdD:=if 0<x then(u,x,v) else(v,-x,u)
def nxP (N:Nat) (len:Nat) (v:Int) (j:Nat):Int:=if j+1<len then((N+j:Nat):Int) else v
def atP (N:Nat) (len:Nat) (u v:Int):Nat→Int
 | 0=>u
 | j+1=>nxP N len v j
theorem qOk (N len:Nat) (u v:Int) (j:Nat):atP N len u v (j+1)=nxP N len v j:=rfl
theorem qJx {α:Type} {l:List α} {i:Nat} {d:α} (h:i<l.length):l.getD i d=l[i]:=by simp[h]
def pthE (N:Nat) (u v:Int) (w:List Int) (j:Nat):EdD:=stpE (atP N w.length u v j) (w.getD j 0) (nxP N w.length v j)
def pthL (N:Nat) (u v:Int) (w:List Int) (k:Nat):List EdD:=(zaz k).map (pthE N u v w)
theorem qJf (N:Nat) (u v:Int) (w:List Int) (k:Nat):pthL N u v w (k+1)=pthL N u v w k++ [pthE N u v w k]:=by
 unfold pthL;rw[zaY,List.map_append];rfl
theorem qLI (N:Nat) (u v:Int) (w:List Int) (k:Nat):(pthL N u v w k).length=k:=by simp[pthL]
def szP (N len j:Nat):Nat:=N+min j (len-1)
theorem qLA {N len j:Nat} (h:j<len):szP N len (j+1)=if j+1<len then szP N len j+1 else szP N len j:=by
 unfold szP;split<;>omega
theorem qPL {N len j:Nat} (h:j+1<len):szP N len j=N+j:=by
 unfold szP;omega
theorem qIV {N len j:Nat} {u v:Int} (hu:0≤u∧u<N) (hv:0≤v∧v<N):0≤atP N len u v j∧atP N len u v j<N+len:=by
 cases j with
 | zero=>show 0≤u∧u<N+len;omega
 | succ j=>
   unfold atP nxP;split<;>omega
theorem qJD {N len j:Nat} {v:Int} (hv:0≤v∧v<N):0≤nxP N len v j∧nxP N len v j<N+len:=by
 unfold nxP;split<;>omega
def addG (g:GrD) (u v:Int) (w:List Int):GrD:=(g.1,((g.2.1.toNat+(w.length-1):Nat):Int),srt cmpE (g.2.2++pthL g.2.1.toNat u v w w.length))
def qCU (g:GrD) (t:List Int):Bool:=decide (g.2.1+t.length-1≤40∧(g.2.2.length:Int)+t.length≤120)
theorem qKv {L:List EdD} (h:Srt cmpE L):srt cmpE L=L:=(qKV qAf h fun _=>Iff.rfl).symm
abbrev FoD:=Int×Int
def fo2 (a b:EdD):List FoD:=
 (if a.2.1=b.2.1∧a.1=b.1 then [(min a.2.2 b.2.2,max a.2.2 b.2.2)] else [])++
 (if a.2.1=b.2.1∧a.2.2=b.2.2 then [(min a.1 b.1,max a.1 b.1)] else [])
def foAt (es:List EdD) (i k:Nat):List FoD:=((es.take k).drop (i+1)).flatMap (fo2 (es.getD i (0,0,0)))
def foUp (es:List EdD):Nat→List FoD
 | 0=> []
 | i+1=>foUp es i++foAt es i es.length
def foL (es:List EdD):List FoD:=foUp es es.length
theorem qFH (es:List EdD) (i:Nat):foAt es i (i+1)= []:=by
 unfold foAt;rw[List.drop_eq_nil_of_le (by rw[zaC];omega)];rfl
theorem qIO (es:List EdD) (i k:Nat) (hk:k<es.length) (hi:i<k):foAt es i (k+1)=foAt es i k++fo2 (es.getD i (0,0,0)) es[k]:=by
 unfold foAt;rw[zaq hk,List.drop_append_of_le_length (by rw[zaC];omega),List.flatMap_append];simp
theorem qQE (a b:EdD):(fo2 a b).length≤2:=by
 unfold fo2;rw[zay];split<;>split<;>simp
theorem qIJ (es:List EdD) (i k:Nat):(foAt es i k).length≤2*es.length:=by
 unfold foAt;have h: ∀L:List EdD,(L.flatMap (fo2 (es.getD i (0,0,0)))).length≤2*L.length:=by
  intro L;induction L with
  | nil=>simp
  | cons a L ih=>
    rw[List.flatMap_cons,zay,List.length_cons];have:=qQE (es.getD i (0,0,0)) a
    omega
 have h1:=h ((es.take k).drop (i+1));rw[zaK,zaC] at h1;omega
theorem qIB (es:List EdD): ∀i,(foUp es i).length≤2*es.length*i
 | 0=>by simp[foUp]
 | i+1=>by
   have h1:=qIB es i;have h2:=qIJ es i es.length;unfold foUp;rw[zay,Nat.mul_succ];omega
theorem qOq {es:List EdD} {i k:Nat} (hi:i<k) (hk:k<es.length) {f:FoD} (h:f∈fo2 es[i] es[k]):f∈foAt es i es.length:=by
 unfold foAt;rw[zam];refine zat.2 ⟨es[k],?_,by simpa[zaE,show i<es.length by omega] using h⟩;rw[zaQ];exact⟨k-(i+1),by rw[zaK];omega,by rw[zaV];congr 1;omega⟩
theorem qKO {es:List EdD} {i:Nat} {f:FoD} (h:f∈foAt es i es.length): ∀n,i<n→f∈foUp es n
 | 0,hn=>tO
 | n+1,hn=>by
   unfold foUp;by_cases e:i=n
   ·subst e;exact zal.2 (.inr h)
   ·exact zal.2 (.inl (qKO h n tO))
theorem qIx {es:List EdD} {f:FoD}: ∀n,f∈foUp es n→ ∃i,i<n∧f∈foAt es i es.length
 | 0,h=>by cases h
 | n+1,h=>by
   unfold foUp at h;rcases zal.1 h with h | h
   ·obtain⟨i,hi,hf⟩:=qIx n h;exact⟨i,tO,hf⟩
   ·exact⟨n,tO,h⟩
theorem qOZ {es:List EdD} {f:FoD} (h:f∈foL es): ∃i k,∃(hi:i<k) (hk:k<es.length),f∈fo2 (es[i]'tO) es[k]:=by
 obtain⟨i,hi,hf⟩:=qIx _ h;unfold foAt at hf;rw[zam] at hf;obtain⟨b,hb,hf⟩:=zat.1 hf;obtain⟨j,hj,rfl⟩:=zaQ.1 hb;rw[zaK] at hj;rw[zaV] at hf;refine⟨i,i+1+j,tO,tO,?_⟩;simpa[zaE,hi] using hf
theorem qMB {es:List EdD} (h:foL es= []):Fol es:=by
 refine qPY fun k hk i hi=> ?_;rcases e:qBY es[k] es[i] with _ | _
 ·rfl
 ·rw[qCP] at e;have hm: ∃f,f∈fo2 es[i] es[k]:=by
   unfold qBY at e;simp only[zap,zav,beq_iff_eq] at e;unfold fo2;rcases e.2 with q | q
   ·exact⟨_,zal.2 (.inl (by rw[if_pos ⟨e.1,q⟩];exact zar.2 rfl))⟩
   ·exact⟨_,zal.2 (.inr (by rw[if_pos ⟨e.1,q⟩];exact zar.2 rfl))⟩
  obtain⟨f,hf⟩:=hm;have:=qKO (qOq hi hk hf) es.length tO
  rw[show foUp es es.length= [] from h] at this;cases this
theorem qMO {g:GrD} (h:grB g=true):Srt cmpE g.2.2:=(qKa h).1
theorem qHD {g:GrD} (h:grB g=true) {f:FoD} (hf:f∈foL g.2.2):0≤f.1∧f.1<f.2∧f.2<g.2.1:=by
 obtain⟨i,k,hi,hk,hm⟩:=qOZ hf;have ai:g.2.2[i]≠g.2.2[k]:=fun e=>by
  have:=(zaJ.1 (qMO h)) i k tO hk hi
  rw[e,qCY.2 rfl] at this;omega
 have e1:=qAM h (zau (show i<g.2.2.length by omega));have e2:=qAM h (zau hk);generalize g.2.2[i]'tO=a at*;generalize g.2.2[k]=b at*;obtain⟨a1,a2,a3⟩:=a;obtain⟨b1,b2,b3⟩:=b;simp only at*
 unfold fo2 at hm;rcases zal.1 hm with hm | hm
 ·split at hm
  ·rename_i q
   simp only at q
   have:a3≠b3:=fun e=>ai (by rw[q.1,q.2,e])
   rw[zar.1 hm];simp only
   omega
  ·cases hm
 ·split at hm
  ·rename_i q
   simp only at q
   have:a1≠b1:=fun e=>ai (by rw[q.1,q.2,e])
   rw[zar.1 hm];simp only
   omega
  ·cases hm
def plF (f:FoD) (v:Int):Int:=if v=f.2 then f.1 else if f.2<v then v-1 else v
def plE (f:FoD) (e:EdD):EdD:=(plF f e.1,e.2.1,plF f e.2.2)
def merG (g:GrD) (f:FoD):GrD:=(g.1,g.2.1-1,srt cmpE (g.2.2.map (plE f)))
theorem qCO {f:FoD} {n v:Int} (hf:0≤f.1∧f.1<f.2∧f.2<n) (hv:0≤v∧v<n):0≤plF f v∧plF f v<n-1:=by
 unfold plF;split
 ·omega
 ·split<;>omega
theorem qHf {g:GrD} {f:FoD} (hg:grB g=true) (hf:0≤f.1∧f.1<f.2∧f.2<g.2.1):grB (merG g f)=true:=by
 obtain⟨h1,h2,h3,_⟩:=qR hg;have iN:=qCG qAf (g.2.2.map (plE f));refine qLP h1 ⟨by show(1:Int)≤g.2.1-1;omega,by show g.2.1-1≤40;omega⟩ ?_ iN.1 fun e he=> ?_
 ·have a:=qDT (c:=cmpE) (g.2.2.map (plE f));rw[List.length_map] at a;show(srt cmpE (g.2.2.map (plE f))).length≤120
  omega
 ·obtain⟨d,hd,rfl⟩:=zaS.1 ((iN.2 e).1 he);obtain⟨q1,q2,q3⟩:=qAM hg hd;exact⟨qCO hf q1,q2,qCO hf q3⟩
def folF:Nat→GrD→GrD
 | 0,g=>g
 | n+1,g=>match foL g.2.2 with
   | []=>g
   | f::_=>folF n (merG g f)
def folA (g:GrD):GrD:=folF g.2.1.toNat g
theorem qKf {g:GrD} (h:foL g.2.2= []): ∀n,folF n g=g
 | 0=>rfl
 | n+1=>by unfold folF;rw[h]
theorem qIm {g:GrD} {f:FoD} {l:List FoD} (h:foL g.2.2=f::l) (n:Nat):folF (n+1) g=folF n (merG g f):=by
 show(match foL g.2.2 with | []=>g | f::_=>folF n (merG g f))=_
 rw[h]
theorem qMe: ∀(n:Nat) (g:GrD),grB g=true→g.2.1≤n→qAk (folF n g)=true
 | 0,g,hg,hn=>by have:=(qR hg).2.1;omega
 | n+1,g,hg,hn=>by
   rcases e:foL g.2.2 with _ | ⟨f,l⟩
   ·rw[qKf e];unfold qAk;rw[hg,decide_eq_true (qMB e)];rfl
   ·rw[qIm e];have hf:=qHD hg (f:=f) (by rw[e];simp);exact qMe n (merG g f) (qHf hg hf) (by show g.2.1-1≤n;omega)
theorem qMz {g:GrD} (hg:grB g=true):qAk (folA g)=true:=qMe _ g hg (by have:=(qR hg).2.1;omega)
theorem qPw {es:List EdD} (h:Fol es) {a b:EdD} (ha:a∈es) (hb:b∈es) (ai:a≠b):qBY a b=false:=by
 unfold Fol at h;rw[zaJ] at h;obtain⟨i,hi,rfl⟩:=zaG ha;obtain⟨k,hk,rfl⟩:=zaG hb;rcases Nat.lt_trichotomy i k with q | q | q
 ·exact h i k hi hk q
 ·subst q;exact absurd rfl ai
 ·rw[qCP];exact h k i hk hi q
theorem qQG {g:GrD} (o:List Int) (h:Fol g.2.2):Fol (rnG g o).2.2:=by
 have iN:=qCG qAf (rnL g.2.2 o);show Fol (srt cmpE (rnL g.2.2 o))
 unfold Fol;refine iN.1.imp_of_mem fun {x y} hx hy hxy=> ?_;obtain⟨a,ha,nV⟩:=zax.1 ((iN.2 x).1 hx);obtain⟨b,hb,ng⟩:=zax.1 ((iN.2 y).1 hy);have ai:a≠b:=fun e=>by
  subst e;rw[nV] at ng;injection ng with e
  rw[e,qCY.2 rfl] at hxy;omega
 have hc:=qPw h ha hb ai;unfold rnE at nV ng;split at nV
 ·rename_i p1
  split at ng
  ·rename_i p2
   injection nV with nV
   injection ng with ng
   subst nV ng;unfold qBY at hc⊢;rw[zaU] at hc⊢;intro q;apply hc
   simp only[zap,zav,beq_iff_eq] at q⊢;refine⟨q.1,?_⟩;rcases q.2 with q | q
   ·exact .inl (qHm (o:=o) tO tO)
   ·exact .inr (qHm (o:=o) tO tO)
  ·cases ng
 ·cases nV
theorem qLx {g:GrD} {o:List Int} (h:qAk g=true) (ho:OrdN g.2.1 o):qAk (rnG g o)=true:=by
 obtain⟨h1,h2⟩:=qAQ h;unfold qAk;rw[qKn h1 ho,decide_eq_true (qQG o h2)];rfl
theorem qMY {g:GrD} {o:List Int} (h:qAk g=true) (ho:qAd g.2.1 o):qAk (rnG g o)=true:=qLx h ho.toN
theorem qHa: ∀(n:Nat) (g:GrD) (l:List Int),qAk g=true→qAk (qBy n g l).1=true
 | 0,g,l,h=>h
 | n+1,g,l,h=>by
   unfold qBy;split
   ·exact h
   ·rename_i hv
    have ak:=(qR (qAQ h).1).2.1;have hr:=qCm g.2.2 g.2.1.toNat;refine qHa n _ _ (qMY h ?_);have:=qGx (n:=g.2.1.toNat) (x:=qAG g.2.2 g.2.1.toNat) tO tO
    rwa [show((g.2.1.toNat:Nat):Int)=g.2.1 by omega] at this
theorem qHW {g:GrD} (h:qAk g=true):qAk (qCL g).1=true:=qHa _ _ _ h
def qGv (g:GrD):GrD:=canG (qCL (folA g)).1
end Go.Proofs.YtlgcflpaekbopaaGreat
