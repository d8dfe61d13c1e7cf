/- Parts of the proof: Rgg, TwI, Lst, Quo, Frame, MarkG, MarkGS, QuoM, Conj, BasS, LawE, IdxW, Ctn, PowQ, IdxZ, IdxX, AddI, Dcl, IdxU, IdxP. -/
import Derived.Test.YteobmaambgmdbaaGreatP03
import Derived.Test.YteobmaambgmdbaaGreatP06
import Derived.Test.YteobmaambgmdbaaGreatP01
import Derived.Test.YteobmaambgmdbaaGreatP04
import Derived.ProofKit
import Derived.OpenShut
import Derived.ShutString
import Derived.ChangeOld
import Derived.Lib.SmallJoins
import Derived.Deep.RegionHeld3
import Derived.Test.YteobmaambgmdbaaGreatP07
namespace Go.Proofs.YteobmaambgmdbaaGreat
set_option maxRecDepth 20000
set_option linter.unusedVariables false
set_option linter.unusedSimpArgs false
open Go.RowKit
def freG (l:List Oper):Bool:=
 Region.noSelect l.toArray&&(List.range l.length).all fun i=>match l[i]? with
  | none=>true
  | some o=>(o.after.all fun e=> !Region.binds .any e||decide (e.on<i))&&
    ((List.range l.length).all fun k=>match l[k]? with
      | none=>true
      | some o'=>(decide (i=k)|| !(o.dst==o'.dst)||o.dst.isNone)&&
        (match o'.dst with
         | none=>true
         | some t=> !(o.looksAt l.toArray).contains t||reachB l l.length i k||reachB l l.length k i))
def ObwG (G:List Nat) (P:Program) (J:Nat→World→Prop) (l:List Oper) (L:List Sg) (T:List (Option (World→World→Prop))) (vs:Nat→Value) (Q:Exit→Act→World→Prop):List Oper→List Sg→Nat→Act→Prop
 | [],_,_,b=> ∀W',Hid (J l.length W')→Hid (∀j,j<l.length→(sgA L j).R (maskV l j vs) W' (vs j))→Q .normal b W'
 | _::_,[],_,_=>False
 | o::r,s::ss,k,b=>(match G.contains k with
   | true=>True
   | false=>(∀W K Q0,Hid (J k W)→Hid (∀j,reachB l l.length k j=true→(sgA L j).R (maskV l j vs) W (vs j))→Hid (∀v W',tnA T k W W'→s.R (maskV l k vs) W' v→K (b.put o.dst v) W')→o.wp P b W K Q0))∧ObwG G P J l L T vs Q r ss (k+1) (b.put o.dst (s.pick (vs k)))
def gdB (l:List Oper) (L:List Sg) (G:List Nat):Bool:=(List.range l.length).all fun i=>match l[i]? with
 | none=>true
 | some o=>match o.guard with
   | none=> !G.contains i
   | some (j,want)=>reachB l l.length i j&&(match (l[j]?).bind (·.dst) with | some _=>true | none=>false)&&(match sgA L j with | .val (.bool b)=>(b==want)== !G.contains i | _=>false)
def GOff (L:List Sg) (T:List (Option (World→World→Prop))):List Nat→Prop
 | []=>True
 | i::r=>(sgA L i= .val undef∧T.getD i none=none)∧GOff L T r
theorem GOff.at {L:List Sg} {T:List (Option (World→World→Prop))}: ∀ {G:List Nat},GOff L T G→ ∀i,G.contains i=true→sgA L i= .val undef∧T.getD i none=none
 | [],_,_,h=>by cases h
 | j::r,h,i,hi=>by
   simp only[List.contains_cons,Bool.or_eq_true,beq_iff_eq] at hi
   rcases hi with rfl | hi
   ·exact h.1
   ·exact GOff.at h.2 i hi
theorem actV_keep {S:Nat→Bool} {vs:Nat→Value} {d:Tmp}: ∀(r:List Oper) (k:Nat) (b:Act),(∀o∈r,o.dst≠some d)→(actV S vs r k b).tmps[d]? =b.tmps[d]?
 | [],_,_,_=>rfl
 | o::r,k,b,h=>by
   unfold actV
   rw[actV_keep r (k+1) _ fun o' ho'=>h o' (by simp[ho'])]
   split
   ·have:=h o (by simp)
    cases hd:o.dst with
    | none=>rfl
    | some e=>
      rw[hd] at this
      simp only[Act.put]
      rw[Array.getElem?_setIfInBounds_ne (fun q=>this (by rw[q]))]
   ·rfl
theorem actV_get {S:Nat→Bool} {vs:Nat→Value} {d:Tmp}: ∀(r:List Oper) (k:Nat) (b:Act) (i:Nat) (o:Oper),r[i]? =some o→o.dst=some d→S (k+i)=true→(∀j o2,r[j]? =some o2→j≠i→o2.dst≠some d)→d<b.tmps.size→(actV S vs r k b).tmps[d]? =some (vs (k+i))
 | [],_,_,_,_,h,_,_,_,_=>by simp at h
 | o'::r,k,b,0,o,h,hd,hS,hu,hz=>by
   obtain rfl:o'=o:=by simpa using h
   rw[Nat.add_zero] at hS⊢
   unfold actV
   rw[hS,actV_keep r (k+1) _ fun o2 ho2=>by
    obtain⟨j,hj⟩:=List.getElem?_of_mem ho2
    exact hu (j+1) o2 (by simpa using hj) (by omega)]
   simp only[if_true,hd,Act.put]
   rw[Array.getElem?_setIfInBounds_self_of_lt hz]
 | o'::r,k,b,i+1,o,h,hd,hS,hu,hz=>by
   unfold actV
   rw[actV_get r (k+1) _ i o (by simpa using h) hd (by rwa [show k+1+i=k+(i+1) by omega]) (fun j o2 hj hji=>hu (j+1) o2 (by simpa using hj) (by omega)) (by split<;>(try simp only[put_size])<;>exact hz)]
   rw[show k+1+i=k+(i+1) by omega]
section
variable {l:List Oper}
theorem freG_parts (h:freG l=true):Region.noSelect l.toArray=true∧ ∀i o,l[i]? =some o→(∀e∈o.after,Region.binds .any e=true→e.on<i)∧(∀k o',l[k]? =some o'→i≠k→ ∀d,o.dst=some d→o'.dst≠some d)∧
  ∀k o' t,l[k]? =some o'→o'.dst=some t→t∈o.looksAt l.toArray→reachB l l.length i k=true∨reachB l l.length k i=true:=by
 unfold freG at h
 rw[Bool.and_eq_true,List.all_eq_true] at h
 refine⟨h.1,fun i o ho=> ?_⟩
 have hi:i<l.length:=(List.getElem?_eq_some_iff.1 ho).1
 have h1:=h.2 i (List.mem_range.2 hi)
 rw[ho] at h1
 simp only[Bool.and_eq_true,List.all_eq_true,List.mem_range] at h1
 obtain⟨h3,h4⟩:=h1
 refine⟨fun e he hb=> ?_,fun k o' hk hik d hd hd'=> ?_,fun k o' t hk ht hl=> ?_⟩
 ·have:=Array.all_eq_true_iff_forall_mem.1 h3 e he
  rw[hb] at this
  simpa using this
 ·have h5:=h4 k ((List.getElem?_eq_some_iff.1 hk).1)
  rw[hk] at h5
  simp only[Bool.and_eq_true,Bool.or_eq_true,decide_eq_true_eq] at h5
  rcases h5.1 with (h6 | h6) | h6
  ·exact hik h6
  ·rw[hd,hd'] at h6;simp at h6
  ·rw[hd] at h6;simp at h6
 ·have h5:=h4 k ((List.getElem?_eq_some_iff.1 hk).1)
  rw[hk] at h5
  simp only[Bool.and_eq_true] at h5
  have h6:=h5.2
  rw[ht] at h6
  simp only[Bool.or_eq_true,Bool.not_eq_true'] at h6
  rcases h6 with (h6 | h6) | h6
  ·rw[List.contains_iff_mem.2 hl] at h6;cases h6
  ·exact .inl h6
  ·exact .inr h6
theorem reach_ltG (hB:freG l=true): ∀(f i j:Nat),reachB l f i j=true→j<i
 | 0,_,_,h=>by cases h
 | f+1,i,j,h=>by
   unfold reachB at h
   cases ho:l[i]? with
   | none=>rw[ho] at h;cases h
   | some o=>
     rw[ho] at h
     simp only[List.any_eq_true,Array.mem_toList_iff,Bool.and_eq_true,Bool.or_eq_true,beq_iff_eq] at h
     obtain⟨e,he,hb,h⟩:=h
     have h1:=((freG_parts hB).2 i o ho).1 e he hb
     rcases h with h | h
     ·omega
     ·have:=reach_ltG hB f e.on j h;omega
end
section
variable {P:Program} {I Hs:World→Prop} {D:List Nat} {J:Nat→World→Prop} {l:List Oper} {L:List Sg} {T:List (Option (World→World→Prop))} {w:World} {a:Act} {Q:Exit→Act→World→Prop} {G:List Nat}
theorem obwG_at {vs:Nat→Value} (hvs: ∀j,j<l.length→(sgA L j).pick (vs j)=vs j): ∀(r:List Oper) (ss:List Sg) (k:Nat) (b:Act),(∀j,r[j]? =l[k+j]?)→(∀j,ss.getD j (.val undef)=sgA L (k+j))→ObwG G P J l L T vs Q r ss k b→
  (∀i o,r[i]? =some o→G.contains (k+i)=false→ ∀W K Q0,Hid (J (k+i) W)→Hid (∀j,reachB l l.length (k+i) j=true→(sgA L j).R (maskV l j vs) W (vs j))→Hid (∀v W',tnA T (k+i) W W'→(sgA L (k+i)).R (maskV l (k+i) vs) W' v→K ((actV (fun j=>decide (j<k+i)) vs r k b).put o.dst v) W')→o.wp P (actV (fun j=>decide (j<k+i)) vs r k b) W K Q0)∧
  (∀W',Hid (J l.length W')→Hid (∀j,j<l.length→(sgA L j).R (maskV l j vs) W' (vs j))→Q .normal (actV (fun _=>true) vs r k b) W')
 | [],_,_,_,_,_,h=>⟨fun i o ho _=>by simp at ho,h⟩
 | _::_,[],_,_,_,_,h=>h.elim
 | o::r,s::ss,k,b,hr,hs,h=>by
   obtain⟨h1,h2⟩:=h
   have hs0:s=sgA L k:=by simpa using hs 0
   have hk:k<l.length:=by
    have:=hr 0
    rw[Nat.add_zero] at this
    exact(List.getElem?_eq_some_iff.1 this.symm).1
   rw[hs0,hvs k hk] at h2
   have hn:=obwG_at hvs r ss (k+1) _ (fun j=>by have:=hr (j+1);rw[show k+(j+1)=k+1+j by omega] at this;simpa using this) (fun j=>by have:=hs (j+1);rw[show k+(j+1)=k+1+j by omega] at this;simpa using this) h2
   refine⟨fun i o' ho' hG'=> ?_,?_⟩
   ·cases i with
    | zero=>
      obtain rfl:o=o':=by simpa using ho'
      have e:actV (fun j=>decide (j<k+0)) vs (o::r) k b=b:=by
       unfold actV
       rw[decide_eq_false (by omega)]
       have: ∀(r:List Oper) (k2:Nat) (b:Act),k≤k2→actV (fun j=>decide (j<k+0)) vs r k2 b=b:=by
        intro r
        induction r with
        | nil=>intros;rfl
        | cons o r ih=>
          intro k2 b hk2
          unfold actV
          rw[decide_eq_false (by omega)]
          exact ih (k2+1) b (by omega)
       exact this r (k+1) b (by omega)
      rw[Nat.add_zero] at hG'
      rw[e,Nat.add_zero,←hs0]
      rw[hG'] at h1
      exact h1
    | succ i=>
      have e:k+(i+1)=k+1+i:=by omega
      rw[e] at hG'
      have:=hn.1 i o' (by simpa using ho') hG'
      rw[e]
      unfold actV
      rw[decide_eq_true (by omega)]
      exact this
   ·exact hn.2
theorem gen_anyG (hB:freG l=true) (hgB:gdB l L G=true) (hGo:GOff L T G) (hsz: ∀(i:Nat) (o:Oper),l[i]? =some o→ ∀t,o.dst=some t→t<a.tmps.size)
  (hIT: ∀t,some t∈T→ ∀W W',I W→t W W'→I W') (hHT:ItD I Hs D T 0 T) (hst:Stb I L T (clG l L T)) (h: ∀vs,ObwG G P (JH I Hs l D) l L T vs Q l L 0 a): ∀(fuel:Nat) (listed:Array Bool) (vs:Nat→Value) (W:World),
  ((List.range l.length).filter fun j=> !listed.getD j false).length=fuel→Cl l.toArray listed→I W→((∀d∈D,listed.getD d false=false)→Hs W)→(∀j,j<l.length→(sgA L j).pick (vs j)=vs j)→(∀j,listed.getD j false=true→(sgA L j).R (maskV l j vs) W (vs j))→
  wpAny P .any l.toArray Q fuel listed (actV (fun j=>listed.getD j false) vs l 0 a) W:=by
 have hI: ∀k W W',I W→tnA T k W W'→I W':=fun k W W' hi ht=>by
  unfold tnA at ht
  cases e:T.getD k none with
  | none=>rw[e] at ht;rw[show W'=W from ht];exact hi
  | some t=>
    rw[e] at ht
    refine hIT t ?_ W W' hi ht
    rw[List.getD_eq_getElem?_getD] at e
    cases e2:T[k]? with
    | none=>rw[e2] at e;cases e
    | some q=>rw[e2] at e;simp only[Option.getD_some] at e;subst e;exact List.mem_of_getElem? e2
 have hH: ∀k W W',I W→k∉D→Hs W→tnA T k W W'→Hs W':=fun k W W' hi hk hs ht=>by
  unfold tnA at ht
  cases e:T.getD k none with
  | none=>rw[e] at ht;rw[show W'=W from ht];exact hs
  | some t=>
    rw[e] at ht
    rw[List.getD_eq_getElem?_getD] at e
    cases e2:T[k]? with
    | none=>rw[e2] at e;cases e
    | some q=>
      rw[e2] at e;simp only[Option.getD_some] at e;subst e
      rcases hHT.at k t e2 with h | h
      ·rw[Nat.zero_add] at h;exact absurd h hk
      ·exact h W W' hi hs ht
 have all: ∀(listed:Array Bool) (vs:Nat→Value) (W:World),Cl l.toArray listed→I W→((∀d∈D,listed.getD d false=false)→Hs W)→(∀j,j<l.length→(sgA L j).pick (vs j)=vs j)→(∀j,listed.getD j false=true→(sgA L j).R (maskV l j vs) W (vs j))→(∀j,j<l.length→listed.getD j false=true)→Q .normal (actV (fun j=>listed.getD j false) vs l 0 a) W:=fun listed vs W hc hb hd hp hr hl=>by
  have:=(obwG_at hp l L 0 a (fun j=>by rw[Nat.zero_add]) (fun j=>by rw[Nat.zero_add];rfl) (h vs)).2 W (hDD ⟨hb,fun ok=>hd fun d hd'=>by
   have h1:=List.all_eq_true.1 ok d hd'
   simp only[Bool.or_eq_true,beq_iff_eq] at h1
   rcases h1 with h1 | h1
   ·rw[Array.getD_eq_getD_getElem?,Array.getElem?_eq_none (by rw[hc.1,h1];simp)];rfl
   ·have h2:=reach_ltG hB _ _ _ h1
    rw[Array.getD_eq_getD_getElem?,Array.getElem?_eq_none (by rw[hc.1];simp;omega)];rfl⟩) (hDD fun j hj=>hr j (hl j hj))
  rwa [actV_congr (S':=fun _=>true) (vs':=vs) l 0 a fun j hj=>by rw[Nat.zero_add];exact⟨hl j hj,fun _=>rfl⟩]
 have none_ready: ∀(listed:Array Bool),Cl l.toArray listed→Region.ready .any l.toArray listed= []→ ∀j,j<l.length→listed.getD j false=true:=fun listed hc hr j=>by
  induction j using Nat.strongRecOn with
  | _ j ih=>
    intro hj
    by_cases q:listed.getD j false=true
    ·exact q
    ·exfalso
     have:j∈Region.ready .any l.toArray listed:=by
      rw[mem_ready]
      refine⟨by rw[getD_tf (by rw[hc.1];simpa using hj)];simpa using q,l[j],by simp[hj],fun e he hb=> ?_⟩
      have:=((freG_parts hB).2 j l[j] (List.getElem?_eq_getElem hj)).1 e he hb
      exact ih e.on this (by omega)
     rw[hr] at this
     cases this
 intro fuel
 induction fuel with
 | zero=>
   intro listed vs W hf hc hb hd hp hr
   have hl: ∀j,j<l.length→listed.getD j false=true:=fun j hj=>by
    have:=List.filter_eq_nil_iff.1 (List.eq_nil_of_length_eq_zero hf) j (List.mem_range.2 hj)
    simpa using this
   refine⟨?_,all listed vs W hc hb hd hp hr hl⟩
   cases hq:Region.ready .any l.toArray listed with
   | nil=>rfl
   | cons i r=>
     obtain⟨h1,o,ho,_⟩:=mem_ready.1 (show i∈Region.ready .any l.toArray listed by rw[hq];simp)
     have hi:i<l.length:=by simpa using (Array.getElem?_eq_some_iff.1 ho).1
     rw[getD_tf (by rw[hc.1];simpa using hi),hl i hi] at h1
     cases h1
 | succ fuel ih=>
   intro listed vs W hf hc hb hd hp hr
   refine⟨fun h0=>all listed vs W hc hb hd hp hr (none_ready listed hc h0),fun i hi=> ?_⟩
   obtain⟨h1,o,ho,hdeps⟩:=mem_ready.1 hi
   have ho':l[i]? =some o:=by simpa using ho
   have hil:i<l.length:=(List.getElem?_eq_some_iff.1 ho').1
   have his:i<listed.size:=by rw[hc.1];simpa using hil
   have hif:listed.getD i false=false:=by rw[←getD_tf his];exact h1
   obtain⟨_,hdst,hlook⟩:=(freG_parts hB).2 i o ho'
   have hsel:=fun (cs:Array SelectCase) (b:Bool)=>Region.noSelect_spec (freG_parts hB).1 i o cs b ho
   have hob0:=(obwG_at hp l L 0 a (fun j=>by rw[Nat.zero_add]) (fun j=>by rw[Nat.zero_add];rfl) (h vs)).1 i o ho'
   rw[Nat.zero_add] at hob0
   have hlst: ∀j,reachB l l.length i j=true→listed.getD j false=true:=fun j hj=>reach_listed hc l.length i j (fun o2 ho2 e he hb=>by rw[ho'] at ho2;injection ho2 with ho2;subst ho2;exact hdeps e he hb) hj
   have hno: ∀j,listed.getD j false=true→reachB l l.length j i=false:=fun j hj=>by
    cases q:reachB l l.length j i with
    | false=>rfl
    | true=>
      have:=reach_listed hc l.length j i (fun o2 ho2 e he hb=>hc.2 j o2 (by simpa using ho2) hj e he hb) q
      rw[hif] at this
      cases this
   have hwant:Region.wanted o (yielded l.toArray (actV (fun j=>listed.getD j false) vs l 0 a).tmps)= !G.contains i:=by
    have h1:=List.all_eq_true.1 hgB i (List.mem_range.2 hil)
    rw[ho'] at h1
    cases hq:o.guard with
    | none=>
      simp only[hq] at h1
      rw[wanted_none hq,h1]
    | some p=>
      obtain⟨j,want⟩:=p
      simp only[hq,Bool.and_eq_true] at h1
      obtain⟨⟨h2,h3⟩,h4⟩:=h1
      have hjl:=hlst j h2
      cases hlj:l[j]? with
      | none=>rw[hlj] at h3;cases h3
      | some oj=>
        cases hdj:oj.dst with
        | none=>rw[hlj] at h3;simp only[Option.bind_some,hdj] at h3;cases h3
        | some d=>
          have hrj:=hr j hjl
          have hjn:j<l.length:=(List.getElem?_eq_some_iff.1 hlj).1
          have hy:yielded l.toArray (actV (fun j=>listed.getD j false) vs l 0 a).tmps j=(match vs j with | .bool b=>some b | _=>none):=by
           have hg:=actV_get (S:=fun j=>listed.getD j false) (vs:=vs) (d:=d) l 0 a j oj hlj hdj (by rw[Nat.zero_add];exact hjl) (fun m o2 hm hmj=>((freG_parts hB).2 j oj hlj).2.1 m o2 hm (fun e=>hmj e.symm) d hdj) (hsz j oj hlj d hdj)
           rw[Nat.zero_add] at hg
           unfold yielded
           simp only[List.getElem?_toArray,hlj,Option.bind_some,hdj,hg]
           cases vs j<;>rfl
          cases hsj:sgA L j with
          | pur q=>rw[hsj] at h4;cases h4
          | mem q=>rw[hsj] at h4;cases h4
          | val c=>
            rw[hsj] at h4 hrj
            have hvj:vs j=c:=hrj
            cases c with
            | bool b=>
              unfold Region.wanted
              rw[hq]
              simp only[hy,hvj]
              simp only[beq_iff_eq] at h4
              rw[←h4]
              cases b<;>cases want<;>rfl
            | _=>cases h4
   have tail: ∀v W',tnA T i W W'→(sgA L i).R (maskV l i vs) W' v→wpAny P .any l.toArray Q fuel (listed.setIfInBounds i true) ((actV (fun j=>listed.getD j false) vs l 0 a).put o.dst v) W':=fun v W' hbv hv=>by
    have e:=actV_set (S:=fun j=>listed.getD j false) (vs:=vs) (v:=v) l 0 a i o ho' (by rw[Nat.zero_add];exact hif) fun j o2 hj hij d hd=>hdst j o2 hj hij d hd
    rw[Nat.zero_add] at e
    rw[e]
    rw[actV_congr (S':=fun j=>(listed.setIfInBounds i true).getD j false) (vs':=fun j=>if j=i then v else vs j) l 0 a fun j hj=>⟨by
     rw[Nat.zero_add]
     by_cases q:j=i
     ·subst q;simp[his]
     ·rw[decide_eq_false q,Bool.or_false,getD_set_ne false (fun e=>q e.symm)],fun _=>rfl⟩]
    have hset: ∀j,(listed.setIfInBounds i true).getD j false=true→j≠i→listed.getD j false=true:=fun j hj q=>by
     rwa [getD_set_ne false (fun e=>q e.symm)] at hj
    have hmask: ∀j,reachB l l.length j i=false→maskV l j (fun m=>if m=i then v else vs m)=maskV l j vs:=fun j hj=>by
     funext m
     unfold maskV
     by_cases q:m=i
     ·subst q;rw[if_neg (by simp[hj]),if_neg (by simp[hj])]
     ·simp only[if_neg q]
    have hii:reachB l l.length i i=false:=by
     cases q:reachB l l.length i i with
     | false=>rfl
     | true=>have:=reach_ltG hB _ _ _ q;omega
    have hI':I W':=hI i W W' hb hbv
    refine ih (listed.setIfInBounds i true) _ W' ?_ (hc.set hi) hI' (fun hd'=> ?_) (fun j hj=> ?_) (fun j hj=> ?_)
    ·have:=nlisted_set his hif l.length hil
     omega
    ·have hni:i∉D:=fun hm=>by have:=hd' i hm;simp[his] at this
     exact hH i W W' hb hni (hd fun d hdm=>by
      have hne:i≠d:=fun e=>hni (e▸hdm)
      have:=hd' d hdm
      rwa [getD_set_ne false hne] at this) hbv
    ·by_cases q:j=i
     ·subst q;simp only[if_true];exact Sg.pick_of _ _ hv
     ·simp only[if_neg q];exact hp j hj
    ·by_cases q:j=i
     ·subst q;simp only[if_true];rw[hmask _ hii];exact hv
     ·simp only[if_neg q]
      have hjl:=hset j hj q
      rw[hmask j (hno j hjl)]
      have hjn:j<l.length:=by
       by_cases q:j<l.length
       ·exact q
       ·rw[Array.getD_eq_getD_getElem?,Array.getElem?_eq_none (by rw[hc.1];simpa using q)] at hjl
        cases hjl
      have hold:=hr j hjl
      cases hs:sgA L j with
      | val c=>rw[hs] at hold;exact hold
      | pur p=>rw[hs] at hold;exact hold
      | mem p=>
        cases ht:T.getD i none with
        | none=>
          have:W'=W:=by unfold tnA at hbv;rw[ht] at hbv;exact hbv
          rw[this,←hs];exact hold
        | some t=>
          rw[←hs]
          refine hst.at (j,i) ?_ _ W W' _ hb hI' hbv hold
          unfold clG
          refine List.mem_flatMap.2 ⟨j,List.mem_range.2 hjn,List.mem_filterMap.2 ⟨i,List.mem_range.2 hil,?_⟩⟩
          rw[if_pos]
          simp only[hs,ht,Sg.isMem,Option.isSome_some,hno j hjl,Bool.not_false,Bool.and_true,Bool.true_and]
          simpa using q
   unfold wpOp
   simp only[ho]
   cases hGi:G.contains i with
   | true=>
     rw[hGi] at hwant
     rw[if_neg (by rw[hwant];decide)]
     obtain⟨hu,ht⟩:=hGo.at i hGi
     refine tail undef W ?_ ?_
     ·unfold tnA;rw[ht]
     ·rw[hu];rfl
   | false=>
   have hob:=hob0 hGi
   have hwp:=hob W (fun c W'=> ∃v,c=(actV (fun j=>decide (j<i)) vs l 0 a).put o.dst v∧(tnA T i W W'∧(sgA L i).R (maskV l i vs) W' v)) (fun e _ _=>e= .outgrown∧False) (hDD ⟨hb,fun ok=>hd fun d hd'=>by
    have h1:=List.all_eq_true.1 ok d hd'
    simp only[Bool.or_eq_true,beq_iff_eq] at h1
    rcases h1 with h1 | h1
    ·rw[h1];exact hif
    ·cases q:listed.getD d false with
     | false=>rfl
     | true=>have:=hno d q;rw[h1] at this;cases this⟩) (hDD fun j hj=>hr j (hlst j hj)) (hDD fun v W' hbv hv=>⟨v,rfl,hbv,hv⟩)
   rw[hGi] at hwant
   rw[if_pos (by rw[hwant];rfl)]
   refine .inl (wp_swap ?_ hwp (fun t ht=> ?_) fun v W' ⟨hbv,hv⟩=>tail v W' hbv hv)
   ·refine execOp_congr o (fun cs b e=>hsel cs b e) fun x hx=> ?_
    cases x with
    | tmp t=>
      refine actV_eval l 0 a a rfl rfl fun k o' hk hd=> ?_
      rw[Nat.zero_add]
      have ht:t∈o.looksAt l.toArray:=List.mem_append_left _ (List.mem_filterMap.2 ⟨.tmp t,by simpa using hx,rfl⟩)
      rcases hlook k o' t hk hd ht with q | q
      ·rw[hlst k q,decide_eq_true (reach_ltG hB _ _ _ q)]
      ·have hki:=reach_ltG hB _ _ _ q
       rw[decide_eq_false (by omega)]
       cases hkl:listed.getD k false with
       | false=>rfl
       | true=>
         exfalso
         have:=hno k hkl
         rw[q] at this
         cases this
    | const v=>rfl
    | global g=>rfl
    | func f=>rfl
   ·have: ∀(S:Nat→Bool) (r:List Oper) (k:Nat) (b:Act),(actV S vs r k b).tmps.size=b.tmps.size:=by
     intro S r
     induction r with
     | nil=>intros;rfl
     | cons o r ih=>intro k b;unfold actV;rw[ih];split;exact put_size _ _ _;rfl
    rw[this]
    exact hsz i o ho' t ht
theorem wp_region_genG {id:Nat} (G:List Nat) (L:List Sg) (T:List (Option (World→World→Prop))) (I Hs:World→Prop) (D:List Nat) (X:List (Nat×Nat)) (hm:P.follows .mixedOrders=true) (hB:freG l=true) (hgB:gdB l L G=true) (hGo:GOff L T G) (hX:clG l L T=X) (hsz:(l.all fun o=>match o.dst with | some t=>decide (t<a.tmps.size) | none=>true)=true)
  (hI0:I w.drew) (hH0:Hs w.drew) (hIT:Its I T) (hHT:ItD I Hs D T 0 T) (hst:Stb I L T X)
  (h: ∀vs,ObwG G P (JH I Hs l D) l L T vs Q l L 0 a):(Code.region id l.toArray true).wp P Q a w:=by
 refine wp_region_any hm ?_
 subst hX
 have hv: ∀j,j<l.length→(sgA L j).pick ((sgA L j).pick undef)=(sgA L j).pick undef:=fun j _=>by cases sgA L j<;>rfl
 have h0: ∀j,(Array.replicate l.toArray.size false).getD j false=false:=fun j=>by
  simp only[Array.getD_eq_getD_getElem?,Array.getElem?_replicate]
  split<;>rfl
 have:=gen_anyG (P:=P) (Q:=Q) (G:=G) hB hgB hGo (fun i o ho t ht=>by
  have:=List.all_eq_true.1 hsz o (List.mem_of_getElem? ho)
  rw[ht] at this
  simpa using this) hIT.at hHT hst h l.toArray.size (Array.replicate l.toArray.size false) (fun j=>(sgA L j).pick undef) w.drew (by
   have:(List.range l.length).filter (fun j=> !(Array.replicate l.toArray.size false).getD j false)=List.range l.length:=List.filter_eq_self.2 fun j _=>by rw[h0];rfl
   rw[this];simp) ⟨by simp,fun j o _ hj=>by rw[h0] at hj;cases hj⟩ hI0 (fun _=>hH0) hv (fun j hj=>by rw[h0] at hj;cases hj)
 have e:actV (fun j=>(Array.replicate l.toArray.size false).getD j false) (fun j=>(sgA L j).pick undef) l 0 a=a:=by
  have: ∀(r:List Oper) (k:Nat) (b:Act),actV (fun j=>(Array.replicate l.toArray.size false).getD j false) (fun j=>(sgA L j).pick undef) r k b=b:=by
   intro r
   induction r with
   | nil=>intros;rfl
   | cons o r ih=>intro k b;unfold actV;rw[h0];exact ih _ _
  exact this l 0 a
 rw[e] at this
 exact this
end
end Go.Proofs.YteobmaambgmdbaaGreat
namespace Go.Proofs.YteobmaambgmdbaaGreat
set_option maxRecDepth 20000
set_option linter.unusedVariables false
set_option linter.unusedSimpArgs false
open Go.RowKit
set_option maxHeartbeats 2000000 in
theorem implPathWordO_any (v:Value) (g:GrD) (y:Nat) (w:World) (h:ArgG w v g) (hf:foldB g=true) (hy:(y:Int)∈canO g):
  Calls Tryz.prog 123 #[v, .int .i64 0, .int .i64 y] w fun e w'=> ∃r,e= .returned (.tuple #[r, .bool true])∧OwI w' w.heap.size r (wdO g y)∧Below w.heap.size w w':=by
 have HG:=hDD h
 have HF:=hDD hf
 have hgr:=(foldB_parts hf).1
 obtain⟨h13,h40,h120,_⟩:=grB_parts hgr
 have hyr:=(canO_ok hgr).2.1 _ hy
 have HY:=hDD hy
 obtain⟨s,rfl,hi1,hi2,hga⟩:=h
 obtain⟨A,cap,rfl⟩:=hga.form
 obtain⟨g1,N,es⟩:=g
 simp only at*
 clear hga hf hgr hy
 have qT: ∀(w:World) (a:Option Addr) (n c n' c':Nat),(binOp .eql 27 (.slice a n c) (.slice none n' c')).run Tryz.prog w= .ok (.bool a.isNone) w:=fun w a n c n' c'=>Lib.run_eql_slice_nil w _ _ a n c n' c' Tryz.underlying27
 go_enter Tryz.func123,Tryz.ntmps123
 go_wp2_with fail
 obtain⟨W,hW⟩: ∃W,W=w.alloc (Obj.cells #[.int .i64 g1, .int .i64 N, .slice A es.length cap] 26):=⟨_,rfl⟩
 rw[←hW]
 obtain⟨xG,bG,sG⟩:=CBx.new hW
 clear hW
 have XG:=hDD xG
 have BX:=hDD bG
 have hsW:w.heap.size+1≤W.heap.size:=by omega
 clear xG bG sG
 have HA:Hid (∀w',Below W.heap.size W w'→ArgG w' (.agg #[.int .i64 g1, .int .i64 N, .slice A es.length cap]) (g1,N,es)):=hDD fun w' hb=>HG.out.below (BX.out.trans (hb.mono (by omega)))
 have HIF:=hDD (implIsFolded_any _ (g1,N,es) W (HA.out W (Below.refl _ _)))
 rw[HF.out] at HIF
 refine HIF.out.mono ?_
 clear HIF
 rintro e w1 ⟨rfl,b1⟩
 have B1:=hDD b1
 have hw1:=b1.size
 clear b1
 have HE1:Hid (inB 0 0 (wrap64 (N-1))=true):=hDD (by rw[IntWalk.wrap64_in _ ⟨by omega,by omega⟩];unfold inB;simp;omega)
 have HE2:Hid (inB (y:Int) 0 (wrap64 (N-1))=true):=hDD (by rw[IntWalk.wrap64_in _ ⟨by omega,by omega⟩];unfold inB;simp;omega)
 have uXG0:=(XG.out.below B1.out).c0
 have uXG1:=(XG.out.below B1.out).c1
 have uXG2:=(XG.out.below B1.out).c2
 go_wp2_with fail
 clear uXG0 uXG1 uXG2
 refine(grHas_any g1 N A es.length cap 0 w1).mono ?_
 rintro e w2 ⟨rfl,b2⟩
 rw[HE1.out]
 have B2:=hDD (B1.out.trans (b2.mono hw1))
 have hw2:=b2.size
 clear b2
 have uXG0:=(XG.out.below B2.out).c0
 have uXG1:=(XG.out.below B2.out).c1
 have uXG2:=(XG.out.below B2.out).c2
 go_wp2_with fail
 clear uXG0 uXG1 uXG2
 refine(grHas_any g1 N A es.length cap y w2).mono ?_
 rintro e w3 ⟨rfl,b3⟩
 rw[HE2.out]
 have B3:=hDD (B2.out.trans (b3.mono (by omega)))
 have hw3:=b3.size
 clear b3
 have uXG0:=(XG.out.below B3.out).c0
 have uXG1:=(XG.out.below B3.out).c1
 have uXG2:=(XG.out.below B3.out).c2
 go_wp2_with fail
 clear uXG0 uXG1 uXG2
 refine(treeX_any _ (g1,N,es) w3 (HA.out w3 B3.out) HF.out).mono ?_
 rintro e w4 ⟨r,P,rfl,hP,ht,_,b4⟩
 have B4:=hDD (B3.out.trans (b4.mono (by omega)))
 obtain⟨b,cb,hc,hown⟩:=ht.at_own (y:=y) (show y<N.toNat by omega) HY.out
 have hrd:=hown.mono (show w.heap.size≤P by omega)
 clear hown
 have HRD:=hDD hrd
 obtain⟨M,rfl⟩: ∃M:Nat,N=(M:Int):=⟨N.toNat,by omega⟩
 simp only[Int.toNat_natCast] at hc⊢
 have hyM:(y:Int)<(M:Int):=by omega
 obtain⟨ws,hws⟩: ∃ws,ws=wdO (g1,(M:Int),es) y:=⟨_,rfl⟩
 rw[←hws] at HRD hc
 have HWS:=hDD hws
 clear b4 ht hrd hws
 go_wp2
 exact bodyPost_ret (v:= .tuple #[.slice (some ⟨b,0,none⟩) ws.length cb, .bool true]) (by simp[results,Tryz.results123]) rfl ⟨_,rfl,by rw[←HWS.out];exact HRD.out,BX.out.trans (B4.out.mono (by omega))⟩
set_option maxHeartbeats 2000000 in
theorem implTreeWordO_any (v:Value) (g:GrD) (y:Nat) (w:World) (h:ArgG w v g) (hf:foldB g=true) (hy:(y:Int)∈canO g):
  Calls Tryz.prog 86 #[v, .int .i64 y] w fun e w'=> ∃r,e= .returned r∧OwI w' w.heap.size r (wdO g y)∧Below w.heap.size w w':=by
 have HG:=hDD h
 obtain⟨s,rfl,hi1,hi2,hga⟩:=h
 obtain⟨A,cap,rfl⟩:=hga.form
 obtain⟨g1,N,es⟩:=g
 simp only at*
 clear hga
 go_enter Tryz.func86,Tryz.ntmps86
 go_wp2_with fail
 obtain⟨W,hW⟩: ∃W,W=w.alloc (Obj.cells #[.int .i64 g1, .int .i64 N, .slice A es.length cap] 26):=⟨_,rfl⟩
 rw[←hW]
 obtain⟨xG,bG,sG⟩:=CBx.new hW
 clear hW
 have BX:=hDD bG
 have hsW:w.heap.size+1≤W.heap.size:=by omega
 clear xG bG sG
 refine(implPathWordO_any _ (g1,N,es) y W (HG.out.below BX.out) hf hy).mono ?_
 rintro e w1 ⟨r,rfl,hrd0,b1⟩
 have B1:=hDD b1
 have hrd:=hrd0.mono (show w.heap.size≤W.heap.size by omega)
 have HRD:=hDD hrd
 obtain⟨A1,c1,rfl,_⟩:=hrd.form
 clear b1 hrd
 obtain⟨ws,hws⟩: ∃ws,ws=wdO (g1,N,es) y:=⟨_,rfl⟩
 rw[←hws] at HRD⊢
 have HWS:=hDD hws
 clear hws
 go_wp2
 go_ret
 exact⟨_,rfl,by rw[←HWS.out];exact HRD.out,BX.out.trans (B1.out.mono (by omega))⟩
end Go.Proofs.YteobmaambgmdbaaGreat
namespace Go.Proofs.YteobmaambgmdbaaGreat
set_option maxRecDepth 20000
set_option linter.unusedVariables false
set_option linter.unusedSimpArgs false
open Go.RowKit
end Go.Proofs.YteobmaambgmdbaaGreat
namespace Go.Proofs.YteobmaambgmdbaaGreat
set_option maxRecDepth 20000
set_option linter.unusedVariables false
set_option linter.unusedSimpArgs false
open Go.RowKit
end Go.Proofs.YteobmaambgmdbaaGreat
namespace Go.Proofs.YteobmaambgmdbaaGreat
set_option maxRecDepth 20000
set_option linter.unusedVariables false
set_option linter.unusedSimpArgs false
open Go.ChangeShapes Go.WideShapes Go.ChangeAt Go.RowKit
theorem laidOut:laidOutB Tryz.prog=true:=by kernel_rfl
theorem own:ownKnob Tryz.prog.godebug=none:=by kernel_rfl
end Go.Proofs.YteobmaambgmdbaaGreat
namespace Go.Proofs.YteobmaambgmdbaaGreat
set_option maxRecDepth 20000
set_option linter.unusedVariables false
set_option linter.unusedSimpArgs false
open Go.RowKit
theorem ArgE.same {w w':World} {v:Value} {es:List EdD} (h:ArgE w v es) (hs: ∀b,b<w.heap.size→w'.heap[b]? =w.heap[b]?):ArgE w' v es:=by
 obtain⟨A,cap,hv,hc,hm,hn,hr,hx⟩:=h
 refine⟨A,cap,hv,hc,hm,hn,hr,fun h0=> ?_⟩
 obtain⟨b,off,hA,hlt,hx⟩:=hx h0
 have hh:=hs b hlt
 refine⟨b,off,hA,?_,fun k hk=> ?_⟩
 ·rw[Array.getElem?_eq_getElem hlt] at hh
  exact lt_of_heap hh
 ·obtain⟨h1,h2,h3⟩:=hx k hk
  exact⟨(World.cell?_of_block (w:=w) hh).trans h1,(World.cell?_of_block (w:=w) hh).trans h2,(World.cell?_of_block (w:=w) hh).trans h3⟩
theorem ArgG.same {w w':World} {v:Value} {g:GrD} (h:ArgG w v g) (hs: ∀b,b<w.heap.size→w'.heap[b]? =w.heap[b]?):ArgG w' v g:=by
 obtain⟨s,hv,h1,h2,ha⟩:=h
 exact⟨s,hv,h1,h2,ha.same hs⟩
theorem ArgG.ob {w:World} {v:Value} {d:GrD} (h:ArgG w v d):Ob (Kept w fun w=>ArgG w v d) 0 w.heap.size w:=Kept.ob h
def OE (lo hi:Nat) (v:Value) (es:List EdD) (w:World):Prop:=OwE w lo v es∧ ∀b,v.ownBlock=some b→b<hi
theorem OE.loc {lo hi:Nat} {v:Value} {es:List EdD}:Loc (OE lo hi v es) lo hi:=by
 intro u u' hu hb
 exact⟨hu.1.keep fun b hv=>hb b (hu.1.1.lt b hv).1 (hu.2 b hv),hu.2⟩
theorem OwE.ob {w:World} {lo:Nat} {v:Value} {es:List EdD} (h:OwE w lo v es):Ob (OE lo w.heap.size v es) lo w.heap.size w:=
 ⟨⟨h,fun b hb=>(h.1.lt b hb).2⟩,OE.loc,Nat.le_refl _⟩
def OG (lo hi:Nat) (v:Value) (d:GrD) (w:World):Prop:= ∃s,v= .agg #[.int .i64 d.1, .int .i64 d.2.1,s]∧I64 d.1∧I64 d.2.1∧OE lo hi s d.2.2 w
theorem OG.arg {lo hi:Nat} {v:Value} {d:GrD} {w:World} (h:OG lo hi v d w):ArgG w v d:=by
 obtain⟨s,hv,h1,h2,ho⟩:=h
 exact⟨s,hv,h1,h2,ho.1.arg⟩
theorem OG.own {lo hi:Nat} {v:Value} {d:GrD} {w:World} (h:OG lo hi v d w):OwG w lo v d:=by
 obtain⟨s,hv,h1,h2,ho⟩:=h
 exact⟨s,hv,h1,h2,ho.1⟩
theorem OG.loc {lo hi:Nat} {v:Value} {d:GrD}:Loc (OG lo hi v d) lo hi:=by
 intro u u' hu hb
 obtain⟨s,hv,h1,h2,ho⟩:=hu
 exact⟨s,hv,h1,h2,OE.loc u u' ho hb⟩
theorem OwG.ob {w:World} {lo:Nat} {v:Value} {d:GrD} (h:OwG w lo v d):Ob (OG lo w.heap.size v d) lo w.heap.size w:=by
 obtain⟨s,hv,h1,h2,ho⟩:=h
 exact⟨⟨s,hv,h1,h2,ho.ob.holds⟩,OG.loc,Nat.le_refl _⟩
end Go.Proofs.YteobmaambgmdbaaGreat
namespace Go.Proofs.YteobmaambgmdbaaGreat
set_option maxRecDepth 20000
set_option linter.unusedVariables false
set_option linter.unusedSimpArgs false
open Go.RowKit
end Go.Proofs.YteobmaambgmdbaaGreat
namespace Go.Proofs.YteobmaambgmdbaaGreat
set_option maxRecDepth 20000
set_option linter.unusedVariables false
set_option linter.unusedSimpArgs false
open Go.RowKit
end Go.Proofs.YteobmaambgmdbaaGreat
namespace Go.Proofs.YteobmaambgmdbaaGreat
set_option maxRecDepth 20000
set_option linter.unusedVariables false
set_option linter.unusedSimpArgs false
open Go.RowKit
def misV (g:GrD) (v:Int) (ls:List Int):List EdD:=(ls.filter fun x=>decide (nextV g.2.2 v x<0)).map fun x=>(v,x,-1)
def misU (g:GrD):Nat→List EdD
 | 0=> []
 | k+1=>misU g k++misV g (k:Int) (lettersL g.1.toNat)
def finB (g:GrD):Bool:=coreB g&&decide ((misU g g.2.1.toNat).length=0)
theorem misV_succ (g:GrD) (v:Int) (ls:List Int) (j:Nat) (h:j<ls.length):misV g v (ls.take (j+1))=misV g v (ls.take j)++if nextV g.2.2 v ls[j]<0 then [(v,ls[j],-1)] else []:=by
 unfold misV
 rw[List.take_succ_eq_append_getElem h,List.filter_append,List.map_append]
 congr 1
 split
 ·rename_i h1;simp[h1]
 ·rename_i h1;simp[h1]
theorem misV_len (g:GrD) (v:Int) (ls:List Int):(misV g v ls).length≤ls.length:=by
 unfold misV
 rw[List.length_map]
 exact List.length_filter_le _ _
theorem misU_len (g:GrD): ∀k,(misU g k).length≤k*(2*g.1.toNat)
 | 0=>by simp[misU]
 | k+1=>by
   have h1:=misU_len g k
   have h2:=misV_len g (k:Int) (lettersL g.1.toNat)
   rw[lettersL_len] at h2
   unfold misU
   rw[List.length_append,Nat.succ_mul]
   omega
set_option maxHeartbeats 2000000 in
theorem specMissingSteps_any (v:Value) (g:GrD) (w:World) (h:ArgG w v g) (hf:foldB g=true):
  Calls Tryz.prog 42 #[v] w fun e w'=> ∃r,e= .returned r∧OwE w' w.heap.size r (misU g g.2.1.toNat)∧Below w.heap.size w w':=by
 have HG:=hDD h
 have HF:=hDD hf
 have hgr:=(foldB_parts hf).1
 have ONE:=hDD (steps_one (foldB_parts hf).2)
 obtain⟨h13,h40,h120,_⟩:=grB_parts hgr
 obtain⟨n,hn⟩: ∃n:Nat,g.2.1=(n:Int):=⟨g.2.1.toNat,by omega⟩
 obtain⟨r,hr⟩: ∃r:Nat,g.1=(r:Int):=⟨g.1.toNat,by omega⟩
 obtain⟨s,rfl,hi1,hi2,ha⟩:=h
 obtain⟨A,cap,rfl⟩:=ha.form
 obtain⟨g1,N,es⟩:=g
 simp only at*
 subst hn hr
 have HMS:Hid (∀k,misU ((r:Int),(n:Int),es) (k+1)=misU ((r:Int),(n:Int),es) k++misV ((r:Int),(n:Int),es) (k:Int) (lettersL r)):=hDD fun k=>rfl
 have HML:Hid (∀k,(misU ((r:Int),(n:Int),es) k).length≤k*(2*r)):=hDD fun k=>misU_len _ k
 have HLL:=hDD (lettersL_len r)
 have hl64:=lettersL_I64 (n:=r) (by omega)
 have HLE:=hDD (fun W=>l5Letters_any r W (by omega))
 clear ha hf hgr
 simp only[Int.toNat_natCast]
 generalize lettersL r=ls at*
 have HL64:=hDD hl64
 clear hl64
 go_enter Tryz.func42,Tryz.ntmps42
 go_wp2_with fail
 obtain⟨W1,hW1⟩: ∃W,W=w.alloc (Obj.cells #[Value.int IntKind.i64 (r:Int),Value.int IntKind.i64 (n:Int), .slice A es.length cap] 26):=⟨_,rfl⟩
 obtain⟨hs1,b1,hc1,_⟩:=gbox hW1
 obtain⟨W,hW⟩: ∃W,W=W1.alloc (Obj.cells #[] 92):=⟨_,rfl⟩
 have b2:Below W1.heap.size W1 W:=by rw[hW];exact(Below.refl _ _).alloc (Nat.le_refl _) _
 have hsW:W.heap.size=w.heap.size+2:=by rw[hW];simp;omega
 have o0:OwE W (w.heap.size+1) (.slice (some ⟨w.heap.size+1,0,none⟩) 0 0) []:=by rw[hW];exact OwE_litN W1 (w.heap.size+1) hs1 (Nat.le_refl _)
 rw[←hW1,←hW]
 have BX:Hid (Below w.heap.size w W):=hDD (b1.trans (b2.mono (by omega)))
 have B12:=hDD (b2.mono (show w.heap.size+1≤W1.heap.size by omega))
 have HC1:=hDD hc1
 have HCL:Hid (∀w',Below (w.heap.size+1) W w'→w'.cell? ⟨w.heap.size,0,none⟩=some (.int .i64 (r:Int))∧w'.cell? ⟨w.heap.size,1,none⟩=some (.int .i64 (n:Int))∧w'.cell? ⟨w.heap.size,2,none⟩=some (.slice A es.length cap)):=hDD fun w' hb=>HC1.out w' (B12.out.trans hb)
 have HA:Hid (∀w',Below (w.heap.size+1) W w'→ArgG w' (.agg #[.int .i64 (r:Int), .int .i64 (n:Int), .slice A es.length cap]) ((r:Int),(n:Int),es)):=hDD fun w' hb=>HG.out.below (BX.out.trans (hb.mono (by omega)))
 have HFO:Hid (∀w',Below (w.heap.size+1) W w'→Calls Tryz.prog 94 #[.agg #[.int .i64 (r:Int), .int .i64 (n:Int), .slice A es.length cap]] w' fun e w''=>e= .returned (.bool true)∧Below w'.heap.size w' w''):=hDD fun w' hb=>by
  have h:=specIsFolded_any _ _ w' (HA.out w' hb)
  rw[HF.out] at h
  exact h
 have O0:=hDD o0
 clear hW1 hW hc1 b1 b2 HC1 o0
 go_loopw [3,4] (fun vo i wr=> ∃k:Nat,k≤n∧i= .int .i64 k∧OwE wr (w.heap.size+1) vo (misU ((r:Int),(n:Int),es) k)∧Below (w.heap.size+1) W wr) (fun _ i _=>n-(intOf i).toNat)
 case atStart=>exact⟨0,Nat.zero_le _,rfl,O0.out,(Below.refl W.heap.size W).mono (by omega)⟩
 case round=>
  obtain⟨k,hk,rfl,ho,hb⟩:=hrel
  have HO:=hDD ho
  have HB:=hDD hb
  obtain⟨wi,rfl⟩: ∃wi:World,wi=wr:=⟨_,rfl⟩
  clear ho hb
  have hwi:=HB.out.size
  obtain⟨q0,q1,q2⟩:=HCL.out wi HB.out
  obtain⟨Ao,co,rfl,_⟩:=OwE.form HO.out
  by_cases hlt:k<n
  ·have hkI:(k:Int)<(n:Int):=by omega
   go_wp2_with fail
   refine(HFO.out wi HB.out).mono ?_
   rintro e w3 ⟨rfl,b3⟩
   have hs3:=b3.size
   have HO3:=hDD (HO.out.below b3)
   have HB3:=hDD (HB.out.trans (b3.mono (by omega)))
   clear b3 q0 q1 q2
   obtain⟨q0,q1,q2⟩:=HCL.out w3 HB3.out
   go_wp2_with fail
   refine(HLE.out w3).mono ?_
   rintro e w4 ⟨rl,rfl,ol,b4⟩
   have hs4:=b4.size
   have HO4:=hDD (HO3.out.below b4)
   have HB4:=hDD (HB3.out.trans (b4.mono (by omega)))
   obtain⟨Al,cl_,rfl,hcl,hml,_,hgl⟩:=OwI.form ol
   have hlen:0<ls.length:=by have:=HLL.out;omega
   obtain⟨bl,rfl,hbl1,hbl2⟩:=hgl hlen
   unfold maxLen at hml
   have OL:=hDD ol.rd
   have HNE:Hid ((Value.slice Ao (misU ((r:Int),(n:Int),es) k).length co).ownBlock≠some bl):=hDD fun e=>by have:=(HO3.out.1.lt bl e).2;omega
   have HMK:=hDD (HML.out k)
   have HMSK:=hDD (HMS.out k)
   have hkr:k*(2*r)≤40*6:=Nat.mul_le_mul (by omega) (by omega)
   generalize misU ((r:Int),(n:Int),es) k=L at*
   have hLl:L.length≤240:=by have:=HMK.out;omega
   clear ol b4 hgl q0 q1 q2 HO3 HB3 HMK hkr
   go_wp2
   go_loopw [3,6] (fun vo j wr=> ∃m:Nat,m≤ls.length∧j= .int .i64 m∧OwE wr (w.heap.size+1) vo (L++misV ((r:Int),(n:Int),es) (k:Int) (ls.take m))∧RdI wr (.slice (some ⟨bl,0,none⟩) ls.length cl_) ls∧vo.ownBlock≠some bl∧bl<wr.heap.size∧Below (w.heap.size+1) W wr) (fun _ j _=>ls.length-(intOf j).toNat)
   case atStart=>exact⟨0,Nat.zero_le _,rfl,by simpa[misV] using HO4.out,OL.out,HNE.out,hbl2,HB4.out⟩
   case round=>
    obtain⟨m,hm,rfl,ho,hrd,hne,hblr,hb⟩:=hrel
    have HOi:=hDD ho
    have HBi:=hDD hb
    have HRD:=hDD hrd
    have HN2:=hDD hne
    obtain⟨wj,rfl⟩: ∃wj:World,wj=wr:=⟨_,rfl⟩
    have hwj:=HBi.out.size
    have hws:w.heap.size<wj.heap.size:=by omega
    have hmv:=misV_len ((r:Int),(n:Int),es) (k:Int) (ls.take m)
    rw[List.length_take] at hmv
    by_cases hlt2:m<ls.length
    ·have HS:=hDD (misV_succ ((r:Int),(n:Int),es) (k:Int) ls m hlt2)
     obtain⟨_,_,hAl,_,hcl'⟩:=hrd.at (by omega)
     obtain⟨rfl,rfl⟩:bl=_∧0=_:=by simpa using hAl
     have c0:=hcl' m hlt2
     rw[Nat.zero_add] at c0
     have HX64:=hDD (HL64.out ls[m] (by simp))
     obtain⟨p0,p1,p2⟩:=HCL.out wj HBi.out
     generalize ls[m]=x at c0 HS HX64
     generalize misV ((r:Int),(n:Int),es) (k:Int) (ls.take m)=LV at*
     have hLV:(L++LV).length≤1000:=by have:=HLL.out;rw[List.length_append];omega
     generalize hLO:L++LV=LO at*
     have HLO:=hDD hLO
     obtain⟨A2,c2,rfl,_⟩:=OwE.form HOi.out
     have HNX:=hDD (fun W' (h:ArgG W' (.agg #[.int .i64 (r:Int), .int .i64 (n:Int), .slice A es.length cap]) ((r:Int),(n:Int),es))=>specNextVertex_any _ ((r:Int),(n:Int),es) (k:Int) x W' h (ONE.out (k:Int) x))
     clear hcl' hAl ho hb hrd hne hmv hLO
     go_wp2_with fail
     have f0:=BelW.cell p0 hws
     have f1:=BelW.cell p1 hws
     have f2:=BelW.cell p2 hws
     have f3:=BelW.cell c0 hblr
     (refine wp_region_quiet_bel (by kernel_rfl) (by kernel_rfl) ?_;(repeat(go_big_quiet_step (first | (go_at_call 83;exact Calls.bel_of (HNX.out _ (HA.out _ (HBi.out.trans ((BelW.h _).mono (by omega)))))))));refine wpQuiet_nil ?_;intro wq hw';obtain⟨pq,hw''⟩:=hw';have bq:=pq.h;rw[←hw''] at bq;clear hw'' pq)
     clear f0 f1 f2 f3 p0 p1 p2
     have sq:=bq.size
     have c1:=(bq.cell (p:=⟨bl,m,none⟩) hblr).trans c0
     have HQ:=hDD (HBi.out.trans (bq.mono (by omega)))
     have HOQ:=hDD (HOi.out.below bq)
     have HRQ:=hDD (HRD.out.below bq)
     clear bq c0
     rcases ey:decide (nextV es (k:Int) x<0) with _ | _
     ·have hy: ¬nextV es (k:Int) x<0:=by simpa using ey
      have HS2:Hid (L++misV ((r:Int),(n:Int),es) (k:Int) (ls.take (m+1))=LO):=hDD (by rw[HS.out,if_neg hy,List.append_nil];exact HLO.out)
      clear hy
      go_wp2
      go_roundw
      case rel=>exact⟨m+1,by omega,by go_num,by rw[HS2.out];exact HOQ.out,HRQ.out,HN2.out,by omega,HQ.out⟩
      case measure=>simp[intOf];omega
     ·have hy:nextV es (k:Int) x<0:=by simpa using ey
      have HS2:Hid (L++misV ((r:Int),(n:Int),es) (k:Int) (ls.take (m+1))=LO++ [((k:Int),x,-1)]):=hDD (by rw[HS.out,if_pos hy,←List.append_assoc,HLO.out])
      have HE64:Hid (E64 ((k:Int),x,(-1:Int))):=hDD ⟨(by show I64 (k:Int);unfold I64;omega),HX64.out,(show I64 (-1) from⟨by decide,by decide⟩)⟩
      clear hy
      go_wp2_with (at_builtin;refine push_edge rfl (.tmp 35) (.tmp 42) rfl (w.heap.size+1) _ _ (HOQ.out.alloc _) rfl _ ((k:Int),x,(-1:Int)) rfl (edC_new _ _ _) HE64.out (by first | omega | (simp;omega)) (by first | omega | (simp;omega)) ?_;intro v2 wv2 o2 g2 p2;have hz2:=g2.size;simp at hz2;have O2:=hDD o2;have B2:=hDD (bel_pushE HQ.out (show w.heap.size+1≤wq.heap.size by omega) HOQ.out (Nat.le_refl _) g2);have R2:=hDD ((HRQ.out.alloc (Obj.cells #[Value.int IntKind.i64 (k:Int),Value.int IntKind.i64 x,Value.int IntKind.i64 (-1)] 92)).grown g2 (fun b hb hb'=>by simp[Value.ownBlock] at hb;subst hb;exact HN2.out hb'));have N2:Hid (v2.ownBlock≠some bl):=hDD fun e=>(by rcases p2 with p2 | p2<;>rw[p2] at e<;>first | exact HN2.out e | (simp at e;done) | (simp at e;omega));clear o2 g2 p2)
      go_roundw
      case rel=>exact⟨m+1,by omega,by go_num,by rw[HS2.out];exact O2.out,R2.out,N2.out,by omega,B2.out⟩
      case measure=>simp[intOf];omega
    ·obtain rfl:m=ls.length:=by omega
     rw[List.take_length] at HOi
     have HOF:Hid (OwE wj (w.heap.size+1) _ (misU ((r:Int),(n:Int),es) (k+1))):=hDD (by rw[HMSK.out];exact HOi.out)
     obtain⟨A2,c2,rfl,_⟩:=OwE.form HOi.out
     clear ho hb hrd hne hmv
     go_wp2
     go_roundw
     case rel=>exact⟨k+1,by omega,by go_num,HOF.out,HBi.out⟩
     case measure=>simp[intOf];omega
  ·obtain rfl:k=n:=by omega
   have HBF:Hid (Below w.heap.size w wi):=hDD (BX.out.trans (HB.out.mono (by omega)))
   go_wp2
   go_ret
   exact⟨_,rfl,HO.out.mono (by omega),HBF.out⟩
set_option maxHeartbeats 2000000 in
theorem implMissingSteps_any (v:Value) (g:GrD) (w:World) (h:ArgG w v g) (hf:foldB g=true):
  Calls Tryz.prog 41 #[v] w fun e w'=> ∃r,e= .returned r∧OwE w' w.heap.size r (misU g g.2.1.toNat)∧Below w.heap.size w w':=by
 have HG:=hDD h
 have HF:=hDD hf
 have hgr:=(foldB_parts hf).1
 have HLE1:=hDD (fun e he=>(edge_of_gr hgr (e:=e) he).2.1.1)
 have ONE:=hDD (steps_one (foldB_parts hf).2)
 obtain⟨h13,h40,h120,_⟩:=grB_parts hgr
 obtain⟨n,hn⟩: ∃n:Nat,g.2.1=(n:Int):=⟨g.2.1.toNat,by omega⟩
 obtain⟨r,hr⟩: ∃r:Nat,g.1=(r:Int):=⟨g.1.toNat,by omega⟩
 obtain⟨s,rfl,hi1,hi2,ha⟩:=h
 obtain⟨A,cap,rfl⟩:=ha.form
 obtain⟨g1,N,es⟩:=g
 simp only at*
 subst hn hr
 have HMS:Hid (∀k,misU ((r:Int),(n:Int),es) (k+1)=misU ((r:Int),(n:Int),es) k++misV ((r:Int),(n:Int),es) (k:Int) (lettersL r)):=hDD fun k=>rfl
 have HML:Hid (∀k,(misU ((r:Int),(n:Int),es) k).length≤k*(2*r)):=hDD fun k=>misU_len _ k
 have HLL:=hDD (lettersL_len r)
 have hl64:=lettersL_I64 (n:=r) (by omega)
 have HLE:=hDD (fun W=>letters_any r W (by omega))
 clear ha hf hgr
 simp only[Int.toNat_natCast]
 generalize lettersL r=ls at*
 have HL64:=hDD hl64
 clear hl64
 go_enter Tryz.func41,Tryz.ntmps41
 go_wp2_with fail
 obtain⟨W1,hW1⟩: ∃W,W=w.alloc (Obj.cells #[Value.int IntKind.i64 (r:Int),Value.int IntKind.i64 (n:Int), .slice A es.length cap] 26):=⟨_,rfl⟩
 obtain⟨hs1,b1,hc1,_⟩:=gbox hW1
 obtain⟨W,hW⟩: ∃W,W=W1.alloc (Obj.cells #[] 92):=⟨_,rfl⟩
 have b2:Below W1.heap.size W1 W:=by rw[hW];exact(Below.refl _ _).alloc (Nat.le_refl _) _
 have hsW:W.heap.size=w.heap.size+2:=by rw[hW];simp;omega
 have o0:OwE W (w.heap.size+1) (.slice (some ⟨w.heap.size+1,0,none⟩) 0 0) []:=by rw[hW];exact OwE_litN W1 (w.heap.size+1) hs1 (Nat.le_refl _)
 rw[←hW1,←hW]
 have BX:Hid (Below w.heap.size w W):=hDD (b1.trans (b2.mono (by omega)))
 have B12:=hDD (b2.mono (show w.heap.size+1≤W1.heap.size by omega))
 have HC1:=hDD hc1
 have HCL:Hid (∀w',Below (w.heap.size+1) W w'→w'.cell? ⟨w.heap.size,0,none⟩=some (.int .i64 (r:Int))∧w'.cell? ⟨w.heap.size,1,none⟩=some (.int .i64 (n:Int))∧w'.cell? ⟨w.heap.size,2,none⟩=some (.slice A es.length cap)):=hDD fun w' hb=>HC1.out w' (B12.out.trans hb)
 have HA:Hid (∀w',Below (w.heap.size+1) W w'→ArgG w' (.agg #[.int .i64 (r:Int), .int .i64 (n:Int), .slice A es.length cap]) ((r:Int),(n:Int),es)):=hDD fun w' hb=>HG.out.below (BX.out.trans (hb.mono (by omega)))
 have HFO:Hid (∀w',Below (w.heap.size+1) W w'→Calls Tryz.prog 93 #[.agg #[.int .i64 (r:Int), .int .i64 (n:Int), .slice A es.length cap]] w' fun e w''=>e= .returned (.bool true)∧Below w'.heap.size w' w''):=hDD fun w' hb=>by
  have h:=implIsFolded_any _ _ w' (HA.out w' hb)
  rw[HF.out] at h
  exact h
 have O0:=hDD o0
 clear hW1 hW hc1 b1 b2 HC1 o0
 go_wp2_with fail
 refine(HFO.out W ((Below.refl W.heap.size W).mono (by omega))).mono ?_
 rintro e w3 ⟨rfl,b3⟩
 have hs3:=b3.size
 have O3:=hDD (O0.out.below b3)
 have B3:Hid (Below (w.heap.size+1) W w3):=hDD (b3.mono (by omega))
 clear b3
 go_wp2
 go_loopw [3,4] (fun vo i wr=> ∃k:Nat,k≤n∧i= .int .i64 k∧OwE wr (w.heap.size+1) vo (misU ((r:Int),(n:Int),es) k)∧Below (w.heap.size+1) W wr) (fun _ i _=>n-(intOf i).toNat)
 case atStart=>exact⟨0,Nat.zero_le _,rfl,O3.out,B3.out⟩
 case round=>
  obtain⟨k,hk,rfl,ho,hb⟩:=hrel
  have HO:=hDD ho
  have HB:=hDD hb
  obtain⟨wi,rfl⟩: ∃wi:World,wi=wr:=⟨_,rfl⟩
  clear ho hb
  have hwi:=HB.out.size
  obtain⟨q0,q1,q2⟩:=HCL.out wi HB.out
  obtain⟨Ao,co,rfl,_⟩:=OwE.form HO.out
  by_cases hlt:k<n
  ·have hkI:(k:Int)<(n:Int):=by omega
   go_wp2_with fail
   refine(HLE.out wi).mono ?_
   rintro e w4 ⟨rl,rfl,ol,b4⟩
   have hs4:=b4.size
   have HO4:=hDD (HO.out.below b4)
   have HB4:=hDD (HB.out.trans (b4.mono (by omega)))
   obtain⟨Al,cl_,rfl,hcl,hml,_,hgl⟩:=OwI.form ol
   have hlen:0<ls.length:=by have:=HLL.out;omega
   obtain⟨bl,rfl,hbl1,hbl2⟩:=hgl hlen
   unfold maxLen at hml
   have OL:=hDD ol.rd
   have HNE:Hid ((Value.slice Ao (misU ((r:Int),(n:Int),es) k).length co).ownBlock≠some bl):=hDD fun e=>by have:=(HO.out.1.lt bl e).2;omega
   have HMK:=hDD (HML.out k)
   have HMSK:=hDD (HMS.out k)
   have hkr:k*(2*r)≤40*6:=Nat.mul_le_mul (by omega) (by omega)
   generalize misU ((r:Int),(n:Int),es) k=L at*
   have hLl:L.length≤240:=by have:=HMK.out;omega
   clear ol b4 hgl q0 q1 q2 HMK hkr
   go_wp2
   go_loopw [3,22] (fun vo j wr=> ∃m:Nat,m≤ls.length∧j= .int .i64 m∧OwE wr (w.heap.size+1) vo (L++misV ((r:Int),(n:Int),es) (k:Int) (ls.take m))∧RdI wr (.slice (some ⟨bl,0,none⟩) ls.length cl_) ls∧vo.ownBlock≠some bl∧bl<wr.heap.size∧Below (w.heap.size+1) W wr) (fun _ j _=>ls.length-(intOf j).toNat)
   case atStart=>exact⟨0,Nat.zero_le _,rfl,by simpa[misV] using HO4.out,OL.out,HNE.out,hbl2,HB4.out⟩
   case round=>
    obtain⟨m,hm,rfl,ho,hrd,hne,hblr,hb⟩:=hrel
    have HOi:=hDD ho
    have HBi:=hDD hb
    have HRD:=hDD hrd
    have HN2:=hDD hne
    obtain⟨wj,rfl⟩: ∃wj:World,wj=wr:=⟨_,rfl⟩
    have hwj:=HBi.out.size
    have hws:w.heap.size<wj.heap.size:=by omega
    have hmv:=misV_len ((r:Int),(n:Int),es) (k:Int) (ls.take m)
    rw[List.length_take] at hmv
    by_cases hlt2:m<ls.length
    ·have HS:=hDD (misV_succ ((r:Int),(n:Int),es) (k:Int) ls m hlt2)
     obtain⟨_,_,hAl,_,hcl'⟩:=hrd.at (by omega)
     obtain⟨rfl,rfl⟩:bl=_∧0=_:=by simpa using hAl
     have c0:=hcl' m hlt2
     rw[Nat.zero_add] at c0
     have HX64:=hDD (HL64.out ls[m] (by simp))
     obtain⟨p0,p1,p2⟩:=HCL.out wj HBi.out
     generalize ls[m]=x at c0 HS HX64
     generalize misV ((r:Int),(n:Int),es) (k:Int) (ls.take m)=LV at*
     have hLV:(L++LV).length≤1000:=by have:=HLL.out;rw[List.length_append];omega
     generalize hLO:L++LV=LO at*
     have HLO:=hDD hLO
     obtain⟨A2,c2,rfl,_⟩:=OwE.form HOi.out
     have HNX:=hDD (fun W' (h:ArgG W' (.agg #[.int .i64 (r:Int), .int .i64 (n:Int), .slice A es.length cap]) ((r:Int),(n:Int),es))=>implNextVertex_any _ ((r:Int),(n:Int),es) (k:Int) x W' h (ONE.out (k:Int) x) HLE1.out)
     clear hcl' hAl ho hb hrd hne hmv hLO
     go_wp2_with fail
     refine(HNX.out wj (HA.out wj HBi.out)).mono ?_
     rintro e wq ⟨rfl,bq⟩
     have sq:=bq.size
     have HQ:=hDD (HBi.out.trans (bq.mono (by omega)))
     have HOQ:=hDD (HOi.out.below bq)
     have HRQ:=hDD (HRD.out.below bq)
     clear bq c0 p0 p1 p2
     rcases ey:decide (nextV es (k:Int) x<0) with _ | _
     ·have hy: ¬nextV es (k:Int) x<0:=by simpa using ey
      have HS2:Hid (L++misV ((r:Int),(n:Int),es) (k:Int) (ls.take (m+1))=LO):=hDD (by rw[HS.out,if_neg hy,List.append_nil];exact HLO.out)
      clear hy
      go_wp2
      go_roundw
      case rel=>exact⟨m+1,by omega,by go_num,by rw[HS2.out];exact HOQ.out,HRQ.out,HN2.out,by omega,HQ.out⟩
      case measure=>simp[intOf];omega
     ·have hy:nextV es (k:Int) x<0:=by simpa using ey
      have HS2:Hid (L++misV ((r:Int),(n:Int),es) (k:Int) (ls.take (m+1))=LO++ [((k:Int),x,-1)]):=hDD (by rw[HS.out,if_pos hy,←List.append_assoc,HLO.out])
      have HE64:Hid (E64 ((k:Int),x,(-1:Int))):=hDD ⟨(by show I64 (k:Int);unfold I64;omega),HX64.out,(show I64 (-1) from⟨by decide,by decide⟩)⟩
      clear hy
      go_wp2_with (at_builtin;refine push_edge rfl (.tmp 31) (.tmp 35) rfl (w.heap.size+1) _ _ (HOQ.out.alloc _) rfl _ ((k:Int),x,(-1:Int)) rfl (edC_new _ _ _) HE64.out (by first | omega | (simp;omega)) (by first | omega | (simp;omega)) ?_;intro v2 wv2 o2 g2 p2;have hz2:=g2.size;simp at hz2;have O2:=hDD o2;have B2:=hDD (bel_pushE HQ.out (show w.heap.size+1≤wq.heap.size by omega) HOQ.out (Nat.le_refl _) g2);have R2:=hDD ((HRQ.out.alloc (Obj.cells #[Value.int IntKind.i64 (k:Int),Value.int IntKind.i64 x,Value.int IntKind.i64 (-1)] 92)).grown g2 (fun b hb hb'=>by simp[Value.ownBlock] at hb;subst hb;exact HN2.out hb'));have N2:Hid (v2.ownBlock≠some bl):=hDD fun e=>(by rcases p2 with p2 | p2<;>rw[p2] at e<;>first | exact HN2.out e | (simp at e;done) | (simp at e;omega));clear o2 g2 p2)
      go_roundw
      case rel=>exact⟨m+1,by omega,by go_num,by rw[HS2.out];exact O2.out,R2.out,N2.out,by omega,B2.out⟩
      case measure=>simp[intOf];omega
    ·obtain rfl:m=ls.length:=by omega
     rw[List.take_length] at HOi
     have HOF:Hid (OwE wj (w.heap.size+1) _ (misU ((r:Int),(n:Int),es) (k+1))):=hDD (by rw[HMSK.out];exact HOi.out)
     obtain⟨A2,c2,rfl,_⟩:=OwE.form HOi.out
     clear ho hb hrd hne hmv
     go_wp2
     go_roundw
     case rel=>exact⟨k+1,by omega,by go_num,HOF.out,HBi.out⟩
     case measure=>simp[intOf];omega
  ·obtain rfl:k=n:=by omega
   have HBF:Hid (Below w.heap.size w wi):=hDD (BX.out.trans (HB.out.mono (by omega)))
   go_wp2
   go_ret
   exact⟨_,rfl,HO.out.mono (by omega),HBF.out⟩
set_option maxHeartbeats 1000000 in
theorem specIsFiniteIndex_any (v:Value) (g:GrD) (w:World) (h:ArgG w v g):
  Calls Tryz.prog 14 #[v] w fun e w'=>e= .returned (.bool (finB g))∧Below w.heap.size w w':=by
 have HG:=hDD h
 obtain⟨s,rfl,hi1,hi2,ha⟩:=h
 obtain⟨A,cap,rfl⟩:=ha.form
 obtain⟨g1,N,es⟩:=g
 simp only at*
 clear ha
 go_enter Tryz.func14,Tryz.ntmps14
 go_wp2_with fail
 obtain⟨W,hW⟩: ∃W,W=w.alloc (Obj.cells #[Value.int IntKind.i64 g1,Value.int IntKind.i64 N, .slice A es.length cap] 26):=⟨_,rfl⟩
 obtain⟨hsW,b1,hc1,_⟩:=gbox hW
 rw[←hW]
 have BX:=hDD b1
 have HCL:=hDD hc1
 have HA:Hid (∀w',Below (w.heap.size+1) W w'→ArgG w' (.agg #[.int .i64 g1, .int .i64 N, .slice A es.length cap]) (g1,N,es)):=hDD fun w' hb=>HG.out.below (BX.out.trans (hb.mono (by omega)))
 clear hW b1 hc1
 refine(specIsSubgroup_any _ (g1,N,es) W (HA.out W ((Below.refl W.heap.size W).mono (by omega)))).mono ?_
 rintro e w2 ⟨rfl,b2⟩
 have hs2:=b2.size
 have B2:Hid (Below (w.heap.size+1) W w2):=hDD (b2.mono (by omega))
 clear b2
 obtain⟨q0,q1,q2⟩:=HCL.out w2 B2.out
 rcases ec:coreB (g1,N,es) with _ | _
 ·have F:Hid (finB (g1,N,es)=false):=hDD (by unfold finB;rw[ec];rfl)
  have HBF:Hid (Below w.heap.size w w2):=hDD (BX.out.trans (B2.out.mono (by omega)))
  clear ec
  go_wp2
  go_ret
  exact⟨ret_bool F.out.symm,HBF.out⟩
 ·have hfold:foldB (g1,N,es)=true:=by have h:=ec;unfold coreB at h;simp only[Bool.and_eq_true] at h;exact h.1.1
  have F:Hid (finB (g1,N,es)=decide ((misU (g1,N,es) N.toNat).length=0)):=hDD (by unfold finB;rw[ec];rfl)
  have HML:=hDD (specMissingSteps_any _ (g1,N,es) w2 (HA.out w2 B2.out) hfold)
  clear ec hfold
  go_wp2_with fail
  refine HML.out.mono ?_
  rintro e w3 ⟨r3,rfl,o3,b3⟩
  have hs3:=b3.size
  have HBF:Hid (Below w.heap.size w w3):=hDD (BX.out.trans ((B2.out.trans (b3.mono (by omega))).mono (by omega)))
  obtain⟨A3,c3,rfl,_⟩:=o3.form
  simp only at*
  generalize (misU (g1,N,es) N.toNat).length=M at*
  clear o3 b3 q0 q1 q2 HML
  rcases eM:decide (M=0) with _ | _
  ·have hM: ¬M=0:=by simpa using eM
   have hMi: ¬(M:Int)=0:=by omega
   clear hM
   go_wp2
   go_ret
   exact⟨ret_bool (by rw[F.out,eM];simpa using hMi),HBF.out⟩
  ·obtain rfl:M=0:=by simpa using eM
   go_wp2
   go_ret
   exact⟨ret_bool (by rw[F.out,eM]),HBF.out⟩
set_option maxHeartbeats 1000000 in
theorem implIsFiniteIndex_any (v:Value) (g:GrD) (w:World) (h:ArgG w v g):
  Calls Tryz.prog 23 #[v] w fun e w'=>e= .returned (.bool (finB g))∧Below w.heap.size w w':=by
 have HG:=hDD h
 obtain⟨s,rfl,hi1,hi2,ha⟩:=h
 obtain⟨A,cap,rfl⟩:=ha.form
 obtain⟨g1,N,es⟩:=g
 simp only at*
 clear ha
 go_enter Tryz.func23,Tryz.ntmps23
 go_wp2_with fail
 obtain⟨W,hW⟩: ∃W,W=w.alloc (Obj.cells #[Value.int IntKind.i64 g1,Value.int IntKind.i64 N, .slice A es.length cap] 26):=⟨_,rfl⟩
 obtain⟨hsW,b1,hc1,_⟩:=gbox hW
 rw[←hW]
 have BX:=hDD b1
 have HCL:=hDD hc1
 have HA:Hid (∀w',Below (w.heap.size+1) W w'→ArgG w' (.agg #[.int .i64 g1, .int .i64 N, .slice A es.length cap]) (g1,N,es)):=hDD fun w' hb=>HG.out.below (BX.out.trans (hb.mono (by omega)))
 clear hW b1 hc1
 refine(implIsCore_any _ (g1,N,es) W (HA.out W ((Below.refl W.heap.size W).mono (by omega)))).mono ?_
 rintro e w2 ⟨rfl,b2⟩
 have hs2:=b2.size
 have B2:Hid (Below (w.heap.size+1) W w2):=hDD (b2.mono (by omega))
 clear b2
 obtain⟨q0,q1,q2⟩:=HCL.out w2 B2.out
 rcases ec:coreB (g1,N,es) with _ | _
 ·have F:Hid (finB (g1,N,es)=false):=hDD (by unfold finB;rw[ec];rfl)
  have HBF:Hid (Below w.heap.size w w2):=hDD (BX.out.trans (B2.out.mono (by omega)))
  clear ec
  go_wp2
  go_ret
  exact⟨ret_bool F.out.symm,HBF.out⟩
 ·have hfold:foldB (g1,N,es)=true:=by have h:=ec;unfold coreB at h;simp only[Bool.and_eq_true] at h;exact h.1.1
  have F:Hid (finB (g1,N,es)=decide ((misU (g1,N,es) N.toNat).length=0)):=hDD (by unfold finB;rw[ec];rfl)
  have HML:=hDD (implMissingSteps_any _ (g1,N,es) w2 (HA.out w2 B2.out) hfold)
  clear ec hfold
  go_wp2_with fail
  refine HML.out.mono ?_
  rintro e w3 ⟨r3,rfl,o3,b3⟩
  have hs3:=b3.size
  have HBF:Hid (Below w.heap.size w w3):=hDD (BX.out.trans ((B2.out.trans (b3.mono (by omega))).mono (by omega)))
  obtain⟨A3,c3,rfl,_⟩:=o3.form
  simp only at*
  generalize (misU (g1,N,es) N.toNat).length=M at*
  clear o3 b3 q0 q1 q2 HML
  rcases eM:decide (M=0) with _ | _
  ·have hM: ¬M=0:=by simpa using eM
   have hMi: ¬(M:Int)=0:=by omega
   clear hM
   go_wp2
   go_ret
   exact⟨ret_bool (by rw[F.out,eM];simpa using hMi),HBF.out⟩
  ·obtain rfl:M=0:=by simpa using eM
   go_wp2
   go_ret
   exact⟨ret_bool (by rw[F.out,eM]),HBF.out⟩
end Go.Proofs.YteobmaambgmdbaaGreat
namespace Go.Proofs.YteobmaambgmdbaaGreat
set_option maxRecDepth 20000
set_option linter.unusedVariables false
set_option linter.unusedSimpArgs false
open Go.RowKit
def snL (n:Nat) (o:List Int):List Bool:=(List.range n).map fun q:Nat=>decide ((q:Int)∈o)
theorem snL_len (n:Nat) (o:List Int):(snL n o).length=n:=by simp[snL]
theorem snL_get (n:Nat) (o:List Int) (q:Nat) (h:q<n):(snL n o)[q]'(by rw[snL_len];exact h)=decide ((q:Int)∈o):=by simp[snL]
theorem snL_nil (n:Nat):snL n []=List.replicate n false:=by
 refine List.ext_getElem (by simp[snL]) fun i h1 h2=> ?_
 simp[snL]
theorem snL_set (n:Nat) (o:List Int) (y:Nat):(snL n o).set y true=snL n (o++ [(y:Int)]):=by
 refine List.ext_getElem (by simp[snL]) fun i h1 h2=> ?_
 rw[List.getElem_set]
 simp only[snL,List.getElem_map,List.getElem_range,List.mem_append,List.mem_singleton]
 by_cases h:y=i
 ·subst h;simp
 ·rw[if_neg h]
  have: ¬(i:Int)=(y:Int):=by omega
  simp[this]
theorem TreeX.other {f:Int→List Int} {bb P N:Nat} {w w9:World} {ord:Value} {o:List Int} (h:TreeX f bb P N w ord o) {S:Nat} (hg:w.grownBy w9 (some S)) (hS:S<P):TreeX f bb P N w9 ord o:=by
 obtain⟨vs,h1,h2,h3⟩:=h.ex
 have hs9:=hg.size
 refine⟨⟨vs,h1,h2.kept hg (.inr fun e=>by simp[Value.ownBlock] at e;omega),fun j hj=> ?_⟩,h.ne⟩
 rcases h3 j hj with h4 | ⟨h4,b,cap,e1,e2,e3,e4,e5,e6⟩
 ·exact .inl h4
 ·refine .inr ⟨h4,b,cap,e1,e2,e3.kept hg (.inr fun hx=> ?_),e4,e5,by omega⟩
  rw[e1] at hx
  simp[Value.ownBlock] at hx
  omega
theorem TreeX.base {f:Int→List Int} {bb bb' P N:Nat} {w:World} {ord:Value} {o:List Int} (h:TreeX f bb P N w ord o) (hb:bb'≤bb):TreeX f bb' P N w ord o:=by
 obtain⟨vs,h1,h2,h3⟩:=h.ex
 refine⟨⟨vs,h1,⟨h2.1,?_⟩,h3⟩,h.ne⟩
 rcases h2.2 with h0 | ⟨g,cap,cur,hv,hg,r⟩
 ·exact .inl h0
 ·exact .inr ⟨g,cap,cur,hv,Nat.le_trans hb hg,r⟩
set_option maxHeartbeats 4000000 in
theorem l5Search_any (v:Value) (g:GrD) (w:World) (h:ArgG w v g) (hf:foldB g=true):
  Calls Tryz.prog 148 #[v, .int .i64 0] w fun e w'=> ∃S P ord,e= .returned (.tuple #[.slice (some ⟨S,0,none⟩) g.2.1.toNat g.2.1.toNat, .slice (some ⟨P,0,none⟩) g.2.1.toNat g.2.1.toNat])∧OwB w' w.heap.size (.slice (some ⟨S,0,none⟩) g.2.1.toNat g.2.1.toNat) (snL g.2.1.toNat (canO g))∧TreeX (wdO g) w.heap.size P g.2.1.toNat w' ord (canO g)∧Below w.heap.size w w':=by
 have HG:=hDD h
 obtain⟨hg,hfol⟩:=foldB_parts hf
 have ONE:=hDD (steps_one hfol)
 obtain⟨hr13,hsz40,hl120,_⟩:=grB_parts hg
 obtain⟨A,cap,hv⟩: ∃A cap,v= .agg #[.int .i64 g.1, .int .i64 g.2.1, .slice A g.2.2.length cap]:=by
  obtain⟨s,hv,_,_,ha⟩:=h
  obtain⟨A,cap,rfl⟩:=ha.form
  exact⟨A,cap,hv⟩
 subst hv
 obtain⟨N,hN⟩: ∃N:Nat,g.2.1=(N:Int):=⟨g.2.1.toNat,by omega⟩
 obtain⟨rn,hrn⟩: ∃rn:Nat,g.1=(rn:Int):=⟨g.1.toNat,by omega⟩
 have hrn1:1≤rn:=by omega
 have hrn3:rn≤3:=by omega
 have hN1:1≤N:=by omega
 have hN2:N≤40:=by omega
 have HCO:Hid (canO g=canF g.2.2 (lettersL rn) 41 0 [0]):=hDD (by unfold canO;rw[hrn];rfl)
 have HZ:Hid (wdO g 0= []):=hDD (wd_zero hg)
 have HS0:Hid (TwS g (lettersL rn) 0 [0]):=hDD (by have h:=TwS.zero g;rwa [hrn] at h)
 have HNW:Hid (∀(k:Nat) (o:List Int) (u:Int),TwS g (lettersL rn) k o→o[k]? =some u→k<41→ ∀(m:Nat) (hm:m<(lettersL rn).length),0≤nextV g.2.2 u (lettersL rn)[m]→hasB (((lettersL rn).take m).foldl (cstep g.2.2 u) o) (nextV g.2.2 u (lettersL rn)[m])=false→wdO g (nextV g.2.2 u (lettersL rn)[m])=wdO g u++ [(lettersL rn)[m]]):=hDD fun k o u h1 h2 h3 m hm h4 h5=>h1.new hg h2 h3 hm h4 h5
 have OK0:=hDD (OrdOk.one (n:=g.2.1) (by omega))
 have OKS:Hid (∀(u:Int) (o:List Int) (k:Nat),OrdOk g.2.1 o→OrdOk g.2.1 (((lettersL rn).take k).foldl (cstep g.2.2 u) o)):=hDD fun u o k h=>cfold_take_ok hg _ k h
 have OKL:Hid (∀o:List Int,OrdOk g.2.1 o→o.length≤40):=hDD fun o h=>h.len (by omega) (by omega)
 have OKR:Hid (∀o:List Int,OrdOk g.2.1 o→ ∀y∈o,0≤y∧y<N):=hDD fun o h y hy=>by have:=h.2.1 y hy;omega
 have NV:Hid (∀u x,nextV g.2.2 u x= -1∨(0≤nextV g.2.2 u x∧nextV g.2.2 u x<N)):=hDD fun u x=>by
  rcases nextV_range hg u x with e | e
  ·exact .inl e
  ·exact .inr ⟨e.1,by omega⟩
 have hll:=lettersL_len rn
 have HLE:Hid (∀W:World,Calls Tryz.prog 82 #[.int .i64 g.1] W fun e w'=> ∃r,e= .returned r∧OwI w' W.heap.size r (lettersL rn)∧Below W.heap.size W w'):=hDD fun W=>by
  rw[hrn]
  exact l5Letters_any rn W (by omega)
 generalize lettersL rn=ls at*
 obtain⟨F,hF⟩: ∃F,F=wdO g:=⟨_,rfl⟩
 rw[←hF] at HZ HNW⊢
 replace hF:=hDD hF
 rw[hN] at HG
 clear hg hf hfol h hrn
 have hr1:1≤g.1∧g.1≤3:=hr13
 clear hsz40 hl120 hr13
 rw[hN]
 simp only[Int.toNat_natCast]
 obtain⟨W1,hW1⟩: ∃W,W=w.alloc (Obj.cells #[Value.int IntKind.i64 g.1,Value.int IntKind.i64 (N:Int), .slice A g.2.2.length cap] 26):=⟨_,rfl⟩
 obtain⟨hs1,b1,hc1⟩:=gboxE hW1
 have BX:=hDD b1
 have HCL:=hDD hc1
 have HA:Hid (∀w',Below (w.heap.size+1) W1 w'→ArgG w' (.agg #[.int .i64 g.1, .int .i64 (N:Int), .slice A g.2.2.length cap]) g):=hDD fun w' hb=>HG.out.below (BX.out.trans (hb.mono (by omega)))
 obtain⟨i0,hi0,hz0,hz1,hz2⟩:=info_parts bool_info
 have HS1:=hDD hs1
 have HW1:=hDD hW1
 clear hW1 hc1 b1 hs1
 go_enter Tryz.func148,Tryz.ntmps148
 go_wp2_with (at_make;refine wpList_make_full _ rfl _ _ 112 rfl (w.heap.size+1) 4 i0 (.bool false) 1 Tryz.underlying112 hi0 hz0 hz1 _ _ _ _ N rfl rfl rfl rfl (by rw[hz2];omega) (by unfold maxLen;omega) (by simp) ?_)
 rw[←HW1.out]
 rw[←HS1.out]
 have hs1a:w.heap.size+1≤W1.heap.size:=by rw[HS1.out];exact Nat.le_refl _
 have hs1b:W1.heap.size≤w.heap.size+1:=by rw[HS1.out];exact Nat.le_refl _
 intro w2 hownS hgS0
 have sownS:OwB w2 W1.heap.size (.slice (some ⟨W1.heap.size,0,none⟩) N N) (snL N []):=by
  unfold OwB
  rw[snL_len,snL_nil]
  have:bools (List.replicate N false)=List.replicate N (Value.bool false):=by simp[bools]
  rw[this]
  simpa[toList_madeCells_one] using hownS
 have hS2:W1.heap.size<w2.heap.size:=(sownS.lt W1.heap.size rfl).2
 have B12:Below W1.heap.size W1 w2:=(Below.refl W1.heap.size W1).grown hgS0 (Nat.le_refl _) (fun k h=>by cases h)
 have BW2:Below (w.heap.size+1) W1 w2:=B12.mono (by omega)
 clear hownS hgS0 hi0 hz0 hz1 hz2
 obtain⟨q0,q1,q2⟩:=HCL.out w2 BW2
 obtain⟨i1,hi0,hz0,hz1,hz2⟩:=info_parts ints_info'
 have hPS:W1.heap.size<w2.heap.size:=hS2
 have SO2:=hDD sownS
 have HB2:=hDD BW2
 clear sownS BW2 B12
 go_wp2_with (at_make;refine wpList_make_full _ rfl _ _ 38 rfl w2.heap.size 27 i1 (.slice none 0 0) 1 Tryz.underlying38 hi0 hz0 hz1 _ _ _ _ N rfl rfl rfl rfl (by rw[hz2];omega) (by unfold maxLen;omega) (Nat.le_refl _) ?_)
 intro w3 hownP hgP0
 have hP3:w2.heap.size<w3.heap.size:=(hownP.lt w2.heap.size rfl).2
 have B23:Below w2.heap.size w2 w3:=(Below.refl w2.heap.size w2).grown hgP0 (Nat.le_refl _) (fun k h=>by cases h)
 have TW0:TreeX F w2.heap.size w2.heap.size N w3 (.slice none 0 0) []:=⟨⟨List.replicate N (.slice none 0 0),by simp,by simpa[toList_madeCells_one] using hownP,fun j hj=> .inl ⟨by simp,by simp⟩⟩,by simp[Value.ownBlock]⟩
 have SO3:=SO2.out.below B23
 have HB3:Below (w.heap.size+1) W1 w3:=HB2.out.trans (B23.mono (by omega))
 obtain⟨P,hP⟩: ∃P,P=w2.heap.size:=⟨_,rfl⟩
 obtain⟨S,hS⟩: ∃S,S=W1.heap.size:=⟨_,rfl⟩
 rw[←hP] at TW0 hP3 hPS
 rw[←hS] at SO3 hPS
 rw[←hP,←hS]
 have hSw:w.heap.size<S:=by omega
 have cs0:=SO3.cellAt 0 (by rw[snL_len];omega)
 rw[snL_get N [] 0 (by omega)] at cs0
 have fs0:=SO3.free 0
 have gS:=SO3.set 0 true
 rw[snL_set] at gS
 have jN:(0:Int)<(N:Int):=by omega
 have GS:=hDD gS
 have HB3':=hDD HB3
 have TW0':=hDD TW0
 clear gS hP hS SO2 SO3 HB2 HB3 TW0 B23 hownP hgP0 q0 q1 q2 hi0 hz0 hz1 hz2
 have gS1:=GS.out.2
 have TWS:=TW0'.out.other gS1 hPS
 obtain⟨w4,hw4⟩: ∃w4,w4=w3.setCell ⟨S,0,none⟩ (.bool true):=⟨_,rfl⟩
 rw[←hw4] at TWS gS1
 have hs4:w4.heap.size=w3.heap.size:=by rw[hw4];simp
 have SO4:OwB w4 S (.slice (some ⟨S,0,none⟩) N N) (snL N ([]++ [((0:Nat):Int)])):=by rw[hw4];exact GS.out.1
 have HB4:Below (w.heap.size+1) W1 w4:=HB3'.out.grown gS1 (by have:=HB3'.out.size;omega) (fun c hc=>by injection hc with hc;omega)
 have HW4:=hDD hw4
 have TW1:TreeX F P P N (w4.alloc (.cells #[] 3)) (.slice none 0 0) []:=TWS.below ((Below.refl _ _).alloc (Nat.le_refl _) _)
 have oE:OwI (w4.alloc (.cells #[] 3)) w4.heap.size (.slice (some ⟨w4.heap.size,0,none⟩) 0 0) []:=OwI_lit w4 [] (fun _ h=>by cases h) (by simp) (Nat.le_refl _)
 have TW2:=TW1.set (y:=0) (by omega) HZ.out (b:=w4.heap.size) (cap:=0) (ws:= []) (oE.mono (by omega)) (by simp) (by omega) (by simp[Value.ownBlock]) (by simp)
 have hc0:=TW1.at_new (y:=0) (by omega) (by simp)
 have hf0:=TW1.free 0
 rw[HW4.out] at hc0 hf0
 have TW2':=hDD TW2
 have SO4':=hDD SO4
 have HB4':=hDD HB4
 have hHB5:=HB4.setCell (p:=⟨P,0,none⟩) (by show w.heap.size+1≤P;omega) (.slice (some ⟨w3.heap.size,0,none⟩) 0 0)
 have hHB6:=((hHB5.alloc (by have:=hHB5.size;omega) (.cells #[] 3)).alloc (by have:=hHB5.size;simp;omega) (.cells #[.int .i64 0] 3))
 have qx:=(HCL.out _ hHB6).1
 have qy:=(HCL.out _ hHB5).1
 rw[HW4.out] at qx qy
 have HB6:=hDD hHB6
 have HB5:=hDD hHB5
 clear gS1 TWS hw4 SO4 HB4 TW1 oE TW2 hHB5 hHB6
 go_wp2_with fail
 obtain⟨w5,hw5⟩: ∃w5,w5=((((w3.setCell ⟨S,0,none⟩ (.bool true)).setCell ⟨P,0,none⟩ (.slice (some ⟨w3.heap.size,0,none⟩) 0 0)).alloc (.cells #[] 3)).alloc (.cells #[Value.int IntKind.i64 0] 3)):=⟨_,rfl⟩
 rw[←hw5]
 have B5:Below (w.heap.size+1) W1 w5:=by rw[hw5,←HW4.out];exact HB6.out
 have hs34:w4.heap.size=w3.heap.size:=hs4
 have e5:w5=((w4.alloc (.cells #[] 3)).setCell ⟨P,0,none⟩ (.slice (some ⟨w4.heap.size,0,none⟩) 0 0)).alloc (.cells #[Value.int IntKind.i64 0] 3):=by
  rw[hw5,←HW4.out,hs34,World.setCell_alloc_past _ _ _ _ (show P<w4.heap.size by omega)]
 have e3:((w4.alloc (.cells #[] 3)).setCell ⟨P,0,none⟩ (.slice (some ⟨w4.heap.size,0,none⟩) 0 0)).heap.size=w3.heap.size+1:=by simp[hs34]
 have TW5:TreeX F P P N w5 (.slice (some ⟨w3.heap.size+1,0,none⟩) 1 1) [0]:=by
  have h:=TW2'.out.lit (.cells #[Value.int IntKind.i64 0] 3) 1 1
  simp only[List.length_nil,List.nil_append] at h
  rw[e3] at h
  rw[e5]
  simpa using h
 have O5:OwI w5 (P+1) (.slice (some ⟨w3.heap.size+1,0,none⟩) 1 1) [0]:=by
  rw[e5]
  exact OwI_litN _ [0] (w3.heap.size+1) e3 (fun x hx=>by simp at hx;subst hx;exact⟨by decide,by decide⟩) (by simp) (by omega)
 have SN5:OwB w5 S (.slice (some ⟨S,0,none⟩) N N) (snL N [0]):=by
  rw[hw5,←HW4.out]
  have h:OwB (w4.setCell ⟨P,0,none⟩ (.slice (some ⟨w3.heap.size,0,none⟩) 0 0)) S (.slice (some ⟨S,0,none⟩) N N) (snL N ([]++ [((0:Nat):Int)])):=World.ownsRow.kept SO4'.out (set_grown _ P 0 _) (.inr fun e=>by simp[Value.ownBlock] at e;omega)
  simp only[List.nil_append,Int.ofNat_zero,Int.natCast_zero] at h
  exact(h.alloc _).alloc _
 have hs5:w3.heap.size+2≤w5.heap.size:=by rw[e5];simp[hs34]
 have HB5':=hDD B5
 have HO5:=hDD O5
 have HT5:=hDD TW5
 have HSN5:=hDD SN5
 clear hw5 e5 e3 TW5 O5 SN5 B5 HB6 HB5 hs34 hc0 hf0 qx qy cs0 fs0 TW2' SO4' HB4' GS
 refine(HLE.out w5).mono ?_
 rintro e wl ⟨rl,rfl,ol,bl⟩
 have sl:=bl.size
 obtain⟨Al,capl,rfl,hcl,hml,_,hfl⟩:=ol.form
 obtain⟨gl,rfl,hgl1,hgl2⟩:=hfl (by omega)
 unfold maxLen at hml
 have OL:=hDD ol.rd
 have HBL:Hid (Below (w.heap.size+1) W1 wl):=hDD (HB5'.out.trans (bl.mono (by have:=HB5'.out.size;omega)))
 have HOL:=hDD (HO5.out.below bl)
 have HTL:=hDD (HT5.out.below bl)
 have HSNL:=hDD (HSN5.out.below bl)
 have hne0:w3.heap.size+1≠gl:=by omega
 have hPg:P<gl:=by omega
 clear hfl ol bl HLE
 go_wp2
 go_loopw [8,10] (fun out i wo=> ∃(k:Nat) (o:List Int),k≤o.length∧i= .int .i64 k∧OrdOk g.2.1 o∧TwS g ls k o∧canO g=canF g.2.2 ls (41-k) k o∧OwI wo (P+1) out o∧TreeX F P P N wo out o∧OwB wo S (.slice (some ⟨S,0,none⟩) N N) (snL N o)∧RdI wo (.slice (some ⟨gl,0,none⟩) ls.length capl) ls∧out.ownBlock≠some gl∧gl<wo.heap.size∧Below (w.heap.size+1) W1 wo) (fun _ i _=>41-(intOf i).toNat)
 case atStart=>exact⟨0,[0],by simp,rfl,OK0.out,HS0.out,HCO.out,HOL.out,HTL.out,HSNL.out,OL.out,by simp[Value.ownBlock];omega,hgl2,HBL.out⟩
 case round=>
  obtain⟨k,o,hk,rfl,hok,hts0,hco,hown,htw,hsn,hrd,hne,hglt,hbel⟩:=hrel
  have HTS0:=hDD hts0
  clear hts0
  obtain⟨wo,rfl⟩: ∃wo:World,wo=wr:=⟨_,rfl⟩
  have hol:=OKL.out o hok
  have HOK:=hDD hok
  have HC:=hDD hco
  have HO:=hDD hown
  have HTW:=hDD htw
  have HSN:=hDD hsn
  have HRD:=hDD hrd
  have HNE:=hDD hne
  have HB2:=hDD hbel
  have hsz:=hbel.size
  obtain⟨A1,cap1,rfl,_,_,_,hf2⟩:=hown.form
  clear hok hco htw hbel hsn hrd hne
  by_cases hlt:k<o.length
  ·obtain⟨u,hu⟩: ∃u,o[k]? =some u:=⟨o[k],by simp⟩
   have hku:o[k]=u:=by rw[List.getElem?_eq_getElem hlt] at hu;injection hu
   have HCF:Hid (canO g=canF g.2.2 ls (41-(k+1)) (k+1) (ls.foldl (cstep g.2.2 u) o)):=hDD (by
    rw[HC.out,show 41-k=(41-(k+1))+1 by omega,canF_step _ _ _ _ _ hlt,hku])
   have HTS1:=hDD (HTS0.out.step hu (by omega))
   have HNW1:=hDD (HNW.out k o u HTS0.out hu (by omega))
   have HPU:Hid (∀m:Nat,(((ls.take m).foldl (cstep g.2.2 u) o))[k]? =some u):=hDD fun m=>cfold_prefix _ _ _ _ _ _ hu
   have HSU:Hid (∀(m:Nat) (hm:m<ls.length),(ls.take (m+1)).foldl (cstep g.2.2 u) o=cstep g.2.2 u ((ls.take m).foldl (cstep g.2.2 u) o) ls[m]):=hDD fun m hm=>cfold_succ _ _ _ _ _ hm
   have HOKm:Hid (∀m:Nat,OrdOk g.2.1 ((ls.take m).foldl (cstep g.2.2 u) o)):=hDD fun m=>OKS.out u o m HOK.out
   obtain⟨un,hun,hunN⟩: ∃un:Nat,u=(un:Int)∧un<N:=by
    have h1:=HOK.out.2.1 u (by rw[←hku];simp)
    exact⟨u.toNat,by omega,by omega⟩
   have HUN:=hDD hun
   clear hf2 hu hku hown hun
   go_wp2
   go_loopw [8,11] (fun out j wr=> ∃m:Nat,m≤ls.length∧j= .int .i64 m∧OwI wr (P+1) out ((ls.take m).foldl (cstep g.2.2 u) o)∧TreeX F P P N wr out ((ls.take m).foldl (cstep g.2.2 u) o)∧OwB wr S (.slice (some ⟨S,0,none⟩) N N) (snL N ((ls.take m).foldl (cstep g.2.2 u) o))∧RdI wr (.slice (some ⟨gl,0,none⟩) ls.length capl) ls∧out.ownBlock≠some gl∧gl<wr.heap.size∧Below (w.heap.size+1) W1 wr) (fun _ j _=>ls.length-(intOf j).toNat)
   case atStart=>exact⟨0,Nat.zero_le _,rfl,HO.out,HTW.out,HSN.out,HRD.out,HNE.out,hglt,HB2.out⟩
   case round=>
    obtain⟨m,hm1,rfl,hown,htw,hsn,hrd,hne,hblr,hbi⟩:=hrel
    obtain⟨wj,rfl⟩: ∃wj:World,wj=wr:=⟨_,rfl⟩
    have hsi:=hbi.size
    have HBI:=hDD hbi
    have HRR:=hDD hrd
    have HNR:=hDD hne
    have HTW2:=hDD htw
    have HSN2:=hDD hsn
    clear hbi htw hsn
    by_cases hlt2:m<ls.length
    ·have hokm:=HOKm.out m
     have hlm:=OKL.out _ hokm
     have hpu:=HPU.out m
     have HS:=hDD (HSU.out m hlt2)
     have HORm:=hDD (OKR.out _ hokm)
     obtain⟨_,_,hAl,_,hcl⟩:=hrd.at (by omega)
     obtain⟨rfl,rfl⟩:gl=_∧0=_:=by simpa using hAl
     have c0:=hcl m hlt2
     rw[Nat.zero_add] at c0
     have hx64:I64 ls[m]:=hrd.2 _ (by simp)
     have HNW2:=hDD (HNW1.out m hlt2)
     have HXL:Hid (∀w',RdI w' (.slice (some ⟨gl,0,none⟩) ls.length capl) ls→w'.cell? ⟨gl,m,none⟩=some (.int .i64 ls[m])):=hDD fun w' h=>by
      obtain⟨_,_,hAl,_,hcl⟩:=h.at (by omega)
      obtain⟨rfl,rfl⟩:gl=_∧0=_:=by simpa using hAl
      have:=hcl m hlt2
      rwa [Nat.zero_add] at this
     generalize ls[m]=x at c0 HS hx64 HNW2 HXL
     have HX64:=hDD hx64
     generalize (ls.take m).foldl (cstep g.2.2 u) o=om at*
     have hum:u∈om:=List.mem_of_getElem? hpu
     have HUM:=hDD hum
     have hkm:k<om.length:=(List.getElem?_eq_some_iff.1 hpu).1
     have hkg:om[k]=u:=by rw[List.getElem?_eq_getElem hkm] at hpu;injection hpu
     have HOM:=hDD hown
     obtain⟨A2,cap2,rfl,_,_,_,hf2⟩:=hown.form
     obtain⟨b2,rfl,hb21,hb22⟩:=hf2 (by omega)
     have d0:=hown.cellAt k hkm
     rw[hkg] at d0
     have HKG:Hid (∀w',OwI w' (P+1) (.slice (some ⟨b2,0,none⟩) om.length cap2) om→w'.cell? ⟨b2,k,none⟩=some (.int .i64 u)):=hDD fun w' h=>by
      have:=h.cellAt k hkm
      rwa [hkg] at this
     have NX:=hDD (NV.out u x)
     have N0:=hDD (cstep_no (es:=g.2.2) (u:=u) (x:=x) (o:=om))
     have N1:=hDD (cstep_in (es:=g.2.2) (u:=u) (x:=x) (o:=om))
     have N2:=hDD (cstep_new (es:=g.2.2) (u:=u) (x:=x) (o:=om))
     have HNX:=hDD (fun W (h:ArgG W (.agg #[.int .i64 g.1, .int .i64 (N:Int), .slice A g.2.2.length cap]) g)=>specNextVertex_any _ g u x W h (ONE.out u x))
     obtain⟨p0,p1,p2⟩:=HCL.out wj HBI.out
     have hws:w.heap.size<wj.heap.size:=by omega
     clear hcl hAl hown hrd hf2 hpu hkg hokm hx64 hum hne
     go_wp2_with fail
     have f0:=BelW.cell p0 hws
     have f1:=BelW.cell p1 hws
     have f2:=BelW.cell p2 hws
     have f3:=BelW.cell c0 hblr
     have f4:=BelW.cell d0 hb22
     (refine wp_region_quiet_bel (by kernel_rfl) (by kernel_rfl) ?_;(repeat(go_big_quiet_step (first | (go_at_call 83;exact Calls.bel_of (HNX.out _ (HA.out _ (HBI.out.trans ((BelW.h _).mono (by omega)))))))));refine wpQuiet_nil ?_;intro wq hw';obtain⟨pq,hw''⟩:=hw';have bq:=pq.h;rw[←hw''] at bq;clear hw'' pq)
     clear f0 f1 f2 f3 f4 p0 p1 p2 c0 d0
     have sq:=bq.size
     have HQ:=hDD (HBI.out.trans (bq.mono (by omega)))
     have HOQ:=hDD (HOM.out.below bq)
     have HRQ:=hDD (HRR.out.below bq)
     have HTQ:=hDD (HTW2.out.below bq)
     have HSQ:=hDD (HSN2.out.below bq)
     clear bq
     generalize nextV g.2.2 u x=y at*
     rcases NX.out with hy | hy
     ·subst hy
      have F0:=hDD (N0.out (by omega))
      go_wp2
      go_roundw
      case rel=>exact⟨m+1,by omega,by go_num,by rw[HS.out,F0.out];exact HOQ.out,by rw[HS.out,F0.out];exact HTQ.out,by rw[HS.out,F0.out];exact HSQ.out,HRQ.out,HNR.out,by omega,HQ.out⟩
      case measure=>simp[intOf];omega
     ·obtain⟨yn,rfl⟩: ∃yn:Nat,y=(yn:Int):=⟨y.toNat,by omega⟩
      have hy0:(0:Int)≤(yn:Int):=hy.1
      have hyN:(yn:Int)<(N:Int):=hy.2
      have hynN:yn<N:=by omega
      have cS:=HSQ.out.cellAt yn (by rw[snL_len];exact hynN)
      rw[snL_get N om yn hynN] at cS
      rcases h1:hasB om (yn:Int) with _ | _
      ·have hnotin:(yn:Int)∉om:=hasB_not h1
       rw[decide_eq_false hnotin] at cS
       have F0:=hDD (N2.out hy0 h1)
       have HY:Hid (I64 (yn:Int)):=hDD ⟨by omega,by omega⟩
       have HWY:=hDD (HNW2.out hy0 h1)
       obtain⟨bu,capu,cu,hwul,hru,hbu1,hbu2⟩:=HTQ.out.at_old hunN (by rw[←HUN.out];exact HUM.out)
       have HWU:Hid (F u=F (un:Int)):=hDD (by rw[HUN.out])
       have HWY2:Hid (F (yn:Int)=F (un:Int)++ [x]):=hDD (by rw[HWY.out,HWU.out])
       have fS:=HSQ.out.free yn
       have HSET:=hDD (HSQ.out.set yn true)
       rw[snL_set] at HSET
       have ctQ:=HTQ.out.at_new hynN hnotin
       generalize F (un:Int)=wu at*
       have huN':u<(N:Int):=by rw[HUN.out];omega
       have hu0':(0:Int)≤u:=by rw[HUN.out];omega
       have hkI:(k:Int)<(om.length:Int):=by omega
       have hmI:(m:Int)<(ls.length:Int):=by omega
       obtain⟨wz,hwz⟩: ∃wz,wz=wq.setCell ⟨S,yn,none⟩ (.bool true):=⟨_,rfl⟩
       have gz:wq.grownBy wz (some S):=by rw[hwz];exact HSET.out.2
       have hsz1:wz.heap.size=wq.heap.size:=by rw[hwz];simp
       have HSZ:Hid (OwB wz S (.slice (some ⟨S,0,none⟩) N N) (snL N (om++ [(yn:Int)]))):=hDD (by rw[hwz];exact HSET.out.1)
       have HTZ:=hDD (HTQ.out.other gz hPS)
       have HOZ:Hid (OwI wz (P+1) (.slice (some ⟨b2,0,none⟩) om.length cap2) om):=hDD (by rw[hwz];exact HOQ.out.far (p:=⟨S,yn,none⟩) (by show S<P+1;omega) _)
       have HRZ:=hDD (HRQ.out.grown gz fun b hb hb'=>by simp[Value.ownBlock] at hb hb';omega)
       have HRU:=hDD (hru.grown gz fun b hb hb'=>by simp[Value.ownBlock] at hb hb';omega)
       have HBZ:Hid (Below (w.heap.size+1) W1 wz):=hDD (HQ.out.grown gz (by have:=HQ.out.size;omega) (fun c hc=>by injection hc with hc;omega))
       have HWZ:=hDD hwz
       have hb2z:b2<wz.heap.size:=by rw[hsz1];omega
       have hglz:gl<wz.heap.size:=by rw[hsz1];omega
       have hbuz:bu<wz.heap.size:=by rw[hsz1];omega
       have hPz:P<wz.heap.size:=by omega
       have hSPz:P≤wz.heap.size:=by omega
       have GZ:Hid (wz.heap[P]? =wq.heap[P]?):=hDD (gz.block P (by omega) (fun e=>by injection e with e;omega))
       have huy:(yn:Int)≠u:=fun e=>hnotin (by rw[e];exact HUM.out)
       have hn0:(⟨P,yn,none⟩:Addr)≠⟨b2,k,none⟩:=fun e=>by injection e with e1;omega
       have hn1:(⟨P,yn,none⟩:Addr)≠⟨P,u.toNat,none⟩:=fun e=>by injection e with e1 e2;omega
       have hn2:(⟨P,yn,none⟩:Addr)≠⟨gl,m,none⟩:=fun e=>by injection e with e1;omega
       clear hwz gz hru hnotin hsz1 huy
       have HN0:Hid (∀(W':World) (z:Value),W'.cell? ⟨b2,k,none⟩=some (.int .i64 u)→(W'.setCell ⟨P,yn,none⟩ z).cell? ⟨b2,k,none⟩=some (.int .i64 u)):=hDD fun W' z h=>((by first | exact World.cell?_setCell_other _ hn0 | exact World.cell?_setCell_other _ _ hn0 | exact World.cell?_setCell_other _ _ _ _ hn0 | exact World.cell?_setCell_other _ _ _ _ _ hn0):(W'.setCell _ z).cell? _=W'.cell? _).trans h
       have HN1:Hid (∀(W':World) (z y:Value),W'.cell? ⟨P,u.toNat,none⟩=some y→(W'.setCell ⟨P,yn,none⟩ z).cell? ⟨P,u.toNat,none⟩=some y):=hDD fun W' z y h=>((by first | exact World.cell?_setCell_other _ hn1 | exact World.cell?_setCell_other _ _ hn1 | exact World.cell?_setCell_other _ _ _ _ hn1 | exact World.cell?_setCell_other _ _ _ _ _ hn1):(W'.setCell _ z).cell? _=W'.cell? _).trans h
       have HN2:Hid (∀(W':World) (z:Value),W'.cell? ⟨gl,m,none⟩=some (.int .i64 x)→(W'.setCell ⟨P,yn,none⟩ z).cell? ⟨gl,m,none⟩=some (.int .i64 x)):=hDD fun W' z h=>((by first | exact World.cell?_setCell_other _ hn2 | exact World.cell?_setCell_other _ _ hn2 | exact World.cell?_setCell_other _ _ _ _ hn2 | exact World.cell?_setCell_other _ _ _ _ _ hn2):(W'.setCell _ z).cell? _=W'.cell? _).trans h
       clear hn0 hn1 hn2
       go_wp2_with fail
       rw[←HWZ.out]
       have k0:=HKG.out wz HOZ.out
       have k1:wz.cell? ⟨P,u.toNat,none⟩=some (.slice (some ⟨bu,0,none⟩) wu.length capu):=by
        rw[HUN.out,Int.toNat_natCast]
        exact(World.cell?_of_block GZ.out).trans cu
       have k2:=HXL.out wz HRZ.out
       have k3:wz.cell? ⟨P,yn,none⟩=some (.slice none 0 0):=(World.cell?_of_block GZ.out).trans ctQ
       have k4:=HTZ.out.free yn
       clear cS fS cu ctQ HWZ
       have hRR:Hid (RdI (wz.drew.alloc (.cells #[] 3)) (.slice (some ⟨bu,0,none⟩) wu.length capu) wu):=hDD (HRU.out.drew.alloc _)
       have HRB:Hid (RdI ((wz.alloc (.cells #[] 3)).alloc (.cells #[.int .i64 x] 3)).drew (.slice (some ⟨bu,0,none⟩) wu.length capu) wu):=hDD (((HRU.out.alloc (.cells #[] 3)).alloc (.cells #[.int .i64 x] 3)).drew)
       have HRC:Hid (RdI ((wz.alloc (.cells #[.int .i64 x] 3)).alloc (.cells #[] 3)).drew (.slice (some ⟨bu,0,none⟩) wu.length capu) wu):=hDD (((HRU.out.alloc (.cells #[.int .i64 x] 3)).alloc (.cells #[] 3)).drew)
       have HOB:=hDD (((OwI_lit wz [] I64s_nil (by simp) (Nat.le_refl _)).alloc (.cells #[.int .i64 x] 3)).drew)
       have HOC:Hid (OwI ((wz.alloc (.cells #[.int .i64 x] 3)).alloc (.cells #[] 3)).drew wz.heap.size (.slice (some ⟨wz.heap.size+1,0,none⟩) 0 0) []):=hDD (OwI_litN (wz.alloc (.cells #[.int .i64 x] 3)) [] (wz.heap.size+1) (by simp) I64s_nil (by simp) (by omega))
       have HXB:Hid (RdI ((wz.alloc (.cells #[] 3)).alloc (.cells #[.int .i64 x] 3)).drew (.slice (some ⟨wz.heap.size+1,0,none⟩) 1 1) [x]):=hDD (by have:=RdI_new1 (wz.alloc (.cells #[] 3)) x HX64.out;simpa using this.drew)
       have HXC:Hid (RdI ((wz.alloc (.cells #[.int .i64 x] 3)).alloc (.cells #[] 3)).drew (.slice (some ⟨wz.heap.size,0,none⟩) 1 1) [x]):=hDD (((RdI_new1 wz x HX64.out).alloc (.cells #[] 3)).drew)
       have HBB:Hid (Below wz.heap.size wz ((wz.alloc (.cells #[] 3)).alloc (.cells #[.int .i64 x] 3)).drew):=hDD ((((Below.refl wz.heap.size wz).alloc (Nat.le_refl _) _).alloc (by simp) _).drew)
       have HBC:Hid (Below wz.heap.size wz ((wz.alloc (.cells #[.int .i64 x] 3)).alloc (.cells #[] 3)).drew):=hDD ((((Below.refl wz.heap.size wz).alloc (Nat.le_refl _) _).alloc (by simp) _).drew)
       go_region_held3 (fun w'=>w'.cell? ⟨b2,k,none⟩=some (.int .i64 u)∧w'.cell? ⟨P,u.toNat,none⟩=some (.slice (some ⟨bu,0,none⟩) wu.length capu)∧w'.cell? ⟨gl,m,none⟩=some (.int .i64 x))
        (first | go_keep | (exact⟨(hc1 _ _ hb2z).trans k0,(hc1 _ _ hPz).trans k1,(hc1 _ _ hglz).trans k2⟩) | (exact⟨HN0.out _ _ ((hc1 _ _ hb2z).trans k0),HN1.out _ _ _ ((hc1 _ _ hPz).trans k1),HN2.out _ _ ((hc1 _ _ hglz).trans k2)⟩) | (exact⟨(hc0 _ _ hb2z).trans k0,(hc0 _ _ hPz).trans k1,(hc0 _ _ hglz).trans k2⟩))
        (first
         | (refine step_append_ints rfl (.tmp 67) (.tmp 74) rfl wz.heap.size _ [] (OwI_litN _ [] wz.heap.size (by simp[World.drew,World.drewN]) I64s_nil (by simp) (Nat.le_refl _)) (by rfl) _ wu ?_ (by rfl) (by simp;omega) (by simp) ?_;(exact hRR.out);intro v1 w1 o1 g1 p1;rw[List.nil_append] at o1;have hb0:=(((Below.refl wz.heap.size wz).drew).alloc (Nat.le_refl _) (.cells #[] 3));have hb1:=hb0.grown g1 hb0.size (fun k hk=>by simp[Value.ownBlock] at hk;omega);have O1:=hDD o1;have B1:=hDD hb1;obtain⟨hc0,hf0⟩:=bcellN hb1;have hz1:=hb1.size;clear o1 hb0 hb1 g1 p1 hRR HRB HRC HOB HOC HXB HXC HBB HBC)
         | (refine step_append_ints rfl (.tmp 67) (.tmp 74) rfl wz.heap.size _ [] HOB.out (by rfl) _ wu HRB.out (by rfl) (by simp;omega) HBB.out.size ?_;intro v1 w1 o1 g1 p1;rw[List.nil_append] at o1;have hb1:=HBB.out.grown g1 HBB.out.size (fun k hk=>by simp[Value.ownBlock] at hk;omega);have HX:=hDD (HXB.out.grown g1 (fun b e1 e2=>by simp[Value.ownBlock] at e1 e2;omega));have O1:=hDD o1;have B1:=hDD hb1;obtain⟨hc0,hf0⟩:=bcellN hb1;have hz1:=hb1.size;clear o1 hb1 g1 p1 hRR HRB HRC HOB HOC HXB HXC HBB HBC)
         | (refine step_append_ints rfl (.tmp 67) (.tmp 74) rfl wz.heap.size _ [] HOC.out (by rfl) _ wu HRC.out (by rfl) (by simp;omega) HBC.out.size ?_;intro v1 w1 o1 g1 p1;rw[List.nil_append] at o1;have hb1:=HBC.out.grown g1 HBC.out.size (fun k hk=>by simp[Value.ownBlock] at hk;omega);have HX:=hDD (HXC.out.grown g1 (fun b e1 e2=>by simp[Value.ownBlock] at e1 e2;omega));have O1:=hDD o1;have B1:=hDD hb1;obtain⟨hc0,hf0⟩:=bcellN hb1;have hz1:=hb1.size;clear o1 hb1 g1 p1 hRR HRB HRC HOB HOC HXB HXC HBB HBC)
         | (refine step_append_ints rfl (.tmp 75) (.tmp 80) rfl wz.heap.size _ wu (O1.out.alloc _) (by rfl) _ [x] (RdI_new1 _ x HX64.out) (by rfl) (by simp;omega) (by simp;omega) ?_;intro v2 w2 o2 g2 p2;have hb2:=((B1.out.alloc hz1 (.cells #[.int .i64 x] 3)).grown g2 (by simp;omega) (fun k hk=>(O1.out.1.lt k hk).1));have B2:=hDD hb2;obtain⟨hc1,hf1⟩:=bcellN hb2;have k5:=(hf1 _ _ hPz).trans k4;have k6:=(hc1 _ _ hPz).trans k3;have hz2:=hb2.size;obtain⟨A8,c8,hv2,_,_,_,hf8⟩:=OwI.form o2;obtain⟨b8,hA8,hb81,hb82⟩:=hf8 (by simp);rw[List.length_append,List.length_singleton,hA8] at hv2;subst hv2;have O2:=hDD o2;clear o2 hb2 g2 p2 hz1 B1 hf8)
         | (refine step_append_ints rfl (.tmp 75) (.tmp 80) rfl wz.heap.size _ wu O1.out (by rfl) _ [x] HX.out (by rfl) (by simp;omega) hz1 ?_;intro v2 w2 o2 g2 p2;have hb2:=(B1.out.grown g2 hz1 (fun k hk=>(O1.out.1.lt k hk).1));have B2:=hDD hb2;obtain⟨hc1,hf1⟩:=bcellN hb2;have k5:=(hf1 _ _ hPz).trans k4;have k6:=(hc1 _ _ hPz).trans k3;have hz2:=hb2.size;obtain⟨A8,c8,hv2,_,_,_,hf8⟩:=OwI.form o2;obtain⟨b8,hA8,hb81,hb82⟩:=hf8 (by simp);rw[List.length_append,List.length_singleton,hA8] at hv2;subst hv2;have O2:=hDD o2;clear o2 hb2 g2 p2 hz1 B1 HX hf8))
       all_goals (
 have hgS:w2.grownBy (w2.setCell ⟨P,yn,none⟩ (.slice (some ⟨b8,0,none⟩) (wu.length+1) c8)) (some P):=set_grown _ _ _ _
 have hPw2:P<w2.heap.size:=by omega
 have TWS:=(HTZ.out.below B2.out).set (b:=b8) (cap:=c8) hynN HWY2.out (by have h:=O2.out.mono (base':=P) (by omega);rw[List.length_append,List.length_singleton];exact h) (by simp;omega) (by omega) (fun e=>by simp[Value.ownBlock] at e;omega) hb82
 simp only[List.length_append,List.length_cons,List.length_nil,Nat.zero_add] at TWS
 have HTS:=hDD TWS
 have HOS:Hid (OwI (w2.setCell ⟨P,yn,none⟩ (.slice (some ⟨b8,0,none⟩) (wu.length+1) c8)) (P+1) (.slice (some ⟨b2,0,none⟩) om.length cap2) om):=hDD ((HOZ.out.below B2.out).far (p:=⟨P,yn,none⟩) (by show P<P+1;omega) _)
 have HSS:Hid (OwB (w2.setCell ⟨P,yn,none⟩ (.slice (some ⟨b8,0,none⟩) (wu.length+1) c8)) S (.slice (some ⟨S,0,none⟩) N N) (snL N (om++ [(yn:Int)]))):=hDD (World.ownsRow.kept (HSZ.out.below B2.out) hgS (.inr fun e=>by simp[Value.ownBlock] at e;omega))
 have HRS:Hid (RdI (w2.setCell ⟨P,yn,none⟩ (.slice (some ⟨b8,0,none⟩) (wu.length+1) c8)) (.slice (some ⟨gl,0,none⟩) ls.length capl) ls):=hDD ((HRZ.out.below B2.out).grown hgS fun b hb hb'=>by simp[Value.ownBlock] at hb hb';omega)
 have HBS:Hid (Below (w.heap.size+1) W1 (w2.setCell ⟨P,yn,none⟩ (.slice (some ⟨b8,0,none⟩) (wu.length+1) c8))):=hDD ((HBZ.out.trans (B2.out.mono (by omega))).setCell (by show w.heap.size+1≤P;omega) _)
 have hsS:(w2.setCell ⟨P,yn,none⟩ (.slice (some ⟨b8,0,none⟩) (wu.length+1) c8)).heap.size=w2.heap.size:=by simp
 generalize w2.setCell ⟨P,yn,none⟩ (.slice (some ⟨b8,0,none⟩) (wu.length+1) c8)=wT at*
 clear k0 k1 k2 k3 k4 k5 k6 TWS hgS hc1 hf1
 have hwT1:w2.heap.size≤wT.heap.size:=by omega
 have hwT2:wT.heap.size≤w2.heap.size:=by omega
 clear hsS
 go_wp2_with (at_builtin;refine push_int rfl (.tmp 83) (.tmp 85) rfl _ _ _ (OwI.alloc HOS.out _) rfl _ _ rfl (cell_new1 _ _ _) HY.out (by first | omega | (simp<;>omega)) (by first | omega | (simp<;>omega)) ?_;intro v9 wv9 o9 g9 p9)
 have hz9:=g9.size
 simp at hz9
 go_roundw
 case rel=>
  refine⟨m+1,by omega,by go_num,by rw[HS.out,F0.out];exact o9,by rw[HS.out,F0.out];exact HTS.out.push g9 p9,by rw[HS.out,F0.out];exact World.ownsRow.kept (HSS.out.alloc _) g9 (.inr fun e=>by simp[Value.ownBlock] at e;omega),(HRS.out.alloc _).grown g9 (fun b hb hb'=> ?_),fun e=> ?_,by omega,bel_push HBS.out (by omega) HOS.out.1 (by omega) g9⟩
  ·simp only[Value.ownBlock,Option.some.injEq] at hb
   subst hb
   exact HNR.out hb'
  ·rcases p9 with p9 | p9
   ·rw[p9] at e;exact HNR.out e
   ·rw[p9] at e;simp at e;omega
 case measure=>simp[intOf];omega)
      ·have F0:=hDD (N1.out hy0 h1)
       rw[decide_eq_true (hasB_iff.1 h1)] at cS
       go_wp2
       go_roundw
       case rel=>exact⟨m+1,by omega,by go_num,by rw[HS.out,F0.out];exact HOQ.out,by rw[HS.out,F0.out];exact HTQ.out,by rw[HS.out,F0.out];exact HSQ.out,HRQ.out,HNR.out,by omega,HQ.out⟩
       case measure=>simp[intOf];omega
    ·obtain rfl:m=ls.length:=by omega
     rw[List.take_length] at hown HTW2 HSN2
     have hokm:=HOKm.out ls.length
     rw[List.take_length] at hokm
     have HOKF:=hDD hokm
     have HOM:=hDD hown
     have hlen:k+1≤(ls.foldl (cstep g.2.2 u) o).length:=by
      have:=HPU.out ls.length
      rw[List.take_length] at this
      have:=(List.getElem?_eq_some_iff.1 this).1
      omega
     obtain⟨A2,cap2,rfl,_⟩:=hown.form
     clear hown hrd hne hokm
     go_wp2
     go_roundw
     case rel=>exact⟨k+1,_,hlen,by go_num,HOKF.out,HTS1.out,HCF.out,HOM.out,HTW2.out,HSN2.out,HRR.out,HNR.out,hblr,HBI.out⟩
     case measure=>simp[intOf];omega
  ·obtain rfl:k=o.length:=by omega
   have F':Hid (canO g=o):=hDD (by rw[HC.out,canF_end])
   have HBW:Hid (Below w.heap.size w wo):=hDD (BX.out.trans (HB2.out.mono (by omega)))
   have HTF:Hid (TreeX F w.heap.size P N wo (.slice A1 o.length cap1) o):=hDD (HTW.out.base (by omega))
   clear hown hf2
   go_wp2
   exact bodyPost_ret (v:= .tuple #[.slice (some ⟨S,0,none⟩) N N, .slice (some ⟨P,0,none⟩) N N]) (by simp[results,Tryz.results148]) rfl ⟨S,P,_,rfl,by rw[F'.out];exact OwB.mono HSN.out (by omega),by rw[F'.out];exact HTF.out,HBW.out⟩
set_option maxHeartbeats 2000000 in
theorem specPathWord_any (v:Value) (g:GrD) (y:Int) (w:World) (h:ArgG w v g) (hf:foldB g=true) (hy:y∈canO g):
  Calls Tryz.prog 120 #[v, .int .i64 0, .int .i64 y] w fun e w'=> ∃r,e= .returned (.tuple #[r, .bool true])∧OwI w' w.heap.size r (wdO g y)∧Below w.heap.size w w':=by
 have HG:=hDD h
 have HF:=hDD hf
 obtain⟨hg,hfol⟩:=foldB_parts hf
 obtain⟨hr13,hsz40,hl120,_⟩:=grB_parts hg
 have hyr:=(canO_ok hg).2.1 y hy
 have hwl:=wd_len hg hy
 have HYM:=hDD hy
 obtain⟨s,rfl,hi1,hi2,ha⟩:=h
 obtain⟨A,cap,rfl⟩:=ha.form
 have HSE:=hDD (fun W' (h:ArgG W' (.agg #[.int .i64 g.1, .int .i64 g.2.1, .slice A g.2.2.length cap]) g)=>l5Search_any _ g W' h hf)
 have HFO:=hDD (fun W' (h:ArgG W' (.agg #[.int .i64 g.1, .int .i64 g.2.1, .slice A g.2.2.length cap]) g)=>specIsFolded_any _ g W' h)
 rw[HF.out] at HFO
 obtain⟨O,hO⟩: ∃O,O=canO g:=⟨_,rfl⟩
 obtain⟨F,hFF⟩: ∃F,F=wdO g:=⟨_,rfl⟩
 rw[←hO] at HYM HSE
 rw[←hFF] at HSE hwl⊢
 obtain⟨g1,n,es⟩:=g
 simp only at*
 clear hO hFF hy hg hfol ha hf
 obtain⟨N,rfl⟩: ∃N:Nat,n=(N:Int):=⟨n.toNat,by omega⟩
 simp only[Int.toNat_natCast] at HSE
 obtain⟨yn,rfl⟩: ∃yn:Nat,y=(yn:Int):=⟨y.toNat,by omega⟩
 have hwn:IntKind.i64.wrap ((N:Int)-1)=(N:Int)-1:=by rw[IntKind.wrap_i64];omega
 have hin0:inB 0 0 ((N:Int)-1)=true:=by unfold inB;simp;omega
 have hiny:inB (yn:Int) 0 ((N:Int)-1)=true:=by unfold inB;simp;omega
 have hy0:(0:Int)≤(yn:Int):=by omega
 have hyN:(yn:Int)<(N:Int):=hyr.2
 have hynN:yn<N:=by omega
 obtain⟨wu,hwu⟩: ∃wu,wu=F (yn:Int):=⟨_,rfl⟩
 rw[←hwu] at hwl⊢
 have HWU:=hDD hwu
 clear hwu
 go_enter Tryz.func120,Tryz.ntmps120
 go_wp2_with fail
 obtain⟨W,hW⟩: ∃W,W=w.alloc (Obj.cells #[Value.int IntKind.i64 g1,Value.int IntKind.i64 (N:Int), .slice A es.length cap] 26):=⟨_,rfl⟩
 obtain⟨hsW,b1,hc1⟩:=gboxE hW
 rw[←hW]
 have BX:=hDD b1
 have HCL:=hDD hc1
 have HA:Hid (∀w',Below (w.heap.size+1) W w'→ArgG w' (.agg #[.int .i64 g1, .int .i64 (N:Int), .slice A es.length cap]) (g1,(N:Int),es)):=hDD fun w' hb=>HG.out.below (BX.out.trans (hb.mono (by omega)))
 have hW1:w.heap.size+1≤W.heap.size:=by omega
 clear hW hc1 b1 hsW
 refine(HFO.out W (HA.out W ((Below.refl W.heap.size W).mono (by omega)))).mono ?_
 rintro e w2 ⟨rfl,b2⟩
 have hs2:=b2.size
 have B2:Hid (Below (w.heap.size+1) W w2):=hDD (b2.mono hW1)
 clear b2
 obtain⟨q0,q1,q2⟩:=HCL.out w2 B2.out
 go_wp2_with (go_at_call 68;refine(l1In_any _ _ _ _).mono ?_;rintro e w' ⟨rfl,rfl⟩)
 refine(HSE.out w2 (HA.out w2 B2.out)).mono ?_
 rintro e w3 ⟨S,P,ord,rfl,sn,tx,b3⟩
 have hs3:=b3.size
 have B3:Hid (Below (w.heap.size+1) W w3):=hDD (B2.out.trans (b3.mono (by omega)))
 have cS:=OwB.cellAt sn yn (by rw[snL_len];exact hynN)
 rw[snL_get N O yn hynN,decide_eq_true HYM.out] at cS
 obtain⟨bu,capu,cu,_,hru,hbu,hPb0⟩:=tx.at_old hynN HYM.out
 rw[←HWU.out] at cu hru
 have hPb:P<w3.heap.size:=by omega
 have cu2:=((((Below.refl w3.heap.size w3).alloc (Nat.le_refl _) (.cells #[] 3))).cell (p:=⟨P,yn,none⟩) hPb).trans cu
 have HRU:=hDD hru
 have HBF:=hDD (BX.out.trans (B3.out.mono (by omega)))
 clear sn tx b3 hru q0 q1 q2
 go_wp2_with (at_builtin;refine append_ints rfl (.tmp 42) (.tmp 46) rfl w3.heap.size _ [] (OwI_lit w3 [] I64s_nil (by simp) (Nat.le_refl _)) rfl _ wu (HRU.out.alloc _) rfl (by simp;omega) (by simp) ?_;intro v6 w6 o6 g6 p6;rw[List.nil_append] at o6;have O6:=hDD o6;have B6:Hid (Below w3.heap.size w3 w6):=hDD (((Below.refl w3.heap.size w3).alloc (Nat.le_refl _) (.cells #[] 3)).grown g6 (by simp) (fun k hk=>by simp[Value.ownBlock] at hk;omega));clear o6 g6 p6)
 have HB:=hDD (HBF.out.trans (B6.out.mono (by omega)))
 exact bodyPost_ret (v:= .tuple #[v6, .bool true]) (by simp[results,Tryz.results120]) rfl ⟨_,rfl,O6.out.mono (by omega),HB.out⟩
set_option maxHeartbeats 1000000 in
theorem specTreeWord_any (v:Value) (g:GrD) (y:Int) (w:World) (h:ArgG w v g) (hf:foldB g=true) (hy:y∈canO g):
  Calls Tryz.prog 79 #[v, .int .i64 y] w fun e w'=> ∃r,e= .returned r∧OwI w' w.heap.size r (wdO g y)∧Below w.heap.size w w':=by
 have HG:=hDD h
 obtain⟨s,rfl,hi1,hi2,ha⟩:=h
 obtain⟨A,cap,rfl⟩:=ha.form
 have HPW:=hDD (fun W' (h:ArgG W' (.agg #[.int .i64 g.1, .int .i64 g.2.1, .slice A g.2.2.length cap]) g)=>specPathWord_any _ g y W' h hf hy)
 obtain⟨g1,n,es⟩:=g
 simp only at*
 generalize wdO (g1,n,es) y=wu at*
 clear ha hf hy
 go_enter Tryz.func79,Tryz.ntmps79
 go_wp2_with fail
 obtain⟨W,hW⟩: ∃W,W=w.alloc (Obj.cells #[Value.int IntKind.i64 g1,Value.int IntKind.i64 n, .slice A es.length cap] 26):=⟨_,rfl⟩
 obtain⟨hsW,b1,hc1⟩:=gboxE hW
 rw[←hW]
 have BX:=hDD b1
 have hW1:w.heap.size+1≤W.heap.size:=by omega
 clear hW hc1 b1 hsW
 refine(HPW.out W (HG.out.below BX.out)).mono ?_
 rintro e w3 ⟨r3,rfl,o3,b3⟩
 have O3:=hDD o3
 have HB:=hDD (BX.out.trans (b3.mono (by omega)))
 clear o3 b3
 go_wp2
 go_ret
 exact⟨_,rfl,O3.out.mono (by omega),HB.out⟩
end Go.Proofs.YteobmaambgmdbaaGreat
namespace Go.Proofs.YteobmaambgmdbaaGreat
set_option maxRecDepth 20000
set_option linter.unusedVariables false
set_option linter.unusedSimpArgs false
open Go.RowKit
theorem lt_cell0 {w:World} {b o:Nat} {v:Value} (h:w.cell? ⟨b,o,none⟩=some v):b<w.heap.size:=by
 rcases Nat.lt_or_ge b w.heap.size with h' | h'
 ·exact h'
 ·simp[World.cell?,Array.getElem?_eq_none h'] at h
theorem ArgC.below {w w':World} {v:Value} {cs:List Int} (h:ArgC w v cs) (hb:Below w.heap.size w w'):ArgC w' v cs:=by
 obtain⟨A,cap,hv,h1,h2,h3,h4⟩:=h
 refine⟨A,cap,hv,h1,h2,h3,fun h0=> ?_⟩
 obtain⟨b,off,hA,hc⟩:=h4 h0
 exact⟨b,off,hA,fun i hi=>(World.cell?_of_block (w:=w) (hb.block b (lt_cell0 (hc 0 h0)))).trans (hc i hi)⟩
set_option maxHeartbeats 400000 in
theorem sameInts_any (v u:Value) (xs ys:List Int) (w:World) (h:ArgI w v xs) (h':ArgI w u ys):
  Calls Tryz.prog 34 #[v,u] w fun e w'=>e= .returned (.bool (decide (xs=ys)))∧ ∃n,w'=w.drewN n:=by
 obtain⟨A,cap,rfl,hcap,hm,hr,hb⟩:=h
 obtain⟨A',cap',rfl,hcap',hm',hr',hb'⟩:=h'
 unfold maxLen at hm hm'
 by_cases hne:xs.length=ys.length
 ·have hd:((xs.length:Int) != (ys.length:Int))=false:=by simp[hne]
  have HNE:=hDD hne
  clear hne
  go_enter Tryz.func34,Tryz.ntmps34
  go_wp2
  go_loopw [5] (fun i wr=> ∃k:Nat,k≤xs.length∧i= .int .i64 k∧xs.take k=ys.take k∧ ∃n,wr=w.drewN n) (fun i _=>xs.length-(intOf i).toNat)
  case atStart=>exact⟨0,Nat.zero_le _,rfl,by simp,0,rfl⟩
  case round=>
   obtain⟨k,hk,rfl,heq,n,rfl⟩:=hrel
   have HEQ:=hDD heq
   clear heq
   by_cases hlt:k<xs.length
   ·obtain⟨b,off,rfl,hc⟩:=hb (by omega)
    have hlt':k<ys.length:=by have:=HNE.out;omega
    obtain⟨b',off',rfl,hc'⟩:=hb' (by omega)
    have hcell:=hc k hlt
    have hcell':=hc' k hlt'
    clear hc hc' hb hb'
    by_cases hx:xs[k]=ys[k]
    ·have hx1:(xs[k] != ys[k])=false:=by simp[hx]
     have HX:=hDD hx
     clear hx
     go_wp2
     go_quiet (fail)
     go_wp2
     go_roundw
     case rel=>exact⟨k+1,by omega,by go_num,take_eq_succ HEQ.out hlt hlt' HX.out,_,rfl⟩
     case measure=>simp[intOf];omega
    ·have hx1:(xs[k] != ys[k])=true:=by simp[hx]
     go_wp2
     go_quiet (fail)
     go_wp2
     go_ret
     exact⟨ret_bool (by symm;rw[decide_eq_false_iff_not];rintro rfl;exact hx rfl),_,World.drewN_drewN _ _ _⟩
   ·obtain rfl:k=xs.length:=by omega
    go_wp2
    go_ret
    refine⟨ret_bool ?_,n,rfl⟩
    have h1:=HEQ.out
    rw[List.take_length,HNE.out,List.take_length] at h1
    simp[h1]
 ·have hd:((xs.length:Int) != (ys.length:Int))=true:=by simp;omega
  go_enter Tryz.func34,Tryz.ntmps34
  go_wp2
  go_ret
  exact⟨ret_bool (by symm;rw[decide_eq_false_iff_not];rintro rfl;exact hne rfl),0,rfl⟩
set_option maxHeartbeats 1000000 in
theorem sameWords_any (v u:Value) (ds ds':List (List Int)) (w:World) {lo hi lo' hi':Nat} (h:OIIs lo hi v ds w) (h':OIIs lo' hi' u ds' w) (hh:hi≤w.heap.size) (hh':hi'≤w.heap.size):
  Calls Tryz.prog 17 #[v,u] w fun e w'=>e= .returned (.bool (decide (ds=ds')))∧Below w.heap.size w w':=by
 obtain⟨A,cap,rfl,hcap,hm,_⟩:=h.len
 obtain⟨A',cap',rfl,hcap',hm',_⟩:=h'.len
 have H:=hDD h
 have H':=hDD h'
 unfold maxLen at hm hm'
 clear h h'
 by_cases hne:ds.length=ds'.length
 ·have hd:((ds.length:Int) != (ds'.length:Int))=false:=by simp[hne]
  have HNE:=hDD hne
  clear hne
  go_enter Tryz.func17,Tryz.ntmps17
  go_wp2
  go_loopw [5] (fun i wr=> ∃k:Nat,k≤ds.length∧i= .int .i64 k∧ds.take k=ds'.take k∧Below w.heap.size w wr) (fun i _=>ds.length-(intOf i).toNat)
  case atStart=>exact⟨0,Nat.zero_le _,rfl,by simp,Below.refl _ _⟩
  case round=>
   obtain⟨k,hk,rfl,heq,hbel⟩:=hrel
   have HEQ:=hDD heq
   have HB:=hDD hbel
   have hsz:=hbel.size
   by_cases hlt:k<ds.length
   ·have hlt':k<ds'.length:=by have:=HNE.out;omega
    obtain⟨g,cs,Fe,rfl,_,hg,hE,hcw,_,_,hc,_⟩:=(H.out.keep EI.stable (w':=wr) fun b _ hb=>hbel.block b (by omega)).focus EI.stable hlt
    obtain⟨g',cs',Fe',rfl,_,hg',hE',hcw',_,_,hc',_⟩:=(H'.out.keep EI.stable (w':=wr) fun b _ hb=>hbel.block b (by omega)).focus EI.stable hlt'
    obtain⟨s,rfl,ho,_⟩:=hE
    obtain⟨s',rfl,ho',_⟩:=hE'
    have c0:=hc 0 (by simp)
    have c0':=hc' 0 (by simp)
    simp only[List.getElem_cons_zero,Nat.add_zero,Nat.mul_one] at c0 c0'
    have HQ:Hid (ds.take (k+1)=ds'.take (k+1)↔ds[k]=ds'[k]):=hDD ⟨fun e=>by
     have:=congrArg (fun l=>l[k]?) e
     simpa[hlt,hlt'] using this,fun e=>take_eq_succ HEQ.out hlt hlt' e⟩
    have HN:Hid (ds[k]≠ds'[k]→ds≠ds'):=hDD (fun e1 e2=>by subst e2;exact e1 rfl)
    have X1:=hDD ho
    have X2:=hDD ho'
    have hgw:g<wr.heap.size:=by omega
    have hgw':g'<wr.heap.size:=by omega
    clear hc hc' heq hbel ho ho'
    generalize ds[k]=d at*
    generalize ds'[k]=d' at*
    obtain⟨A2,c2,rfl,_⟩:=OwI.form X1.out
    obtain⟨A3,c3,rfl,_⟩:=OwI.form X2.out
    go_wp2_with fail
    go_quiet ((go_at_call 34;exact(sameInts_any _ _ d d' _ (X1.out.arg.drewN _) (X2.out.arg.drewN _)).mono fun _ _ ⟨he,n,hn⟩=>⟨he,by rw[hn];exact⟨_,World.drewN_drewN _ _ _⟩⟩))
    rcases e2:decide (d=d') with _ | _
    ·go_wp2
     go_ret
     exact⟨ret_bool (by symm;rw[decide_eq_false_iff_not];exact HN.out (by simpa using e2)),bel_drewN HB.out _⟩
    ·go_wp2
     go_roundw
     case rel=>exact⟨k+1,by omega,by go_num,HQ.out.2 (by simpa using e2),bel_drewN HB.out _⟩
     case measure=>simp[intOf];omega
   ·obtain rfl:k=ds.length:=by omega
    go_wp2
    go_ret
    refine⟨ret_bool ?_,HB.out⟩
    have h1:=HEQ.out
    rw[List.take_length,HNE.out,List.take_length] at h1
    simp[h1]
 ·have hd:((ds.length:Int) != (ds'.length:Int))=true:=by simp;omega
  go_enter Tryz.func17,Tryz.ntmps17
  go_wp2
  go_ret
  exact⟨ret_bool (by symm;rw[decide_eq_false_iff_not];rintro rfl;exact hne rfl),Below.refl _ _⟩
def LsW (w:World) (v:Value) (L:List (List Int)):Prop:= ∃lo hi,OwII lo hi v L w∧hi≤w.heap.size
theorem LsW.below {w w':World} {v:Value} {L:List (List Int)} (h:LsW w v L) (hb:Below w.heap.size w w'):LsW w' v L:=by
 obtain⟨lo,hi,h,hh⟩:=h
 exact⟨lo,hi,h.keep EI.stable fun b _ hb'=>hb.block b (by omega),Nat.le_trans hh hb.size⟩
theorem LsW.form {w:World} {v:Value} {L:List (List Int)} (h:LsW w v L): ∃A c,v= .slice A L.length c:=by
 obtain⟨lo,hi,h,hh⟩:=h
 obtain⟨A,c,hv,_⟩:=h.len
 exact⟨A,c,hv⟩
theorem LsW.row {w:World} {A:Option Addr} {c:Nat} {L:List (List Int)} (h:LsW w (.slice A L.length c) L) {k:Nat} (hk:k<L.length):
  ∃g A2 c2,A=some ⟨g,0,none⟩∧g<w.heap.size∧w.cell? ⟨g,k,none⟩=some (.slice A2 L[k].length c2)∧RdI w (.slice A2 L[k].length c2) L[k]:=by
 obtain⟨lo,hi,h,hh⟩:=h
 obtain⟨g,cs,Fe,hA,_,hg,hE,hcw,_,_,hc,_⟩:=h.focus EI.stable hk
 obtain⟨s,rfl,ho,_⟩:=hE
 have c0:=hc 0 (by simp)
 simp only[List.getElem_cons_zero,Nat.add_zero,Nat.mul_one] at c0
 obtain⟨A2,c2,rfl,_⟩:=OwI.form ho
 refine⟨g,A2,c2,hA,by omega,c0,ho.rd⟩
theorem sameI (v u:Value) (xs ys:List Int) (w:World) (h:RdI w v xs) (h':RdI w u ys):
  Calls Tryz.prog 34 #[v,u] w fun e w'=>e= .returned (.bool (decide (xs=ys)))∧Below w.heap.size w w':=
 (sameInts_any v u xs ys w h.arg h'.arg).mono fun _ _ ⟨he,n,hn⟩=>⟨he,by rw[hn];exact bel_drewN (Below.refl _ _) _⟩
theorem sameL (v u:Value) (L L':List (List Int)) (w:World) (h:LsW w v L) (h':LsW w u L'):
  Calls Tryz.prog 17 #[v,u] w fun e w'=>e= .returned (.bool (decide (L=L')))∧Below w.heap.size w w':=by
 obtain⟨_,_,h,hh⟩:=h
 obtain⟨_,_,h',hh'⟩:=h'
 exact sameWords_any v u L L' w h h' hh hh'
theorem big_any (v:Value) (cs:List Int) (w:World) (h:ArgC w v cs):
  Calls Tryz.prog 6 #[v] w fun e w'=>e= .returned (.bool (decide ((1048576:Int)<cs.length)))∧w=w':=by
 obtain⟨A,cap,rfl,_⟩:=h
 go_enter Tryz.func6,Tryz.ntmps6
 go_wp2
 exact bodyPost_ret (v:= .bool (decide ((1048576:Int)<cs.length))) (by simp[results,Tryz.results6,go_sem]) rfl ⟨rfl,rfl⟩
end Go.Proofs.YteobmaambgmdbaaGreat
namespace Go.Proofs.YteobmaambgmdbaaGreat
set_option maxRecDepth 20000
set_option linter.unusedVariables false
set_option linter.unusedSimpArgs false
open Go.RowKit
def idxO (g:GrD):Int:=if finB g=true then g.2.1 else-1
def rowC (g:GrD) (ls:List Int) (v:Nat):List Int:=ls.map fun x=>nextV g.2.2 (v:Int) x
def ctbL (g:GrD):List (List Int):=if finB g=true then(List.range g.2.1.toNat).map (rowC g (lettersL g.1.toNat)) else []
def trvL (g:GrD):List (List Int):=if coreB g=true then(List.range g.2.1.toNat).map fun (v:Nat)=>wdO g v else []
set_option maxHeartbeats 1000000 in
theorem specIndexOf_any (v:Value) (g:GrD) (w:World) (h:ArgG w v g):
  Calls Tryz.prog 22 #[v] w fun e w'=>e= .returned (.int .i64 (idxO g))∧Below w.heap.size w w':=by
 have HG:=hDD h
 have HI:Hid (idxO g=if finB g=true then g.2.1 else-1):=hDD rfl
 generalize idxO g=n at*
 obtain⟨s,rfl,hi1,hi2,ha⟩:=h
 obtain⟨A,cap,rfl⟩:=ha.form
 obtain⟨g1,N,es⟩:=g
 simp only at*
 clear ha
 go_enter Tryz.func22,Tryz.ntmps22
 go_wp2_with fail
 obtain⟨W,hW⟩: ∃W,W=w.alloc (Obj.cells #[Value.int IntKind.i64 g1,Value.int IntKind.i64 N, .slice A es.length cap] 26):=⟨_,rfl⟩
 rw[←hW]
 obtain⟨xb,b0,s0⟩:=CBx.new hW
 clear hW
 refine(specIsFiniteIndex_any _ (g1,N,es) W (HG.out.below b0)).mono ?_
 rintro e w1 ⟨rfl,b1⟩
 have X1:=xb.below b1
 have B1:=hDD (b0.trans (b1.mono (by omega)))
 have u1:=X1.c1
 clear xb b0 b1 X1
 rcases e1:finB (g1,N,es) with _ | _
 ·rw[e1] at HI
  have HI2:Hid (n= -1):=hDD (by rw[HI.out];rfl)
  go_wp2
  exact bodyPost_ret (v:= .int .i64 (-1)) (by simp[results,Tryz.results22,go_sem]) rfl ⟨by rw[HI2.out],B1.out⟩
 ·rw[e1] at HI
  have HI2:Hid (n=N):=hDD (by rw[HI.out];rfl)
  go_wp2
  exact bodyPost_ret (v:= .int .i64 N) (by simp[results,Tryz.results22,go_sem]) rfl ⟨by rw[HI2.out],B1.out⟩
set_option maxHeartbeats 1000000 in
theorem implIndexOf_any (v:Value) (g:GrD) (w:World) (h:ArgG w v g):
  Calls Tryz.prog 21 #[v] w fun e w'=>e= .returned (.int .i64 (idxO g))∧Below w.heap.size w w':=by
 have HG:=hDD h
 have HI:Hid (idxO g=if finB g=true then g.2.1 else-1):=hDD rfl
 generalize idxO g=n at*
 obtain⟨s,rfl,hi1,hi2,ha⟩:=h
 obtain⟨A,cap,rfl⟩:=ha.form
 obtain⟨g1,N,es⟩:=g
 simp only at*
 clear ha
 go_enter Tryz.func21,Tryz.ntmps21
 go_wp2_with fail
 obtain⟨W,hW⟩: ∃W,W=w.alloc (Obj.cells #[Value.int IntKind.i64 g1,Value.int IntKind.i64 N, .slice A es.length cap] 26):=⟨_,rfl⟩
 rw[←hW]
 obtain⟨xb,b0,s0⟩:=CBx.new hW
 clear hW
 refine(implIsFiniteIndex_any _ (g1,N,es) W (HG.out.below b0)).mono ?_
 rintro e w1 ⟨rfl,b1⟩
 have X1:=xb.below b1
 have B1:=hDD (b0.trans (b1.mono (by omega)))
 have u1:=X1.c1
 clear xb b0 b1 X1
 rcases e1:finB (g1,N,es) with _ | _
 ·rw[e1] at HI
  have HI2:Hid (n= -1):=hDD (by rw[HI.out];rfl)
  go_wp2
  exact bodyPost_ret (v:= .int .i64 (-1)) (by simp[results,Tryz.results21,go_sem]) rfl ⟨by rw[HI2.out],B1.out⟩
 ·rw[e1] at HI
  have HI2:Hid (n=N):=hDD (by rw[HI.out];rfl)
  go_wp2
  exact bodyPost_ret (v:= .int .i64 N) (by simp[results,Tryz.results21,go_sem]) rfl ⟨by rw[HI2.out],B1.out⟩
theorem OwII.nilT (w:World) (lo:Nat) (q:Nat) (hq:q=w.heap.size) (hlo:lo≤w.heap.size):OwII lo (q+1) (.slice (some ⟨q,0,none⟩) 0 0) [] (w.alloc (.cells #[] 27)):=by
 subst hq;exact OwII_lit w hlo
theorem OwII.belowL {lo hi:Nat} {w w':World} {v:Value} {L:List (List Int)} (h:OwII lo hi v L w) (hh:hi≤w.heap.size) (hb:Below w.heap.size w w'):OwII lo w'.heap.size v L w':=
 (OwnL.keep h EI.stable fun b _ h2=>hb.block b (by omega)).widen (Nat.le_refl _) (Nat.le_trans hh hb.size)
set_option maxHeartbeats 4000000 in
theorem specTransversal_any (v:Value) (g:GrD) (w:World) (h:ArgG w v g):
  Calls Tryz.prog 27 #[v] w fun e w'=> ∃r,e= .returned r∧OwII w.heap.size w'.heap.size r (trvL g) w'∧Below w.heap.size w w':=by
 have HG:=hDD h
 have HTV:Hid (coreB g=true→trvL g=(List.range g.2.1.toNat).map fun (v:Nat)=>wdO g v):=hDD fun hc=>by unfold trvL;rw[if_pos hc]
 have HTN:Hid (coreB g=false→trvL g= []):=hDD fun hc=>by unfold trvL;rw[if_neg (by rw[hc];decide)]
 have HIS:=hDD (fun W v (h:ArgG W v g)=>specIsSubgroup_any v g W h)
 have HTW:Hid (coreB g=true→ ∀(k:Nat) W v,(k:Int)<g.2.1→ArgG W v g→Calls Tryz.prog 79 #[v, .int .i64 k] W fun e w'=> ∃r,e= .returned r∧OwI w' W.heap.size r (wdO g k)∧Below W.heap.size W w'):=hDD fun hc k W v hk h=>specTreeWord_any v g k W h (coreB_foldB hc) (core_all hc ⟨by omega,hk⟩)
 have HSZ:Hid (coreB g=true→1≤g.2.1∧g.2.1≤40):=hDD fun hc=>(grB_parts (coreB_grB hc)).2.1
 generalize trvL g=TV at*
 obtain⟨s,rfl,hi1,hi2,ha⟩:=h
 obtain⟨A,cap,rfl⟩:=ha.form
 obtain⟨g1,N,es⟩:=g
 simp only at*
 clear ha
 go_enter Tryz.func27,Tryz.ntmps27
 go_wp2_with fail
 obtain⟨W1,hW1⟩: ∃W,W=w.alloc (Obj.cells #[Value.int IntKind.i64 g1,Value.int IntKind.i64 N, .slice A es.length cap] 26):=⟨_,rfl⟩
 rw[←hW1]
 obtain⟨xb,b0,s0⟩:=CBx.new hW1
 clear hW1
 have O2:Hid (OwII (w.heap.size+1) (w.heap.size+2) (.slice (some ⟨w.heap.size+1,0,none⟩) 0 0) [] (W1.alloc (.cells #[] 27))):=hDD (OwII.nilT W1 _ _ s0.symm (by omega))
 have b2:Below W1.heap.size W1 (W1.alloc (.cells #[] 27)):=(Below.refl _ _).alloc (Nat.le_refl _) _
 have X2:=hDD (xb.below b2)
 have B2:=hDD (b0.trans (b2.mono (by omega)))
 have hs2:(W1.alloc (.cells #[] 27)).heap.size=w.heap.size+2:=by simp;omega
 clear xb b0 b2
 generalize W1.alloc (.cells #[] 27)=W2 at*
 clear s0
 rcases ec:coreB (g1,N,es) with _ | _
 ·rw[ec] at HIS
  have HE:Hid (TV= []):=hDD (HTN.out ec)
  have u0:=X2.out.c0
  have u1:=X2.out.c1
  have u2:=X2.out.c2
  have hN0:0<N∨ ¬0<N:=Classical.em _
  go_loopw [3,4] (fun ov iv wr=>iv= .int .i64 0∧ov= .slice (some ⟨w.heap.size+1,0,none⟩) 0 0∧wr=W2) (fun _ _ _=>0)
  case atStart=>exact⟨rfl,rfl,rfl⟩
  case round=>
   obtain⟨rfl,rfl,rfl⟩:=hrel
   rcases hN0 with hn | hn
   ·go_wp2_with fail
    refine(HIS.out wr _ (HG.out.below B2.out)).mono ?_
    rintro e w3 ⟨rfl,b3⟩
    have O3:=hDD (O2.out.belowL (by omega) b3)
    have B3:=hDD (B2.out.trans (b3.mono B2.out.size))
    have hs3:=b3.size
    clear b3
    go_wp2
    exact bodyPost_ret (v:= .slice (some ⟨w.heap.size+1,0,none⟩) 0 0) (by simp[results,Tryz.results27,go_sem]) rfl ⟨_,rfl,by rw[HE.out];exact O3.out.widen (by omega) (by omega),B3.out⟩
   ·go_wp2
    exact bodyPost_ret (v:= .slice (some ⟨w.heap.size+1,0,none⟩) 0 0) (by simp[results,Tryz.results27,go_sem]) rfl ⟨_,rfl,by rw[HE.out];exact O2.out.widen (by omega) (by omega),B2.out⟩
 ·rw[ec] at HIS
  have hsz:=HSZ.out ec
  obtain⟨N,rfl⟩: ∃M:Nat,N=M:=⟨N.toNat,by omega⟩
  have HT:Hid (TV=(List.range N).map fun (v:Nat)=>wdO (g1,(N:Int),es) v):=hDD (by have:=HTV.out ec;rwa [Int.toNat_natCast] at this)
  have HTK:Hid (∀k,k<N→TV.take (k+1)=TV.take k++ [wdO (g1,(N:Int),es) k]):=hDD fun k hk=>by
   rw[HT.out,List.take_succ_eq_append_getElem (by simpa using hk)]
   simp
  have HTL:Hid (TV.length=N):=hDD (by rw[HT.out];simp)
  have HWD:=hDD (fun (k:Nat) (hk:k<N)=>HTW.out ec k)
  clear ec HT HTV HTN
  go_loopw [3,4] (fun ov iv wr=> ∃k:Nat,k≤N∧iv= .int .i64 k∧OwII (w.heap.size+1) wr.heap.size ov (TV.take k) wr∧Below w.heap.size w wr∧CBx wr w.heap.size (.int .i64 g1) (.int .i64 (N:Int)) (.slice A es.length cap)) (fun _ iv _=>N-(intOf iv).toNat)
  case atStart=>exact⟨0,Nat.zero_le _,rfl,by simpa using O2.out.widen (Nat.le_refl _) (by omega),B2.out,X2.out⟩
  case round=>
   obtain⟨k,hk,rfl,hO,hB,hX⟩:=hrel
   have HO:=hDD hO
   have HB:=hDD hB
   have HX:=hDD hX
   have hxl:=hX.lt
   have hsr:=hB.size
   have htl:(TV.take k).length≤40:=by rw[List.length_take];omega
   have u0:=hX.c0
   have u1:=hX.c1
   have u2:=hX.c2
   clear hO hB hX
   by_cases hlt:k<N
   ·have hkI:(k:Int)<(N:Int):=by omega
    have HS:=hDD (HTK.out k hlt)
    have HTR:=hDD (HWD.out k hlt)
    generalize TV.take k=acc at*
    generalize wdO (g1,(N:Int),es) k=wk at*
    obtain⟨Ao,mo,co,rfl⟩:=OwII_any HO.out
    go_wp2_with fail
    refine(HIS.out wr _ (HG.out.below HB.out)).mono ?_
    rintro e w3 ⟨rfl,b3⟩
    have O3:=hDD (HO.out.belowL (Nat.le_refl _) b3)
    have X3:=hDD (HX.out.below b3)
    have B3:=hDD (HB.out.trans (b3.mono hsr))
    have hs3:=b3.size
    clear b3 HO HX HB u0 u1 u2
    have u0:=X3.out.c0
    have u1:=X3.out.c1
    have u2:=X3.out.c2
    go_wp2_with fail
    refine(HTR.out w3 _ hkI (HG.out.below B3.out)).mono ?_
    rintro e w4 ⟨r4,rfl,o4,b4⟩
    have O4:=hDD (O3.out.keep EI.stable fun b _ h2=>b4.block b (by omega))
    have V4:=hDD o4
    have X4:=hDD (X3.out.below b4)
    have B4:=hDD (B3.out.trans (b4.mono (by omega)))
    have hs4:=b4.size
    obtain⟨A4,m4,c4,rfl⟩:=o4.any2
    clear o4 b4 O3 X3 B3 u0 u1 u2
    go_wp2_with (at_builtin;refine push_rows rfl (.tmp 20) (.tmp 22) rfl (O4.out.keep (w':=w4.alloc (.cells #[.slice A4 m4 c4] 27)) EI.stable fun b _ hb=>Below.heap_alloc w4 _ b (by omega)) (by omega) (by simp;omega) rfl _ _ wk rfl (V4.out.alloc _) (Nat.le_refl _) (cell_new1 _ _ _) rfl (by omega) ?_;intro v6 w6 o6 g6;have O6:=hDD o6;have G6:=hDD g6;clear o6 g6)
    have X6:=(X4.out.below ((Below.refl _ _).alloc (Nat.le_refl _) (.cells #[.slice A4 m4 c4] 27))).grown G6.out (fun b hb=>by have:=(O4.out.lt hb).1;omega)
    have B6:=(B4.out.alloc (by omega) (.cells #[.slice A4 m4 c4] 27)).grown G6.out (by simp;omega) (fun b hb=>by have:=(O4.out.lt hb).1;omega)
    go_roundw
    case rel=>exact⟨k+1,by omega,by go_num,by rw[HS.out];exact O6.out,B6,X6⟩
    case measure=>(simp[intOf];omega)
   ·obtain rfl:N=k:=by omega
    rw[List.take_of_length_le (by rw[HTL.out];exact Nat.le_refl _)] at HO
    obtain⟨Ao,mo,co,rfl⟩:=OwII_any HO.out
    go_wp2
    exact bodyPost_ret (v:= .slice Ao mo co) (by simp[results,Tryz.results27,go_sem]) rfl ⟨_,rfl,HO.out.widen (by omega) (Nat.le_refl _),HB.out⟩
end Go.Proofs.YteobmaambgmdbaaGreat
namespace Go.Proofs.YteobmaambgmdbaaGreat
set_option maxRecDepth 20000
set_option linter.unusedVariables false
set_option linter.unusedSimpArgs false
open Go.RowKit
set_option maxHeartbeats 4000000 in
theorem implContains_any (v vw:Value) (g:GrD) (ws:List Int) (w:World) (h:ArgG w v g) (hw:RdI w vw ws) (hc:coreB g=true) (hl:ws.length≤536870912):
  Calls Tryz.prog 12 #[v,vw] w fun e w'=>e= .returned (.bool (decide (walkF g.2.2 0 (redL [] ws)=0)))∧Below w.heap.size w w':=by
 have HG:=hDD h
 have HW:=hDD hw
 have HIC:=hDD (fun W (h:ArgG W v g)=>implIsCore_any v g W h)
 rw[hc] at HIC
 have HLO:=hDD (fun W u (h:ArgG W v g) (h':RdI W u (redL [] ws))=>loops_any v u g (redL [] ws) W h h' (coreB_foldB hc))
 have HRE:=hDD (fun W (h:RdI W vw ws)=>implReduceLetters_any vw ws W h hl)
 generalize redL [] ws=x at*
 generalize decide (walkF g.2.2 0 x=0)=o at*
 obtain⟨s,rfl,hi1,hi2,ha⟩:=h
 obtain⟨A,cap,rfl⟩:=ha.form
 obtain⟨Aw,cw,rfl,_⟩:=hw.arg
 clear ha hc hw
 go_enter Tryz.func12,Tryz.ntmps12
 have bx:Below w.heap.size w (w.alloc (Obj.cells #[Value.int IntKind.i64 g.1,Value.int IntKind.i64 g.2.1, .slice A g.2.2.length cap] 26)):=(Below.refl _ _).alloc (Nat.le_refl _) _
 have XB:=hDD (CBx.new (w:=w) (W:=w.alloc (Obj.cells #[Value.int IntKind.i64 g.1,Value.int IntKind.i64 g.2.1, .slice A g.2.2.length cap] 26)) rfl).1
 have BX:=hDD bx
 clear bx
 go_wp2_with fail
 generalize w.alloc (Obj.cells #[Value.int IntKind.i64 g.1,Value.int IntKind.i64 g.2.1, .slice A g.2.2.length cap] 26)=W at*
 have u0:=XB.out.c0
 have u1:=XB.out.c1
 have u2:=XB.out.c2
 have BD:=hDD BX.out.drew
 have XD:=hDD (XB.out.below (Below.refl W.heap.size W).drew)
 go_region_held3 (fun w'=>w'.cell? ⟨w.heap.size,0,none⟩=some (.int .i64 g.1)∧w'.cell? ⟨w.heap.size,1,none⟩=some (.int .i64 g.2.1)∧w'.cell? ⟨w.heap.size,2,none⟩=some (.slice A g.2.2.length cap))
  (first | go_keep | exact⟨q0,q1,q2⟩)
  (first
   | (go_at_call 61;(with_reducible refine(HIC.out _ (HG.out.below BD.out)).mono ?_);rintro e w2 ⟨rfl,b2⟩;have B2:=hDD (BD.out.trans (b2.mono BD.out.size));have X2:=hDD (XD.out.below b2);have q0:=X2.out.c0;have q1:=X2.out.c1;have q2:=X2.out.c2;clear b2 XD BD)
   | (go_at_call 60;(with_reducible refine(HRE.out _ (HW.out.below B2.out)).mono ?_);rintro e w3 ⟨r3,rfl,o3,b3⟩;have B3:=hDD (B2.out.trans (b3.mono B2.out.size));have X3:=hDD (X2.out.below b3);have R3:=hDD o3.rd;have q0:=X3.out.c0;have q1:=X3.out.c1;have q2:=X3.out.c2;clear b3 o3 X2 B2)
   | (go_at_call 69;(with_reducible refine(HLO.out _ _ (HG.out.below B3.out) R3.out).mono ?_);rintro e w4 ⟨rfl,b4⟩;have B4:=hDD (B3.out.trans (b4.mono B3.out.size));have X4:=hDD (X3.out.below b4);have q0:=X4.out.c0;have q1:=X4.out.c1;have q2:=X4.out.c2;clear b4 X3 B3))
 go_wp2
 exact bodyPost_ret (v:= .bool o) (by simp[results,Tryz.results12,go_sem]) rfl ⟨rfl,B4.out⟩
end Go.Proofs.YteobmaambgmdbaaGreat
namespace Go.Proofs.YteobmaambgmdbaaGreat
set_option maxRecDepth 20000
set_option linter.unusedVariables false
set_option linter.unusedSimpArgs false
open Go.RowKit
theorem red_self2 {w:List Int} (h:redP w):redL [] w=w:=by
 have:=redL_id (acc:= []) (xs:=w) (by simpa using h)
 simpa using this
section
variable {g:GrD} (hg:grB g=true) (hf:Fol g.2.2)
include hg
omit hg in
theorem NoB.tailP {a:Int} {l:List Int} (h:NoB (a::l)):NoB l:=by
 cases l with
 | nil=>trivial
 | cons b l=>exact h.2
omit hg in
theorem NoB.drop {l:List Int} (h:NoB l): ∀n,NoB (l.drop n)
 | 0=>h
 | n+1=>by
   cases l with
   | nil=>trivial
   | cons a l=>exact NoB.drop h.tailP n
include hf
end
theorem fin_next {g:GrD} (hfi:finB g=true) {v x:Int} (hv:0≤v∧v<g.2.1) (hx:x∈lettersL g.1.toNat):0≤nextV g.2.2 v x:=by
 unfold finB at hfi
 simp only[Bool.and_eq_true,decide_eq_true_eq] at hfi
 have h0:misU g g.2.1.toNat= []:=List.eq_nil_of_length_eq_zero hfi.2
 have key: ∀n:Nat,misU g n= []→ ∀k:Nat,k<n→misV g (k:Int) (lettersL g.1.toNat)= []:=by
  intro n
  induction n with
  | zero=>intro _ k hk;omega
  | succ n ih=>
    intro h k hk
    unfold misU at h
    obtain⟨ha,hb⟩:=List.append_eq_nil_iff.1 h
    rcases Nat.lt_or_ge k n with q | q
    ·exact ih ha k q
    ·have:k=n:=by omega
     subst this;exact hb
 have:=key _ h0 v.toNat (by omega)
 rw[Int.toNat_of_nonneg hv.1] at this
 unfold misV at this
 rw[List.map_eq_nil_iff,List.filter_eq_nil_iff] at this
 have:=this x hx
 simp at this
 exact this
theorem fin_walk {g:GrD} (hg:grB g=true) (hfi:finB g=true): ∀ {w:List Int} {v:Int},(0≤v∧v<g.2.1)→(∀x∈w,x∈lettersL g.1.toNat)→0≤walkF g.2.2 v w∧walkF g.2.2 v w<g.2.1
 | [],v,hv,_=>hv
 | x::w,v,hv,hw=>by
   have h1:=fin_next hfi hv (hw x (by simp))
   have h2:=nextV_range hg v x
   rw[walkF_cons,if_neg (by omega)]
   exact fin_walk hg hfi (by omega) fun y hy=>hw y (by simp[hy])
end Go.Proofs.YteobmaambgmdbaaGreat
namespace Go.Proofs.YteobmaambgmdbaaGreat
set_option maxRecDepth 20000
set_option linter.unusedVariables false
set_option linter.unusedSimpArgs false
open Go.RowKit
set_option maxHeartbeats 4000000 in
theorem implContainsN_any (v vw:Value) (g:GrD) (ws:List Int) (w:World) (h:ArgG w v g) (hw:RdI w vw ws) (hc:coreB g=false):
  Calls Tryz.prog 12 #[v,vw] w fun e w'=>e= .returned (.bool false)∧Below w.heap.size w w':=by
 have HG:=hDD h
 have HIC:=hDD (fun W (h:ArgG W v g)=>implIsCore_any v g W h)
 rw[hc] at HIC
 obtain⟨s,rfl,hi1,hi2,ha⟩:=h
 obtain⟨A,cap,rfl⟩:=ha.form
 obtain⟨Aw,cw,rfl,_⟩:=hw.arg
 obtain⟨g1,N,es⟩:=g
 simp only at*
 clear ha hc hw
 go_enter Tryz.func12,Tryz.ntmps12
 go_wp2_with fail
 obtain⟨W,hW⟩: ∃W,W=w.alloc (Obj.cells #[Value.int IntKind.i64 g1,Value.int IntKind.i64 N, .slice A es.length cap] 26):=⟨_,rfl⟩
 rw[←hW]
 obtain⟨xb,b0,s0⟩:=CBx.new hW
 clear hW
 have XB:=hDD xb
 have B0:=hDD b0
 clear xb b0
 refine wp_region_genG [3,4,5,6] [.val (.agg #[.int .i64 g1, .int .i64 N, .slice A es.length cap]), .val (.bool false), .val (.bool false), .val undef, .val undef, .val undef, .val undef, .val (.bool false), .val (.bool false)]
  [none,some (fun W W'=>Below W.heap.size W W'),none,none,none,none,none,none,none] (fun W'=>Below W.heap.size W W') (fun _=>True) [] [] (by kernel_rfl) (by kernel_rfl) (by kernel_rfl) ⟨⟨rfl,rfl⟩,⟨rfl,rfl⟩,⟨rfl,rfl⟩,⟨rfl,rfl⟩,trivial⟩ (by rfl) (by rfl)
  (Below.refl _ _).drew trivial ⟨fun _ _ h t=>h.trans (t.mono h.size),trivial⟩ (itD_nil _ 0) trivial (fun vs=> ?_)
 refine⟨fun W' K' Q0 hI hD hK=> ?_,?_⟩
 ·have z0:=(XB.out.below hI.out.1).c0
  have z1:=(XB.out.below hI.out.1).c1
  have z2:=(XB.out.below hI.out.1).c2
  go_simp
  exact hK.out _ _ rfl rfl
 simp only[Act.put,List.setIfInBounds_toArray,List.set_cons_zero,List.set_cons_succ,Sg.pick,Nat.reduceAdd]
 refine⟨fun W' K' Q0 hI hD hK=> ?_,?_⟩
 ·skip
  go_simp
  refine(HIC.out _ (HG.out.below (B0.out.trans (hI.out.1.mono (by omega))))).mono ?_;rintro e w' ⟨rfl,b⟩;exact hK.out _ _ b rfl
 simp only[Act.put,List.setIfInBounds_toArray,List.set_cons_zero,List.set_cons_succ,Sg.pick,Nat.reduceAdd]
 refine⟨fun W' K' Q0 hI hD hK=> ?_,?_⟩
 ·skip
  go_simp
  exact hK.out _ _ rfl rfl
 simp only[Act.put,List.setIfInBounds_toArray,List.set_cons_zero,List.set_cons_succ,Sg.pick,Nat.reduceAdd]
 refine⟨trivial,?_⟩
 simp only[Act.put,List.setIfInBounds_toArray,List.set_cons_zero,List.set_cons_succ,Sg.pick,Nat.reduceAdd]
 refine⟨trivial,?_⟩
 simp only[Act.put,List.setIfInBounds_toArray,List.set_cons_zero,List.set_cons_succ,Sg.pick,Nat.reduceAdd]
 refine⟨trivial,?_⟩
 simp only[Act.put,List.setIfInBounds_toArray,List.set_cons_zero,List.set_cons_succ,Sg.pick,Nat.reduceAdd]
 refine⟨trivial,?_⟩
 simp only[Act.put,List.setIfInBounds_toArray,List.set_cons_zero,List.set_cons_succ,Sg.pick,Nat.reduceAdd]
 refine⟨fun W' K' Q0 hI hD hK=> ?_,?_⟩
 ·skip
  go_simp
  exact hK.out _ _ rfl rfl
 simp only[Act.put,List.setIfInBounds_toArray,List.set_cons_zero,List.set_cons_succ,Sg.pick,Nat.reduceAdd]
 refine⟨fun W' K' Q0 hI hD hK=> ?_,?_⟩
 ·skip
  go_simp
  exact hK.out _ _ rfl rfl
 simp only[Act.put,List.setIfInBounds_toArray,List.set_cons_zero,List.set_cons_succ,Sg.pick,Nat.reduceAdd]
 intro W9 hI9 hD9
 have I9:=hDD hI9.out.1
 clear hI9 hD9
 go_wp2
 exact bodyPost_ret (v:= .bool false) (by simp[results,Tryz.results12,go_sem]) rfl ⟨rfl,B0.out.trans (I9.out.mono (by omega))⟩
set_option maxHeartbeats 4000000 in
theorem specContains_any (v vw:Value) (g:GrD) (ws:List Int) (w:World) (h:ArgG w v g) (hw:RdI w vw ws) (hc:coreB g=true) (hl:ws.length≤536870912):
  Calls Tryz.prog 92 #[v,vw] w fun e w'=>e= .returned (.bool (decide (walkF g.2.2 0 (redL [] ws)=0)))∧Below w.heap.size w w':=by
 have HG:=hDD h
 have HW:=hDD hw
 have hsz:=(grB_parts (coreB_grB hc)).2.1
 have HIC:=hDD (fun W (h:ArgG W v g)=>specIsSubgroup_any v g W h)
 rw[hc] at HIC
 have HRE:=hDD (fun W (h:RdI W vw ws)=>specReduceLetters_any vw ws W h (by omega))
 have HWK:=hDD (fun W u (h:ArgG W v g) (h':RdI W u (redL [] ws))=>walkWord_any v u g 0 (redL [] ws) W h h' (coreB_foldB hc) (by omega))
 obtain⟨s,rfl,hi1,hi2,ha⟩:=h
 obtain⟨A,cap,rfl⟩:=ha.form
 obtain⟨Aw,cw,rfl,_⟩:=hw.arg
 obtain⟨g1,N,es⟩:=g
 simp only at*
 generalize redL [] ws=x at*
 generalize walkF es 0 x=k at*
 clear ha hc hw hsz
 go_enter Tryz.func92,Tryz.ntmps92
 go_wp2_with fail
 obtain⟨W,hW⟩: ∃W,W=w.alloc (Obj.cells #[Value.int IntKind.i64 g1,Value.int IntKind.i64 N, .slice A es.length cap] 26):=⟨_,rfl⟩
 rw[←hW]
 obtain⟨xb,b0,s0⟩:=CBx.new hW
 clear hW
 have XB:=hDD xb
 have B0:=hDD b0
 clear xb b0
 refine wp_region_gen [.val (.agg #[.int .i64 g1, .int .i64 N, .slice A es.length cap]), .val (.slice Aw ws.length cw), .mem (fun _ W v=> ∃A c,v= .slice A x.length c∧RdI W v x), .val (.tuple #[.int .i64 k, .bool (decide (0≤k))]), .val (.tuple #[.int .i64 k, .bool (decide (0≤k))]), .val (.int .i64 k), .val (.bool (decide (0≤k))), .val (.int .i64 k), .val (.bool (decide (0≤k)))]
  [none,none,some (fun W W'=>Below W.heap.size W W'),some (fun W W'=>Below W.heap.size W W'),none,none,none,none,none] (fun W'=>Below W.heap.size W W') [(2,3)] (by kernel_rfl) (by kernel_rfl) (by rfl) (by rfl)
  (Below.refl _ _).drew ⟨fun _ _ h t=>h.trans (t.mono h.size),fun _ _ h t=>h.trans (t.mono h.size),trivial⟩
  ⟨fun _ _ _ _ _ _ t h=>by obtain⟨A,c,e,h⟩:=h;exact⟨A,c,e,h.below t⟩,trivial⟩ (fun vs=> ?_)
 refine⟨fun W' K' Q0 hI hD hK=> ?_,?_⟩
 ·have z0:=(XB.out.below hI.out).c0
  have z1:=(XB.out.below hI.out).c1
  have z2:=(XB.out.below hI.out).c2
  go_simp
  exact hK.out _ _ rfl rfl
 simp only[Act.put,List.setIfInBounds_toArray,List.set_cons_zero,List.set_cons_succ,Sg.pick,Nat.reduceAdd]
 refine⟨fun W' K' Q0 hI hD hK=> ?_,?_⟩
 ·skip
  go_simp
  exact hK.out _ _ rfl rfl
 simp only[Act.put,List.setIfInBounds_toArray,List.set_cons_zero,List.set_cons_succ,Sg.pick,Nat.reduceAdd]
 refine⟨fun W' K' Q0 hI hD hK=> ?_,?_⟩
 ·skip
  go_simp
  refine(HRE.out _ (HW.out.below (B0.out.trans (hI.out.mono (by omega))))).mono ?_;rintro e w' ⟨r,rfl,o,b⟩;obtain⟨A',c',rfl,_⟩:=o.form;exact hK.out _ _ b ⟨A',c',rfl,o.rd⟩
 simp only[Act.put,List.setIfInBounds_toArray,List.set_cons_zero,List.set_cons_succ,Sg.pick,Nat.reduceAdd]
 refine⟨fun W' K' Q0 hI hD hK=> ?_,?_⟩
 ·obtain⟨A',c',e2,r2⟩:=(show ∃A c,vs 2= .slice A x.length c∧RdI W' (vs 2) x from hD.out 2 (by kernel_rfl))
  rw[e2] at hK r2⊢
  go_simp
  refine(HWK.out _ _ (HG.out.below (B0.out.trans (hI.out.mono (by omega)))) r2).mono ?_;rintro e w' ⟨rfl,b⟩;exact hK.out _ _ b rfl
 simp only[Act.put,List.setIfInBounds_toArray,List.set_cons_zero,List.set_cons_succ,Sg.pick,Nat.reduceAdd]
 refine⟨fun W' K' Q0 hI hD hK=> ?_,?_⟩
 ·skip
  go_simp
  exact hK.out _ _ rfl rfl
 simp only[Act.put,List.setIfInBounds_toArray,List.set_cons_zero,List.set_cons_succ,Sg.pick,Nat.reduceAdd]
 refine⟨fun W' K' Q0 hI hD hK=> ?_,?_⟩
 ·skip
  go_simp
  exact hK.out _ _ rfl rfl
 simp only[Act.put,List.setIfInBounds_toArray,List.set_cons_zero,List.set_cons_succ,Sg.pick,Nat.reduceAdd]
 refine⟨fun W' K' Q0 hI hD hK=> ?_,?_⟩
 ·skip
  go_simp
  exact hK.out _ _ rfl rfl
 simp only[Act.put,List.setIfInBounds_toArray,List.set_cons_zero,List.set_cons_succ,Sg.pick,Nat.reduceAdd]
 refine⟨fun W' K' Q0 hI hD hK=> ?_,?_⟩
 ·skip
  go_simp
  exact hK.out _ _ rfl rfl
 simp only[Act.put,List.setIfInBounds_toArray,List.set_cons_zero,List.set_cons_succ,Sg.pick,Nat.reduceAdd]
 refine⟨fun W' K' Q0 hI hD hK=> ?_,?_⟩
 ·skip
  go_simp
  exact hK.out _ _ rfl rfl
 simp only[Act.put,List.setIfInBounds_toArray,List.set_cons_zero,List.set_cons_succ,Sg.pick,Nat.reduceAdd]
 intro W9 hI9 hD9
 have I9:=hDD hI9.out
 have X9:=hDD (XB.out.below hI9.out)
 have B9:=hDD (B0.out.trans (hI9.out.mono (by omega)))
 clear hI9 hD9 XB
 have u0:=X9.out.c0
 have u1:=X9.out.c1
 have u2:=X9.out.c2
 by_cases hk:0≤k
 ·have hk':decide (0≤k)=true:=decide_eq_true hk
  go_wp2_with fail
  refine(HIC.out _ (HG.out.below B9.out)).mono ?_
  rintro e w3 ⟨rfl,b3⟩
  have B3:=hDD (B9.out.trans (b3.mono B9.out.size))
  clear b3
  by_cases hk0:k=0
  ·subst hk0
   go_wp2
   exact bodyPost_ret (v:= .bool true) (by simp[results,Tryz.results92,go_sem]) rfl ⟨rfl,B3.out⟩
  ·go_wp2
   exact bodyPost_ret (v:= .bool false) (by simp[results,Tryz.results92,go_sem,hk0]) rfl ⟨by rw[decide_eq_false hk0],B3.out⟩
 ·have hk':decide (0≤k)=false:=decide_eq_false hk
  have hk0: ¬k=0:=by omega
  go_wp2_with fail
  refine(HIC.out _ (HG.out.below B9.out)).mono ?_
  rintro e w3 ⟨rfl,b3⟩
  have B3:=hDD (B9.out.trans (b3.mono B9.out.size))
  clear b3
  go_wp2
  exact bodyPost_ret (v:= .bool false) (by simp[results,Tryz.results92,go_sem]) rfl ⟨by rw[decide_eq_false hk0],B3.out⟩
def samB (g:GrD) (a b:List Int):Bool:=coreB g&&decide (walkF g.2.2 0 (redL [] (redL [] (a++invL b)))=0)
set_option maxHeartbeats 4000000 in
theorem specSameCoset_any (v va vb:Value) (g:GrD) (a b:List Int) (w:World) (h:ArgG w v g) (h1:RdI w va a) (h2:RdI w vb b) (hla:a.length≤10000) (hlb:b.length≤10000):
  Calls Tryz.prog 39 #[v,va,vb] w fun e w'=>e= .returned (.bool (samB g a b))∧Below w.heap.size w w':=by
 have HG:=hDD h
 have HA:=hDD h1
 have HB:=hDD h2
 have HIC:=hDD (fun W (h:ArgG W v g)=>specIsSubgroup_any v g W h)
 have HS:Hid (samB g a b=(coreB g&&decide (walkF g.2.2 0 (redL [] (redL [] (a++invL b)))=0))):=hDD rfl
 have HIN:=hDD (fun W (h:RdI W vb b)=>specInvertWord_any vb b W h (by omega))
 have hil:(invL b).length=b.length:=by simp[invL,negL]
 have HMU:=hDD (fun W u (h:RdI W va a) (h':RdI W u (invL b))=>specMultiplyWords_any va u a (invL b) W h h' (by omega) (by omega))
 have hrl:(redL [] (a++invL b)).length≤20000:=by have:=redL_len [] (a++invL b);simp only[List.length_append,List.length_nil] at this;omega
 have HCT:=hDD (fun (hc:coreB g=true) W u (h:ArgG W v g) (h':RdI W u (redL [] (a++invL b)))=>specContains_any v u g (redL [] (a++invL b)) W h h' hc (by omega))
 generalize samB g a b=sm at*
 obtain⟨s,rfl,hi1,hi2,ha⟩:=h
 obtain⟨A,cap,rfl⟩:=ha.form
 obtain⟨Aa,ca,rfl,_⟩:=h1.arg
 obtain⟨Ab,cb,rfl,_⟩:=h2.arg
 obtain⟨g1,N,es⟩:=g
 simp only at*
 generalize redL [] (a++invL b)=x at*
 generalize invL b=ib at*
 generalize decide (walkF es 0 (redL [] x)=0)=o at*
 clear ha h1 h2 hil
 go_enter Tryz.func39,Tryz.ntmps39
 go_wp2_with fail
 obtain⟨W,hW⟩: ∃W,W=w.alloc (Obj.cells #[Value.int IntKind.i64 g1,Value.int IntKind.i64 N, .slice A es.length cap] 26):=⟨_,rfl⟩
 rw[←hW]
 obtain⟨xb,b0,s0⟩:=CBx.new hW
 clear hW
 have XB:=hDD xb
 have B0:=hDD b0
 clear xb b0
 rcases ec:coreB (g1,N,es) with _ | _
 ·have HE:Hid (sm=false):=hDD (by rw[HS.out,ec];rfl)
  rw[ec] at HIC
  refine wp_region_genG [3,4,5,6,7,8] [.val (.agg #[.int .i64 g1, .int .i64 N, .slice A es.length cap]), .val (.bool false), .val (.bool false), .val undef, .val undef, .val undef, .val undef, .val undef, .val undef, .val (.bool false), .val (.bool false)]
   [none,some (fun W W'=>Below W.heap.size W W'),none,none,none,none,none,none,none,none,none] (fun W'=>Below W.heap.size W W') (fun _=>True) [] [] (by kernel_rfl) (by kernel_rfl) (by kernel_rfl) ⟨⟨rfl,rfl⟩,⟨rfl,rfl⟩,⟨rfl,rfl⟩,⟨rfl,rfl⟩,⟨rfl,rfl⟩,⟨rfl,rfl⟩,trivial⟩ (by rfl) (by rfl)
   (Below.refl _ _).drew trivial ⟨fun _ _ h t=>h.trans (t.mono h.size),trivial⟩ (itD_nil _ 0) trivial (fun vs=> ?_)
  refine⟨fun W' K' Q0 hI hD hK=> ?_,?_⟩
  ·have z0:=(XB.out.below hI.out.1).c0
   have z1:=(XB.out.below hI.out.1).c1
   have z2:=(XB.out.below hI.out.1).c2
   go_simp
   exact hK.out _ _ rfl rfl
  simp only[Act.put,List.setIfInBounds_toArray,List.set_cons_zero,List.set_cons_succ,Sg.pick,Nat.reduceAdd]
  refine⟨fun W' K' Q0 hI hD hK=> ?_,?_⟩
  ·skip
   go_simp
   refine(HIC.out _ (HG.out.below (B0.out.trans (hI.out.1.mono (by omega))))).mono ?_;rintro e w' ⟨rfl,b⟩;exact hK.out _ _ b rfl
  simp only[Act.put,List.setIfInBounds_toArray,List.set_cons_zero,List.set_cons_succ,Sg.pick,Nat.reduceAdd]
  refine⟨fun W' K' Q0 hI hD hK=> ?_,?_⟩
  ·skip
   go_simp
   exact hK.out _ _ rfl rfl
  simp only[Act.put,List.setIfInBounds_toArray,List.set_cons_zero,List.set_cons_succ,Sg.pick,Nat.reduceAdd]
  refine⟨trivial,?_⟩
  simp only[Act.put,List.setIfInBounds_toArray,List.set_cons_zero,List.set_cons_succ,Sg.pick,Nat.reduceAdd]
  refine⟨trivial,?_⟩
  simp only[Act.put,List.setIfInBounds_toArray,List.set_cons_zero,List.set_cons_succ,Sg.pick,Nat.reduceAdd]
  refine⟨trivial,?_⟩
  simp only[Act.put,List.setIfInBounds_toArray,List.set_cons_zero,List.set_cons_succ,Sg.pick,Nat.reduceAdd]
  refine⟨trivial,?_⟩
  simp only[Act.put,List.setIfInBounds_toArray,List.set_cons_zero,List.set_cons_succ,Sg.pick,Nat.reduceAdd]
  refine⟨trivial,?_⟩
  simp only[Act.put,List.setIfInBounds_toArray,List.set_cons_zero,List.set_cons_succ,Sg.pick,Nat.reduceAdd]
  refine⟨trivial,?_⟩
  simp only[Act.put,List.setIfInBounds_toArray,List.set_cons_zero,List.set_cons_succ,Sg.pick,Nat.reduceAdd]
  refine⟨fun W' K' Q0 hI hD hK=> ?_,?_⟩
  ·skip
   go_simp
   exact hK.out _ _ rfl rfl
  simp only[Act.put,List.setIfInBounds_toArray,List.set_cons_zero,List.set_cons_succ,Sg.pick,Nat.reduceAdd]
  refine⟨fun W' K' Q0 hI hD hK=> ?_,?_⟩
  ·skip
   go_simp
   exact hK.out _ _ rfl rfl
  simp only[Act.put,List.setIfInBounds_toArray,List.set_cons_zero,List.set_cons_succ,Sg.pick,Nat.reduceAdd]
  intro W9 hI9 hD9
  have I9:=hDD hI9.out.1
  clear hI9 hD9
  go_wp2
  rw[HE.out]
  exact bodyPost_ret (v:= .bool false) (by simp[results,Tryz.results39,go_sem]) rfl ⟨rfl,B0.out.trans (I9.out.mono (by omega))⟩
 ·have HE:Hid (sm=o):=hDD (by rw[HS.out,ec];exact Bool.true_and _)
  rw[ec] at HIC
  have HCX:=hDD (HCT.out ec)
  clear ec HCT HS
  refine wp_region_genG [] [.val (.agg #[.int .i64 g1, .int .i64 N, .slice A es.length cap]), .val (.bool true), .val (.bool true), .val (.agg #[.int .i64 g1, .int .i64 N, .slice A es.length cap]), .val (.slice Aa a.length ca), .val (.slice Ab b.length cb), .mem (fun _ W v=> ∃A c,v= .slice A ib.length c∧RdI W v ib), .mem (fun _ W v=> ∃A c,v= .slice A x.length c∧RdI W v x), .val (.bool o), .val (.bool o), .val (.bool o)]
   [none,some (fun W W'=>Below W.heap.size W W'),none,none,none,none,some (fun W W'=>Below W.heap.size W W'),some (fun W W'=>Below W.heap.size W W'),some (fun W W'=>Below W.heap.size W W'),none,none] (fun W'=>Below W.heap.size W W') (fun _=>True) [] [(6,7),(6,8),(7,8)] (by kernel_rfl) (by kernel_rfl) (by kernel_rfl) trivial (by rfl) (by rfl)
   (Below.refl _ _).drew trivial ⟨fun _ _ h t=>h.trans (t.mono h.size),fun _ _ h t=>h.trans (t.mono h.size),fun _ _ h t=>h.trans (t.mono h.size),fun _ _ h t=>h.trans (t.mono h.size),trivial⟩ (itD_nil _ 0)
   ⟨fun _ _ _ _ _ _ t h=>by obtain⟨A,c,e,h⟩:=h;exact⟨A,c,e,h.below t⟩,fun _ _ _ _ _ _ t h=>by obtain⟨A,c,e,h⟩:=h;exact⟨A,c,e,h.below t⟩,fun _ _ _ _ _ _ t h=>by obtain⟨A,c,e,h⟩:=h;exact⟨A,c,e,h.below t⟩,trivial⟩ (fun vs=> ?_)
  refine⟨fun W' K' Q0 hI hD hK=> ?_,?_⟩
  ·have z0:=(XB.out.below hI.out.1).c0
   have z1:=(XB.out.below hI.out.1).c1
   have z2:=(XB.out.below hI.out.1).c2
   go_simp
   exact hK.out _ _ rfl rfl
  simp only[Act.put,List.setIfInBounds_toArray,List.set_cons_zero,List.set_cons_succ,Sg.pick,Nat.reduceAdd]
  refine⟨fun W' K' Q0 hI hD hK=> ?_,?_⟩
  ·skip
   go_simp
   refine(HIC.out _ (HG.out.below (B0.out.trans (hI.out.1.mono (by omega))))).mono ?_;rintro e w' ⟨rfl,b⟩;exact hK.out _ _ b rfl
  simp only[Act.put,List.setIfInBounds_toArray,List.set_cons_zero,List.set_cons_succ,Sg.pick,Nat.reduceAdd]
  refine⟨fun W' K' Q0 hI hD hK=> ?_,?_⟩
  ·skip
   go_simp
   exact hK.out _ _ rfl rfl
  simp only[Act.put,List.setIfInBounds_toArray,List.set_cons_zero,List.set_cons_succ,Sg.pick,Nat.reduceAdd]
  refine⟨fun W' K' Q0 hI hD hK=> ?_,?_⟩
  ·have z0:=(XB.out.below hI.out.1).c0
   have z1:=(XB.out.below hI.out.1).c1
   have z2:=(XB.out.below hI.out.1).c2
   go_simp
   exact hK.out _ _ rfl rfl
  simp only[Act.put,List.setIfInBounds_toArray,List.set_cons_zero,List.set_cons_succ,Sg.pick,Nat.reduceAdd]
  refine⟨fun W' K' Q0 hI hD hK=> ?_,?_⟩
  ·skip
   go_simp
   exact hK.out _ _ rfl rfl
  simp only[Act.put,List.setIfInBounds_toArray,List.set_cons_zero,List.set_cons_succ,Sg.pick,Nat.reduceAdd]
  refine⟨fun W' K' Q0 hI hD hK=> ?_,?_⟩
  ·skip
   go_simp
   exact hK.out _ _ rfl rfl
  simp only[Act.put,List.setIfInBounds_toArray,List.set_cons_zero,List.set_cons_succ,Sg.pick,Nat.reduceAdd]
  refine⟨fun W' K' Q0 hI hD hK=> ?_,?_⟩
  ·skip
   go_simp
   refine(HIN.out _ (HB.out.below (B0.out.trans (hI.out.1.mono (by omega))))).mono ?_;rintro e w' ⟨r,rfl,or,br⟩;obtain⟨A',c',rfl,_⟩:=or.form;exact hK.out _ _ br ⟨A',c',rfl,or.rd⟩
  simp only[Act.put,List.setIfInBounds_toArray,List.set_cons_zero,List.set_cons_succ,Sg.pick,Nat.reduceAdd]
  refine⟨fun W' K' Q0 hI hD hK=> ?_,?_⟩
  ·obtain⟨A',c',e2,r2⟩:=(show ∃A c,vs 6= .slice A ib.length c∧RdI W' (vs 6) ib from hD.out 6 (by kernel_rfl))
   rw[e2] at hK r2⊢
   go_simp
   refine(HMU.out _ _ (HA.out.below (B0.out.trans (hI.out.1.mono (by omega)))) r2).mono ?_;rintro e w' ⟨r,rfl,or,br⟩;obtain⟨A'',c'',rfl,_⟩:=or.form;exact hK.out _ _ br ⟨A'',c'',rfl,or.rd⟩
  simp only[Act.put,List.setIfInBounds_toArray,List.set_cons_zero,List.set_cons_succ,Sg.pick,Nat.reduceAdd]
  refine⟨fun W' K' Q0 hI hD hK=> ?_,?_⟩
  ·obtain⟨A',c',e2,r2⟩:=(show ∃A c,vs 7= .slice A x.length c∧RdI W' (vs 7) x from hD.out 7 (by kernel_rfl))
   rw[e2] at hK r2⊢
   go_simp
   refine(HCX.out _ _ (HG.out.below (B0.out.trans (hI.out.1.mono (by omega)))) r2).mono ?_;rintro e w' ⟨rfl,br⟩;exact hK.out _ _ br rfl
  simp only[Act.put,List.setIfInBounds_toArray,List.set_cons_zero,List.set_cons_succ,Sg.pick,Nat.reduceAdd]
  refine⟨fun W' K' Q0 hI hD hK=> ?_,?_⟩
  ·skip
   go_simp
   exact hK.out _ _ rfl rfl
  simp only[Act.put,List.setIfInBounds_toArray,List.set_cons_zero,List.set_cons_succ,Sg.pick,Nat.reduceAdd]
  refine⟨fun W' K' Q0 hI hD hK=> ?_,?_⟩
  ·skip
   go_simp
   exact hK.out _ _ rfl rfl
  simp only[Act.put,List.setIfInBounds_toArray,List.set_cons_zero,List.set_cons_succ,Sg.pick,Nat.reduceAdd]
  intro W9 hI9 hD9
  have I9:=hDD hI9.out.1
  clear hI9 hD9
  go_wp2
  rw[HE.out]
  exact bodyPost_ret (v:= .bool o) (by simp[results,Tryz.results39,go_sem]) rfl ⟨rfl,B0.out.trans (I9.out.mono (by omega))⟩
end Go.Proofs.YteobmaambgmdbaaGreat
namespace Go.Proofs.YteobmaambgmdbaaGreat
set_option maxRecDepth 20000
set_option linter.unusedVariables false
set_option linter.unusedSimpArgs false
open Go.RowKit
theorem append_hdrsT {w:World} {ops:Array Oper} {rest:List Oper} {o:Oper} {a:Act} {Q:Exit→Act→World→Prop} (hgd:o.guard=none) (s x:Operand)
  (ho:o.op= .call {callee:= .builtin .append,args:= #[s,x],argTypes:= #[38,38]})
  (base:Nat) (v:Value) (n:Nat) (vs:List Value) (hown:w.ownsRow base 27 1 v n vs) (hs:a.eval s=v) (b m cap:Nat) (ds:List Value) (hm:ds.length=m) (hx:a.eval x= .slice (some ⟨b,0,none⟩) m cap)
  (hc: ∀j y,ds[j]? =some y→w.cell? ⟨b,j,none⟩=some y) (h1: ∀u∈ds,u.oneCell'=true) (hl:n+m≤1099511627776) (hbase:base≤w.heap.size)
  (h: ∀v' w',w'.ownsRow base 27 1 v' (n+m) (vs++ds)→w.grownBy w' v.ownBlock→(v'.ownBlock=v.ownBlock∨v'.ownBlock=some w.heap.size)→wpList Tryz.prog ops Q rest (a.put o.dst v') w'):
  wpList Tryz.prog ops Q (o::rest) a w:=by
 obtain⟨i0,hi0,hz0,hz1,hz2⟩:=info_parts ints_info
 refine wpList_append_own_at _ hgd s x 38 ho base 27 i0 (.slice none 0 0) 1 24 Tryz.underlying38 hi0 hz0 hz1 hz2 rfl (by decide) v n vs hs hown ⟨b,0,none⟩ m cap ds hx (by rw[hm,Nat.mul_one]) ?_ h1 (by unfold maxLen;omega) (by omega) hbase ?_
 ·intro j u hj
  rw[Addr.add_lit,Nat.zero_add]
  exact hc j u hj
 ·intro v' w' h1 h2 h3 h5
  exact h v' w' h1 h2 h5
set_option maxHeartbeats 4000000 in
theorem implTransversal_any (v:Value) (g:GrD) (w:World) (h:ArgG w v g):
  Calls Tryz.prog 26 #[v] w fun e w'=> ∃r,e= .returned r∧RdII w' r (trvL g)∧Below w.heap.size w w':=by
 have HG:=hDD h
 have HIC:=hDD (fun W v (h:ArgG W v g)=>implIsCore_any v g W h)
 have HTV:Hid (coreB g=true→trvL g=(List.range g.2.1.toNat).map fun (v:Nat)=>wdO g v):=hDD fun hc=>by unfold trvL;rw[if_pos hc]
 have HTN:Hid (coreB g=false→trvL g= []):=hDD fun hc=>by unfold trvL;rw[if_neg (by rw[hc];decide)]
 have HTR:=hDD (fun (hc:coreB g=true) W v (h:ArgG W v g)=>treeX_any v g W h (coreB_foldB hc))
 have HALL:Hid (coreB g=true→ ∀j:Nat,j<g.2.1.toNat→(j:Int)∈canO g):=hDD fun hc j hj=>core_all hc ⟨by omega,by omega⟩
 have HSZ:Hid (coreB g=true→1≤g.2.1∧g.2.1≤40):=hDD fun hc=>(grB_parts (coreB_grB hc)).2.1
 generalize trvL g=TV at*
 obtain⟨s,rfl,hi1,hi2,ha⟩:=h
 obtain⟨A,cap,rfl⟩:=ha.form
 obtain⟨g1,N,es⟩:=g
 simp only at*
 clear ha
 go_enter Tryz.func26,Tryz.ntmps26
 go_wp2_with fail
 obtain⟨W1,hW1⟩: ∃W,W=w.alloc (Obj.cells #[Value.int IntKind.i64 g1,Value.int IntKind.i64 N, .slice A es.length cap] 26):=⟨_,rfl⟩
 rw[←hW1]
 obtain⟨xb,b0,s0⟩:=CBx.new hW1
 clear hW1
 have O2:Hid ((W1.alloc (.cells #[] 27)).ownsRow (w.heap.size+1) 27 1 (.slice (some ⟨w.heap.size+1,0,none⟩) 0 0) 0 []):=hDD (by
  have:=rows_lit W1 [] (by simp) (base:=w.heap.size+1) (by omega)
  rw[s0] at this
  simpa using this)
 have b2:Below W1.heap.size W1 (W1.alloc (.cells #[] 27)):=(Below.refl _ _).alloc (Nat.le_refl _) _
 have X2:=hDD (xb.below b2)
 have B2:=hDD (b0.trans (b2.mono (by omega)))
 have hs2:(W1.alloc (.cells #[] 27)).heap.size=w.heap.size+2:=by simp;omega
 clear xb b0 b2
 generalize W1.alloc (.cells #[] 27)=W2 at*
 clear s0
 refine(HIC.out W2 _ (HG.out.below B2.out)).mono ?_
 rintro e w3 ⟨rfl,b3⟩
 have O3:=hDD (ownsRow_below O2.out b3)
 have X3:=hDD (X2.out.below b3)
 have B3:=hDD (B2.out.trans (b3.mono (by omega)))
 have hs3:=b3.size
 clear b3 O2 X2 B2 HIC
 rcases ec:coreB (g1,N,es) with _ | _
 ·have HE:Hid (TV= []):=hDD (HTN.out ec)
  go_wp2
  exact bodyPost_ret (v:= .slice (some ⟨w.heap.size+1,0,none⟩) 0 0) (by simp[results,Tryz.results26,go_sem]) rfl ⟨_,rfl,by rw[HE.out];exact⟨[],rfl,RdV.of_own O3.out,fun i h=>by cases h⟩,B3.out⟩
 ·have hsz:=HSZ.out ec
  obtain⟨N,rfl⟩: ∃M:Nat,N=M:=⟨N.toNat,by omega⟩
  have HT:Hid (TV=(List.range N).map fun (v:Nat)=>wdO (g1,(N:Int),es) v):=hDD (by have:=HTV.out ec;rwa [Int.toNat_natCast] at this)
  have HAL:=hDD (HALL.out ec)
  rw[Int.toNat_natCast] at HAL
  have HTX:=hDD (HTR.out ec)
  simp only[Int.toNat_natCast] at HTX
  have u0:=X3.out.c0
  have u1:=X3.out.c1
  have u2:=X3.out.c2
  clear ec HTV HTN HALL HTR HSZ
  go_wp2_with fail
  refine(HTX.out w3 _ (HG.out.below B3.out)).mono ?_
  rintro e w4 ⟨r4,P,rfl,hP,htx,o4,b4⟩
  have O4:=hDD (ownsRow_below O3.out b4)
  have B4:=hDD (B3.out.trans (b4.mono (by omega)))
  have hs4:=b4.size
  obtain⟨vs,hvl,hvo,hvr⟩:=htx.ex
  have HVO:=hDD hvo
  have HVR:Hid (∀(j:Nat) (hj:j<vs.length),∃(b cap:Nat),vs[j]= .slice (some ⟨b,0,none⟩) (wdO (g1,(N:Int),es) j).length cap∧OwI w4 P vs[j] (wdO (g1,(N:Int),es) j)∧P<b):=hDD fun j hj=>by
   rcases hvr j hj with ⟨h1,_⟩ | ⟨_,b,c,e1,_,e2,e3,_⟩
   ·exact absurd (HAL.out j (by omega)) h1
   ·exact⟨b,c,e1,e2,e3⟩
  have HCL:Hid (∀j y,vs[j]? =some y→w4.cell? ⟨P,j,none⟩=some y):=hDD fun j y hy=>by
   have hj:=(List.getElem?_eq_some_iff.1 hy).1
   rw[World.ownsRow.cellAt hvo j (by omega)]
   exact hy
  have H1C:Hid (∀u∈vs,u.oneCell'=true):=hDD fun u hu=>by
   obtain⟨j,hj,rfl⟩:=List.getElem_of_mem hu
   obtain⟨b,c,e,_⟩:=HVR.out j hj
   rw[e];rfl
  obtain⟨Ar,mr,cr,rfl⟩:=o4.any2
  clear b4 htx o4 hvo hvr O3 X3 B3 HTX u0 u1 u2
  go_wp2_with (at_builtin;refine append_hdrsT rfl (.tmp 16) (.tmp 17) rfl (w.heap.size+1) _ 0 [] O4.out rfl P N N vs hvl rfl HCL.out H1C.out (by omega) (by omega) ?_;intro v6 w6 o6 g6 p6;rw[List.nil_append] at o6;have O6:=hDD o6;have G6:=hDD g6;clear o6 g6 p6)
  have hrd:RdII w6 v6 TV:=by
   refine⟨vs,by rw[HT.out,hvl];simp,?_,fun i h h'=> ?_⟩
   ·have:=RdV.of_own O6.out
    rw[Nat.zero_add] at this
    rw[show TV.length=N by rw[HT.out];simp]
    exact this
   ·obtain⟨b,c,e1,e2,e3⟩:=HVR.out i h'
    have e4:TV[i]=wdO (g1,(N:Int),es) i:=by
     have:TV[i]? =some (wdO (g1,(N:Int),es) i):=by
      rw[HT.out,List.getElem?_map,List.getElem?_range (by omega)];rfl
     exact Option.some.inj ((List.getElem?_eq_getElem h).symm.trans this)
    rw[e4]
    refine e2.rd.grown G6.out fun x hx hx'=> ?_
    rw[e1] at hx
    simp[Value.ownBlock] at hx hx'
    omega
  have HRD:=hDD hrd
  obtain⟨A6,c6,rfl,_⟩:=hrd.form
  have B6:=hDD (B4.out.grown G6.out (by omega) (fun b hb=>by simp[Value.ownBlock] at hb;omega))
  clear hrd
  go_wp2
  exact bodyPost_ret (v:= .slice A6 TV.length c6) (by simp[results,Tryz.results26,go_sem]) rfl ⟨_,rfl,HRD.out,B6.out⟩
set_option maxHeartbeats 2000000 in
theorem sameWordsR_any (v u:Value) (ds ds':List (List Int)) (w:World) (h:RdII w v ds) (h':RdII w u ds'):
  Calls Tryz.prog 17 #[v,u] w fun e w'=>e= .returned (.bool (decide (ds=ds')))∧Below w.heap.size w w':=by
 obtain⟨A,cap,rfl,hcap,hm,_⟩:=h.form
 obtain⟨A',cap',rfl,hcap',hm',_⟩:=h'.form
 have H:=hDD h
 have H':=hDD h'
 unfold maxLen at hm hm'
 clear h h'
 by_cases hne:ds.length=ds'.length
 ·have hd:((ds.length:Int) != (ds'.length:Int))=false:=by simp[hne]
  have HNE:=hDD hne
  clear hne
  go_enter Tryz.func17,Tryz.ntmps17
  go_wp2
  go_loopw [5] (fun i wr=> ∃k:Nat,k≤ds.length∧i= .int .i64 k∧ds.take k=ds'.take k∧Below w.heap.size w wr) (fun i _=>ds.length-(intOf i).toNat)
  case atStart=>exact⟨0,Nat.zero_le _,rfl,by simp,Below.refl _ _⟩
  case round=>
   obtain⟨k,hk,rfl,heq,hbel⟩:=hrel
   have HEQ:=hDD heq
   have HB:=hDD hbel
   have hsz:=hbel.size
   by_cases hlt:k<ds.length
   ·have hlt':k<ds'.length:=by have:=HNE.out;omega
    obtain⟨g,off,A2,c2,rfl,hgw,c0,_,_,X1r⟩:=(H.out.below hbel).at hlt
    obtain⟨g',off',A3,c3,rfl,hgw',c0',_,_,X2r⟩:=(H'.out.below hbel).at hlt'
    have HQ:Hid (ds.take (k+1)=ds'.take (k+1)↔ds[k]=ds'[k]):=hDD ⟨fun e=>by
     have:=congrArg (fun l=>l[k]?) e
     simpa[hlt,hlt'] using this,fun e=>take_eq_succ HEQ.out hlt hlt' e⟩
    have HN:Hid (ds[k]≠ds'[k]→ds≠ds'):=hDD (fun e1 e2=>by subst e2;exact e1 rfl)
    have X1:=hDD X1r
    have X2:=hDD X2r
    have hkI:(k:Int)<(ds.length:Int):=by omega
    have hkI':(k:Int)<(ds'.length:Int):=by omega
    clear heq hbel X1r X2r
    generalize ds[k]=d at*
    generalize ds'[k]=d' at*
    go_wp2_with fail
    go_quiet ((go_at_call 34;exact(sameInts_any _ _ d d' _ (X1.out.arg.drewN _) (X2.out.arg.drewN _)).mono fun _ _ ⟨he,n,hn⟩=>⟨he,by rw[hn];exact⟨_,World.drewN_drewN _ _ _⟩⟩))
    rcases e2:decide (d=d') with _ | _
    ·go_wp2
     go_ret
     exact⟨ret_bool (by symm;rw[decide_eq_false_iff_not];exact HN.out (by simpa using e2)),bel_drewN HB.out _⟩
    ·go_wp2
     go_roundw
     case rel=>exact⟨k+1,by omega,by go_num,HQ.out.2 (by simpa using e2),bel_drewN HB.out _⟩
     case measure=>simp[intOf];omega
   ·obtain rfl:k=ds.length:=by omega
    go_wp2
    go_ret
    refine⟨ret_bool ?_,HB.out⟩
    have h1:=HEQ.out
    rw[List.take_length,HNE.out,List.take_length] at h1
    simp[h1]
 ·have hd:((ds.length:Int) != (ds'.length:Int))=true:=by simp;omega
  go_enter Tryz.func17,Tryz.ntmps17
  go_wp2
  go_ret
  exact⟨ret_bool (by symm;rw[decide_eq_false_iff_not];rintro rfl;exact hne rfl),Below.refl _ _⟩
end Go.Proofs.YteobmaambgmdbaaGreat
namespace Go.Proofs.YteobmaambgmdbaaGreat
set_option maxRecDepth 20000
set_option linter.unusedVariables false
set_option linter.unusedSimpArgs false
open Go.RowKit
end Go.Proofs.YteobmaambgmdbaaGreat
namespace Go.Proofs.YteobmaambgmdbaaGreat
set_option maxRecDepth 20000
set_option linter.unusedVariables false
set_option linter.unusedSimpArgs false
open Go.RowKit
section
variable {g:GrD} {t:List Int}
def hairX (g:GrD):GrD:=(g.1,g.2.1+1,g.2.2)
def cjY (g:GrD) (t:List Int):GrD:=addG (hairX g) (readF g.2.2 0 t).1 g.2.1 (t.drop (readF g.2.2 0 t).2)
end
theorem CBx.fin {w wk:World} {B p base:Nat} {x y z a b s:Value} {es:List EdD} (h:CBx wk p x y z) (hb:Below B w wk) (hp:B≤p) (o:OwE wk base s es) (hn: ∀b,s.ownBlock=some b→b≠p):
  (((wk.setCell ⟨p,0,none⟩ a).setCell ⟨p,1,none⟩ b).setCell ⟨p,2,none⟩ s).cell? ⟨p,0,none⟩=some a∧(((wk.setCell ⟨p,0,none⟩ a).setCell ⟨p,1,none⟩ b).setCell ⟨p,2,none⟩ s).cell? ⟨p,1,none⟩=some b∧(((wk.setCell ⟨p,0,none⟩ a).setCell ⟨p,1,none⟩ b).setCell ⟨p,2,none⟩ s).cell? ⟨p,2,none⟩=some s∧
    Below B w (((wk.setCell ⟨p,0,none⟩ a).setCell ⟨p,1,none⟩ b).setCell ⟨p,2,none⟩ s)∧OwE (((wk.setCell ⟨p,0,none⟩ a).setCell ⟨p,1,none⟩ b).setCell ⟨p,2,none⟩ s) base s es:=by
 obtain⟨e0,e1,e2⟩:=cells3F a b s h.c0 h.c1 h.c2
 exact⟨e0,e1,e2,set3_below _ _ _ hb hp,o.keep fun y hy=>set3_heap _ _ _ _ _ (hn y hy)⟩
set_option maxHeartbeats 1000000 in
theorem readLength_any (v vw:Value) (g:GrD) (u:Int) (ws:List Int) (w:World) (h:ArgG w v g) (hw:RdI w vw ws) (hf:foldB g=true) (hu:0≤u∧u<g.2.1):
  Calls Tryz.prog 87 #[v, .int .i64 u,vw] w fun e w'=>e= .returned (.int .i64 ((readF g.2.2 u ws).2:Nat))∧Below w.heap.size w w':=by
 have HG:=hDD h
 have HW:=hDD hw
 have HF:=hDD hf
 obtain⟨hg,hfol⟩:=foldB_parts hf
 have ONE:=hDD (steps_one hfol)
 obtain⟨hr13,hsz40,hl120,_⟩:=grB_parts hg
 have NV:Hid (∀v x,nextV g.2.2 v x= -1∨(0≤nextV g.2.2 v x∧nextV g.2.2 v x<g.2.1)):=hDD fun v x=>nextV_range hg v x
 have hin:inB u 0 (wrap64 (g.2.1-1))=true:=by
  rw[IntWalk.wrap64_in _ ⟨by omega,by omega⟩]
  exact inB_iff.2 ⟨hu.1,by omega⟩
 have hsub:IntKind.i64.wrap (g.2.1-1)=g.2.1-1:=by rw[IntKind.wrap_i64];omega
 have hin':inB u 0 (g.2.1-1)=true:=inB_iff.2 ⟨hu.1,by omega⟩
 have HIN:=hDD hin
 have HIN2:=hDD hin'
 obtain⟨s,rfl,hi1,hi2,ha⟩:=h
 obtain⟨A,cap,rfl⟩:=ha.form
 obtain⟨Aw,capw,rfl,hcw,hmw,_⟩:=hw.arg
 unfold maxLen at hmw
 clear hf hg hfol ha hw hin hin'
 have HR:Hid ((readF g.2.2 u ws).2=0+(readF g.2.2 u (ws.drop 0)).2):=hDD (by rw[List.drop_zero,Nat.zero_add])
 generalize (readF g.2.2 u ws).2=R at*
 go_enter Tryz.func87,Tryz.ntmps87
 go_wp2_with fail
 have bx:Below w.heap.size w (w.alloc (Obj.cells #[Value.int IntKind.i64 g.1,Value.int IntKind.i64 g.2.1, .slice A g.2.2.length cap] 26)):=(by repeat(first | exact Below.refl _ _ | (refine Below.setCell ?_ (by first | omega | (simp<;>omega)) _) | (refine bel_drewN ?_ _) | (refine Below.drew ?_) | (refine Below.alloc ?_ (by first | omega | (simp<;>omega)) _)))
 have l0:(w.alloc (Obj.cells #[Value.int IntKind.i64 g.1,Value.int IntKind.i64 g.2.1, .slice A g.2.2.length cap] 26)).cell? ⟨w.heap.size,0,none⟩=some (.int .i64 g.1):=by simp[go_sem]
 have l1:(w.alloc (Obj.cells #[Value.int IntKind.i64 g.1,Value.int IntKind.i64 g.2.1, .slice A g.2.2.length cap] 26)).cell? ⟨w.heap.size,1,none⟩=some (.int .i64 g.2.1):=by simp[go_sem]
 have l2:(w.alloc (Obj.cells #[Value.int IntKind.i64 g.1,Value.int IntKind.i64 g.2.1, .slice A g.2.2.length cap] 26)).cell? ⟨w.heap.size,2,none⟩=some (.slice A g.2.2.length cap):=by simp[go_sem]
 have sA:w.heap.size<(w.alloc (Obj.cells #[Value.int IntKind.i64 g.1,Value.int IntKind.i64 g.2.1, .slice A g.2.2.length cap] 26)).heap.size:=by simp
 generalize w.alloc (Obj.cells #[Value.int IntKind.i64 g.1,Value.int IntKind.i64 g.2.1, .slice A g.2.2.length cap] 26)=W at bx l0 l1 l2 sA⊢
 have BX:=hDD bx
 have HA:Hid (∀w',Below W.heap.size W w'→ArgG w' (.agg #[.int .i64 g.1, .int .i64 g.2.1, .slice A g.2.2.length cap]) g):=hDD fun w' hb=>HG.out.below (BX.out.trans (hb.mono (by omega)))
 have hif:=specIsFolded_any _ g W (HA.out _ (Below.refl _ _))
 rw[HF.out] at hif
 have HIF:=hDD hif
 clear bx hif
 refine HIF.out.mono ?_
 rintro e w1 ⟨rfl,b1⟩
 have q0:=(b1.cell (p:=⟨w.heap.size,0,none⟩) sA).trans l0
 have q1:=(b1.cell (p:=⟨w.heap.size,1,none⟩) sA).trans l1
 have q2:=(b1.cell (p:=⟨w.heap.size,2,none⟩) sA).trans l2
 have BW:=hDD b1
 have L0:=hDD l0
 have L1:=hDD l1
 have L2:=hDD l2
 clear b1 HIF l0 l1 l2
 go_wp2_with fail
 refine(l1In_any _ _ _ _).mono ?_
 rintro e w2 ⟨rfl,rfl⟩
 simp only[HIN2.out]
 go_wp2
 go_loopw [1,7] (fun a i wr=> ∃(k:Nat) (u':Int),k≤ws.length∧i= .int .i64 k∧a= .int .i64 u'∧(0≤u'∧u'<g.2.1)∧R=k+(readF g.2.2 u' (ws.drop k)).2∧Below W.heap.size W wr) (fun _ i _=>ws.length-(intOf i).toNat)
 case atStart=>exact⟨0,u,Nat.zero_le _,rfl,rfl,hu,HR.out,BW.out⟩
 case round=>
  obtain⟨k,u',hk,rfl,rfl,hu',hR,hbel⟩:=hrel
  have HB:=hDD hbel
  have HRk:=hDD hR
  have hs:=hbel.size
  have q0:=(hbel.cell (p:=⟨w.heap.size,0,none⟩) sA).trans L0.out
  have q1:=(hbel.cell (p:=⟨w.heap.size,1,none⟩) sA).trans L1.out
  have q2:=(hbel.cell (p:=⟨w.heap.size,2,none⟩) sA).trans L2.out
  have hwr:w.heap.size<wr.heap.size:=by omega
  by_cases hlt:k<ws.length
  ·have HRW:=hDD (HW.out.below (BX.out.trans (hbel.mono (by omega))))
   obtain⟨bw,offw,rfl,hbw,hcw2⟩:=HRW.out.at (by omega)
   have c0:=hcw2 k hlt
   have ST:=hDD (readF_step g.2.2 u' ws k hlt)
   generalize ws[k]=x at c0 ST
   have NX:=hDD (NV.out u' x)
   have HNX:=hDD (fun W' (h:ArgG W' (.agg #[.int .i64 g.1, .int .i64 g.2.1, .slice A g.2.2.length cap]) g)=>specNextVertex_any _ g u' x W' h (ONE.out u' x))
   clear hbel hR hcw2
   go_wp2_with fail
   have f0:=BelW.cell q0 hwr
   have f1:=BelW.cell q1 hwr
   have f2:=BelW.cell q2 hwr
   have f3:=BelW.cell c0 hbw
   (refine wp_region_quiet_bel (by kernel_rfl) (by kernel_rfl) ?_;(repeat(go_big_quiet_step (first | (go_at_call 83;exact Calls.bel_of (HNX.out _ (HA.out _ (HB.out.trans ((BelW.h _).mono (by omega)))))))));refine wpQuiet_nil ?_;intro wq hw';obtain⟨pq,hw''⟩:=hw';have bq:=pq.h;rw[←hw''] at bq;clear hw'' pq)
   clear f0 f1 f2 f3 q0 q1 q2 c0
   have HQ:=hDD (HB.out.trans (bq.mono (by omega)))
   have sq:=bq.size
   clear bq
   generalize nextV g.2.2 u' x=y at*
   rcases NX.out with hy | hy
   ·subst hy
    have F:Hid (R=k):=hDD (by rw[HRk.out,ST.out];rfl)
    go_wp2
    go_ret
    exact⟨ret_int (by rw[F.out]),BX.out.trans (HQ.out.mono (by omega))⟩
   ·have hy0: ¬y<0:=by omega
    have F:Hid (R=(k+1)+(readF g.2.2 y (ws.drop (k+1))).2):=hDD (by rw[HRk.out,ST.out,if_neg hy0];simp only;omega)
    go_wp2
    go_roundw
    case rel=>exact⟨k+1,y,by omega,by go_num,rfl,hy,F.out,HQ.out⟩
    case measure=>simp[intOf];omega
  ·obtain rfl:k=ws.length:=by omega
   have F:Hid (R=ws.length):=hDD (by rw[HRk.out,List.drop_length];rfl)
   clear hbel hR
   go_wp2
   go_ret
   exact⟨ret_int (by rw[F.out]),BX.out.trans (HB.out.mono (by omega))⟩
structure CjH (g:GrD) (t:List Int) (R:GrD×Bool):Prop where
 c0:coreB g=false→R=((0,0,[]),false)
 c1:wordB g.1 t=false→R=((0,0,[]),false)
 c2:coreB g=true→wordB g.1 t=true→(readF g.2.2 0 t).2=t.length→R=(movG g (readF g.2.2 0 t).1.toNat,true)
 c3:(readF g.2.2 0 t).2<t.length→40≤g.2.1→R=((0,0,[]),false)
 c4:(readF g.2.2 0 t).2<t.length→addOk (hairX g) (t.drop (readF g.2.2 0 t).2)=false→R=((0,0,[]),false)
 c5:coreB g=true→wordB g.1 t=true→(readF g.2.2 0 t).2<t.length→g.2.1<40→addOk (hairX g) (t.drop (readF g.2.2 0 t).2)=true→R=(movG (cjY g t) g.2.1.toNat,true)
end Go.Proofs.YteobmaambgmdbaaGreat
namespace Go.Proofs.YteobmaambgmdbaaGreat
set_option maxRecDepth 20000
set_option linter.unusedVariables false
set_option linter.unusedSimpArgs false
open Go.RowKit
theorem two_rdX {w:World} {u v:Value} {xs ys:List Int} (h:RdI w u xs) (h':RdI w v ys):RdII (w.alloc (.cells #[u,v] 27)) (.slice (some ⟨w.heap.size,0,none⟩) 2 2) [xs,ys]:=by
 refine⟨[u,v],rfl,RdV.of_own (rows_lit w [u,v] (by simp) (Nat.zero_le _)),fun i h1 h2=> ?_⟩
 match i,h1 with
 | 0,_=>exact h.alloc _
 | 1,_=>exact h'.alloc _
theorem redLL_two (a b:List Int):redLL [a,b]=redL [] (a++b):=by
 unfold redLL redL
 simp[List.foldl_append,redL]
set_option maxHeartbeats 4000000 in
theorem implSameCoset_any (v va vb:Value) (g:GrD) (a b:List Int) (w:World) (h:ArgG w v g) (h1:RdI w va a) (h2:RdI w vb b) (hla:a.length≤10000) (hlb:b.length≤10000):
  Calls Tryz.prog 30 #[v,va,vb] w fun e w'=>e= .returned (.bool (samB g a b))∧Below w.heap.size w w':=by
 have HG:=hDD h
 have HA:=hDD h1
 have HB:=hDD h2
 have hil:(invL b).length=b.length:=by simp[invL,negL]
 have HIN:=hDD (fun W (h:RdI W vb b)=>implInvertWord_any vb b W h (by omega))
 have HPR:=hDD (fun W u (h:RdII W u [a,invL b])=>product_any u [a,invL b] W h (by simp[lenLL];omega) (by simp))
 rw[redLL_two] at HPR
 have hrl:(redL [] (a++invL b)).length≤20000:=by have:=redL_len [] (a++invL b);simp only[List.length_append,List.length_nil] at this;omega
 have HCT:Hid (∀W u,ArgG W v g→RdI W u (redL [] (a++invL b))→Calls Tryz.prog 12 #[v,u] W fun e w'=>e= .returned (.bool (samB g a b))∧Below W.heap.size W w'):=hDD fun W u h h'=>by
  rcases hc:coreB g with _ | _
  ·have e:samB g a b=false:=by unfold samB;rw[hc];rfl
   rw[e]
   exact implContainsN_any v u g _ W h h' hc
  ·have e:samB g a b=decide (walkF g.2.2 0 (redL [] (redL [] (a++invL b)))=0):=by unfold samB;rw[hc];exact Bool.true_and _
   rw[e]
   exact implContains_any v u g _ W h h' hc (by omega)
 generalize samB g a b=o at*
 obtain⟨s,rfl,hi1,hi2,ha⟩:=h
 obtain⟨A,cap,rfl⟩:=ha.form
 obtain⟨Aa,ca,rfl,_⟩:=h1.arg
 obtain⟨Ab,cb,rfl,_⟩:=h2.arg
 obtain⟨g1,N,es⟩:=g
 simp only at*
 generalize redL [] (a++invL b)=x at*
 generalize invL b=ib at*
 clear ha h1 h2 hil
 go_enter Tryz.func30,Tryz.ntmps30
 go_wp2_with fail
 obtain⟨W,hW⟩: ∃W,W=w.alloc (Obj.cells #[Value.int IntKind.i64 g1,Value.int IntKind.i64 N, .slice A es.length cap] 26):=⟨_,rfl⟩
 rw[←hW]
 obtain⟨xb,b0,s0⟩:=CBx.new hW
 clear hW
 have XB:=hDD xb
 have B0:=hDD b0
 clear xb b0
 refine wp_region_gen [.val (.agg #[.int .i64 g1, .int .i64 N, .slice A es.length cap]), .val (.slice Aa a.length ca), .val (.slice Ab b.length cb), .mem (fun _ W v=> ∃A c,v= .slice A ib.length c∧RdI W v ib), .mem (fun _ W v=> ∃q,v= .slice (some ⟨q,0,none⟩) 2 2∧RdII W v [a,ib]), .mem (fun _ W v=> ∃A c,v= .slice A x.length c∧RdI W v x), .val (.bool o), .val (.bool o)]
  [none,none,none,some (fun W W'=>Below W.heap.size W W'),some (fun W W'=>Below W.heap.size W W'),some (fun W W'=>Below W.heap.size W W'),some (fun W W'=>Below W.heap.size W W'),none] (fun W'=>Below W.heap.size W W') [(3,4),(3,5),(3,6),(4,5),(4,6),(5,6)] (by kernel_rfl) (by kernel_rfl) (by rfl) (by rfl)
  (Below.refl _ _).drew ⟨fun _ _ h t=>h.trans (t.mono h.size),fun _ _ h t=>h.trans (t.mono h.size),fun _ _ h t=>h.trans (t.mono h.size),fun _ _ h t=>h.trans (t.mono h.size),trivial⟩
  ⟨fun _ _ _ _ _ _ t h=>by obtain⟨A,c,e,h⟩:=h;exact⟨A,c,e,h.below t⟩,fun _ _ _ _ _ _ t h=>by obtain⟨A,c,e,h⟩:=h;exact⟨A,c,e,h.below t⟩,fun _ _ _ _ _ _ t h=>by obtain⟨A,c,e,h⟩:=h;exact⟨A,c,e,h.below t⟩,fun _ _ _ _ _ _ t h=>by obtain⟨q,e,h⟩:=h;exact⟨q,e,h.below t⟩,fun _ _ _ _ _ _ t h=>by obtain⟨q,e,h⟩:=h;exact⟨q,e,h.below t⟩,fun _ _ _ _ _ _ t h=>by obtain⟨A,c,e,h⟩:=h;exact⟨A,c,e,h.below t⟩,trivial⟩ (fun vs=> ?_)
 refine⟨fun W' K' Q0 hI hD hK=> ?_,?_⟩
 ·have z0:=(XB.out.below hI.out).c0
  have z1:=(XB.out.below hI.out).c1
  have z2:=(XB.out.below hI.out).c2
  go_simp
  exact hK.out _ _ rfl rfl
 simp only[Act.put,List.setIfInBounds_toArray,List.set_cons_zero,List.set_cons_succ,Sg.pick,Nat.reduceAdd]
 refine⟨fun W' K' Q0 hI hD hK=> ?_,?_⟩
 ·skip
  go_simp
  exact hK.out _ _ rfl rfl
 simp only[Act.put,List.setIfInBounds_toArray,List.set_cons_zero,List.set_cons_succ,Sg.pick,Nat.reduceAdd]
 refine⟨fun W' K' Q0 hI hD hK=> ?_,?_⟩
 ·skip
  go_simp
  exact hK.out _ _ rfl rfl
 simp only[Act.put,List.setIfInBounds_toArray,List.set_cons_zero,List.set_cons_succ,Sg.pick,Nat.reduceAdd]
 refine⟨fun W' K' Q0 hI hD hK=> ?_,?_⟩
 ·skip
  go_simp
  refine(HIN.out _ (HB.out.below (B0.out.trans (hI.out.mono (by omega))))).mono ?_;rintro e w' ⟨r,rfl,or,br⟩;obtain⟨A',c',rfl,_⟩:=or.form;exact hK.out _ _ br ⟨A',c',rfl,or.rd⟩
 simp only[Act.put,List.setIfInBounds_toArray,List.set_cons_zero,List.set_cons_succ,Sg.pick,Nat.reduceAdd]
 refine⟨fun W' K' Q0 hI hD hK=> ?_,?_⟩
 ·obtain⟨A',c',e2,r2⟩:=(show ∃A c,vs 3= .slice A ib.length c∧RdI W' (vs 3) ib from hD.out 3 (by kernel_rfl))
  rw[e2] at hK r2⊢
  go_simp
  exact hK.out _ _ ((Below.refl _ _).alloc (Nat.le_refl _) _) ⟨_,rfl,two_rdX (HA.out.below (B0.out.trans (hI.out.mono (by omega)))) r2⟩
 simp only[Act.put,List.setIfInBounds_toArray,List.set_cons_zero,List.set_cons_succ,Sg.pick,Nat.reduceAdd]
 refine⟨fun W' K' Q0 hI hD hK=> ?_,?_⟩
 ·obtain⟨q',e2,r2⟩:=(show ∃q,vs 4= .slice (some ⟨q,0,none⟩) 2 2∧RdII W' (vs 4) [a,ib] from hD.out 4 (by kernel_rfl))
  rw[e2] at hK r2⊢
  go_simp
  refine(HPR.out _ _ r2).mono ?_;rintro e w' ⟨r,rfl,or,br⟩;obtain⟨A'',c'',rfl,_⟩:=or.form;exact hK.out _ _ br ⟨A'',c'',rfl,or.rd⟩
 simp only[Act.put,List.setIfInBounds_toArray,List.set_cons_zero,List.set_cons_succ,Sg.pick,Nat.reduceAdd]
 refine⟨fun W' K' Q0 hI hD hK=> ?_,?_⟩
 ·obtain⟨A',c',e2,r2⟩:=(show ∃A c,vs 5= .slice A x.length c∧RdI W' (vs 5) x from hD.out 5 (by kernel_rfl))
  rw[e2] at hK r2⊢
  go_simp
  refine(HCT.out _ _ (HG.out.below (B0.out.trans (hI.out.mono (by omega)))) r2).mono ?_;rintro e w' ⟨rfl,br⟩;exact hK.out _ _ br rfl
 simp only[Act.put,List.setIfInBounds_toArray,List.set_cons_zero,List.set_cons_succ,Sg.pick,Nat.reduceAdd]
 refine⟨fun W' K' Q0 hI hD hK=> ?_,?_⟩
 ·skip
  go_simp
  exact hK.out _ _ rfl rfl
 simp only[Act.put,List.setIfInBounds_toArray,List.set_cons_zero,List.set_cons_succ,Sg.pick,Nat.reduceAdd]
 intro W9 hI9 hD9
 have I9:=hDD hI9.out
 clear hI9 hD9
 go_wp2
 exact bodyPost_ret (v:= .bool o) (by simp[results,Tryz.results30,go_sem]) rfl ⟨rfl,B0.out.trans (I9.out.mono (by omega))⟩
def cosF (g:GrD) (ws:List Int):List Int:=wdO g (readF g.2.2 0 (redL [] ws)).1++(redL [] ws).drop (readF g.2.2 0 (redL [] ws)).2
theorem readF_range {g:GrD} (hg:grB g=true): ∀(w:List Int) (v:Int),0≤v∧v<g.2.1→0≤(readF g.2.2 v w).1∧(readF g.2.2 v w).1<g.2.1
 | [],v,h=>h
 | x::w,v,h=>by
   unfold readF
   split
   ·exact h
   ·rename_i q
    exact readF_range hg w _ (by rcases nextV_range hg v x with z | z<;>omega)
theorem walk_readT (es:List EdD): ∀(w:List Int) (v:Int),walkF es v (w.take (readF es v w).2)=(readF es v w).1
 | [],v=>rfl
 | x::w,v=>by
   unfold readF
   split
   ·rfl
   ·rename_i q
    simp only[List.take_succ_cons]
    rw[walkF_cons,if_neg q]
    exact walk_readT es w _
end Go.Proofs.YteobmaambgmdbaaGreat
namespace Go.Proofs.YteobmaambgmdbaaGreat
set_option maxRecDepth 20000
set_option linter.unusedVariables false
set_option linter.unusedSimpArgs false
open Go.RowKit
section
variable {g:GrD} (hc:coreB g=true)
include hc
theorem core_parts:grB g=true∧Fol g.2.2:=foldB_parts (coreB_foldB hc)
theorem same_iff {a b:List Int} (ha: ∀y∈a,Lt3 y) (hb: ∀y∈b,Lt3 y):samB g a b=true↔runS g.2.2 (0,[]) a=runS g.2.2 (0,[]) b:=by
 obtain⟨hg,hf⟩:=core_parts hc
 obtain⟨_,hsz,_,_⟩:=grB_parts hg
 have hok:okS g ((0:Int),([]:List Int)):=⟨⟨by simp only;omega,by simp only;omega⟩,trivial⟩
 have hib:invL b=invN b:=by
  unfold invL invN negL
  congr 1
  refine List.map_congr_left fun y hy=> ?_
  have:=hb y hy
  exact IntWalk.wrap64_in _ ⟨by have:=this.2.1;omega,by have:=this.1;omega⟩
 have hb': ∀y∈invN b,Lt3 y:=fun y hy=>by have:=(hb _ (invN_mem hy)).neg;rwa [Int.neg_neg] at this
 have hab: ∀y∈a++invN b,Lt3 y:=fun y hy=>by
  rcases List.mem_append.1 hy with h | h
  ·exact ha y h
  ·exact hb' y h
 have hred:redL [] (redL [] (a++invN b))=redL [] (a++invN b):=red_self2 (redL_red redP_nil)
 unfold samB
 rw[hc,hib,hred,Bool.true_and,decide_eq_true_eq,loop_iff hg hf hab ⟨by omega,by omega⟩ (by omega),runS_app]
 constructor
 ·intro e
  have h1:=run_ok hg hok ha
  have h2:=run_inv hg hf (run_ok hg hok ha) hb'
  rw[invN_inv,e] at h2
  exact h2.symm
 ·intro e
  rw[e,run_inv hg hf hok hb]
theorem wdL3 {v:Int} (hv:0≤v∧v<g.2.1): ∀y∈wdO g v,Lt3 y:=fun y hy=>by
 obtain⟨hg,_⟩:=core_parts hc
 have h1:=wd_let hg (core_all hc hv) y hy
 have h2:=letters_mem.1 h1
 have h3:=wd_let3 hg (core_all hc hv) y hy
 exact⟨h3.1,h3.2,by omega⟩
theorem run_wd {v:Int} (hv:0≤v∧v<g.2.1):runS g.2.2 (0,[]) (wdO g v)=(v,[]):=by
 obtain⟨hg,_⟩:=core_parts hc
 have h:=wd_walk hg (core_all hc hv)
 rw[run_walk (by omega),h]
theorem wd_last {v:Int} (hv:0≤v∧v<g.2.1) {x:Int} (hx:(wdO g v).getLast? =some x):0≤nextV g.2.2 v (-x):=by
 obtain⟨hg,hf⟩:=core_parts hc
 by_cases h0:v=0
 ·rw[h0,wd_zero hg] at hx;cases hx
 ·obtain⟨u,hu,z,hz,h1,h2⟩:=wd_par hg (core_all hc hv) h0
  rw[h1,List.getLast?_concat] at hx
  injection hx with hx
  subst hx
  have hb:=nextV_back hg hf (v:=u) (x:=z) (let3 hg hz) (by omega)
  rw[h2] at hb
  rw[hb]
  exact((canO_ok hg).2.1 u hu).1
def nfS (g:GrD) (s:Int×List Int):List Int:=wdO g s.1++s.2.reverse
omit hc in
theorem okR_noB: ∀ {es:List EdD} {v:Int} {r:List Int},okR es v r→NoB r.reverse∧(∀y∈r,Lt3 y)∧ ∀y∈r.reverse.head?,nextV es v y<0
 | _,_,[],_=>by
   refine⟨trivial,fun y hy=> ?_,fun y hy=> ?_⟩
   ·cases hy
   ·cases hy
 | _,_,[y],h=>by
   refine⟨trivial,fun z hz=> ?_,fun z hz=> ?_⟩
   ·rw[List.mem_singleton.1 hz];exact h.2
   ·injection hz with hz
    subst hz
    exact h.1
 | es,v,y::z::r,h=>by
   obtain⟨h1,h2,h3⟩:=okR_noB (r:=z::r) h.2.2
   refine⟨?_,fun x hx=> ?_,fun x hx=> ?_⟩
   ·rw[List.reverse_cons]
    refine NoB.app h1 trivial fun a ha b hb=> ?_
    have e:b=y:=by injection hb with hb;exact hb.symm
    have e2:a=z:=by
     rw[List.reverse_cons,List.getLast?_concat] at ha
     injection ha with ha;exact ha.symm
    subst e;subst e2
    exact h.1
   ·rcases List.mem_cons.1 hx with e | e
    ·subst e;exact h.2.1
    ·exact h2 x e
   ·refine h3 x ?_
    rw[List.reverse_cons] at hx
    rcases hq:(z::r).reverse with _ | ⟨p,q⟩
    ·simp at hq
    ·rw[hq] at hx;exact hx
theorem nf_lt3 {s:Int×List Int} (hs:okS g s): ∀y∈nfS g s,Lt3 y:=fun y hy=>by
 rcases List.mem_append.1 hy with h | h
 ·exact wdL3 hc hs.1 y h
 ·exact(okR_noB hs.2).2.1 y (List.mem_reverse.1 h)
theorem nf_noB {s:Int×List Int} (hs:okS g s):NoB (nfS g s):=by
 obtain⟨hg,hf⟩:=core_parts hc
 obtain⟨h1,h2,h3⟩:=okR_noB hs.2
 refine NoB.app (wd_chain hg hf _ (core_all hc hs.1) (Nat.le_refl _)) h1 fun x hx y hy e=> ?_
 have q1:=wd_last hc hs.1 hx
 have q2:=h3 y hy
 rw[e] at q2
 omega
theorem nf_red {s:Int×List Int} (hs:okS g s):redL [] (nfS g s)=nfS g s:=red_self2 (nf_noB hc hs).red
theorem nf_run {s:Int×List Int} (hs:okS g s):runS g.2.2 (0,[]) (nfS g s)=s:=by
 obtain⟨v,r⟩:=s
 obtain⟨h1,h2,h3⟩:=okR_noB hs.2
 unfold nfS
 rw[runS_app,run_wd hc hs.1]
 simp only at h1 h2 h3⊢
 rcases hq:r.reverse with _ | ⟨p,q⟩
 ·have:r= []:=by simpa using hq
  subst this;rfl
 ·rw[hq] at h1 h3
  have e:actS g.2.2 (v,[]) p=(v,[p]):=by unfold actS;simp only;rw[if_pos (h3 p rfl)]
  rw[runS_cons,e,run_push h1]
  have:r=q.reverse++ [p]:=by have:=congrArg List.reverse hq;simpa using this
  rw[this]
theorem ok0:okS g ((0:Int),([]:List Int)):=by
 obtain⟨_,hsz,_,_⟩:=grB_parts (core_parts hc).1
 exact⟨⟨by simp only;omega,by simp only;omega⟩,trivial⟩
omit hc in
theorem readF_stop (es:List EdD): ∀(w:List Int) (v:Int) (h:(readF es v w).2<w.length),nextV es (readF es v w).1 (w[(readF es v w).2])<0
 | [],v,h=>by simp at h
 | x::w,v,h=>by
   by_cases q:nextV es v x<0
   ·have e:readF es v (x::w)=(v,0):=by rw[readF,if_pos q]
    simp only[e]
    exact q
   ·have e:readF es v (x::w)=((readF es (nextV es v x) w).1,(readF es (nextV es v x) w).2+1):=by rw[readF,if_neg q]
    have h':(readF es (nextV es v x) w).2<w.length:=by rw[e] at h;simpa using h
    have:=readF_stop es w (nextV es v x) h'
    simp only[e,List.getElem_cons_succ]
    exact this
theorem cosF_nf {w:List Int} (hw: ∀y∈w,Lt3 y):cosF g w=nfS g (runS g.2.2 (0,[]) w):=by
 obtain⟨hg,hf⟩:=core_parts hc
 have hr:=run_red hg hf (ok0 hc) hw
 have hl3: ∀y∈redL [] w,Lt3 y:=red_lt3 hw
 have hn:=red_noB hw
 obtain⟨_,hsz,_,_⟩:=grB_parts hg
 unfold cosF
 rw[←hr]
 generalize redL [] w=c at*
 have h1:=walk_readT g.2.2 c 0
 have h2:=readF_range hg c 0 ⟨by omega,by omega⟩
 have h3:=readF_stop g.2.2 c 0
 have h4:=readF_le g.2.2 c 0
 generalize readF g.2.2 0 c=p at*
 obtain⟨v,n⟩:=p
 simp only at h1 h2 h3 h4⊢
 have hs:runS g.2.2 (0,[]) c=(v,(c.drop n).reverse):=by
  conv=>lhs;rw[←List.take_append_drop n c]
  rw[runS_app,run_walk (by omega),h1]
  rcases Nat.lt_or_ge n c.length with q | q
  ·have hd:=hn.drop n
   have h3':=h3 q
   rw[List.drop_eq_getElem_cons q] at hd⊢
   generalize c[n]=x at*
   have e:actS g.2.2 (v,[]) x=(v,[x]):=by unfold actS;simp only;rw[if_pos h3']
   rw[runS_cons,e,run_push hd]
   simp
  ·rw[List.drop_eq_nil_of_le q];rfl
 rw[hs]
 unfold nfS
 simp
theorem run_okS {w:List Int} (hw: ∀y∈w,Lt3 y):okS g (runS g.2.2 (0,[]) w):=run_ok (core_parts hc).1 (ok0 hc) hw
theorem cos_lt3 {w:List Int} (hw: ∀y∈w,Lt3 y): ∀y∈cosF g w,Lt3 y:=by rw[cosF_nf hc hw];exact nf_lt3 hc (run_okS hc hw)
theorem cos_red {w:List Int} (hw: ∀y∈w,Lt3 y):redL [] (cosF g w)=cosF g w:=by rw[cosF_nf hc hw];exact nf_red hc (run_okS hc hw)
theorem cos_same {w:List Int} (hw: ∀y∈w,Lt3 y):samB g (cosF g w) w=true:=by
 rw[same_iff hc (cos_lt3 hc hw) hw,cosF_nf hc hw,nf_run hc (run_okS hc hw)]
theorem same_cos {a b:List Int} (ha: ∀y∈a,Lt3 y) (hb: ∀y∈b,Lt3 y):samB g a b=decide (cosF g a=cosF g b):=by
 rw[Bool.eq_iff_iff,same_iff hc ha hb,decide_eq_true_eq]
 constructor
 ·intro e
  rw[cosF_nf hc ha,cosF_nf hc hb,e]
 ·intro e
  rw[←nf_run hc (run_okS hc ha),←cosF_nf hc ha,e,cosF_nf hc hb,nf_run hc (run_okS hc hb)]
theorem cos_len {w:List Int}:(cosF g w).length≤40+w.length:=by
 obtain⟨_,hsz,_,_⟩:=grB_parts (core_parts hc).1
 have h1:=wd_len (core_parts hc).1 (core_all hc (readF_range (core_parts hc).1 (redL [] w) 0 ⟨by omega,by omega⟩))
 have h2:=redL_len [] w
 unfold cosF
 rw[List.length_append,List.length_drop]
 simp at h2
 omega
theorem trv_at {i:Nat} (hi:i<(trvL g).length):i<g.2.1.toNat∧(trvL g)[i]=wdO g (i:Int):=by
 have e:trvL g=(List.range g.2.1.toNat).map fun (v:Nat)=>wdO g v:=by unfold trvL;rw[if_pos hc]
 have hi':i<g.2.1.toNat:=by rw[e] at hi;simpa using hi
 refine⟨hi',?_⟩
 simp[e]
theorem trv_len:(trvL g).length=g.2.1.toNat:=by unfold trvL;rw[if_pos hc];simp
theorem trv_apart {i k:Nat} (hi:i<(trvL g).length) (hk:k<(trvL g).length) (hne:k≠i):samB g (trvL g)[i] (trvL g)[k]=false:=by
 obtain⟨i1,i2⟩:=trv_at hc hi
 obtain⟨k1,k2⟩:=trv_at hc hk
 rw[i2,k2]
 apply Bool.eq_false_iff.2
 intro h
 rw[same_iff hc (wdL3 hc ⟨by omega,by omega⟩) (wdL3 hc ⟨by omega,by omega⟩),run_wd hc ⟨by omega,by omega⟩,run_wd hc ⟨by omega,by omega⟩] at h
 injection h with h
 omega
theorem trv_let {i:Nat} (hi:i<(trvL g).length):(∀y∈(trvL g)[i],Lt3 y)∧(trvL g)[i].length≤40:=by
 obtain⟨i1,i2⟩:=trv_at hc hi
 rw[i2]
 exact⟨wdL3 hc ⟨by omega,by omega⟩,Nat.le_of_lt (wd_len (core_parts hc).1 (core_all hc ⟨by omega,by omega⟩))⟩
theorem cos_trv (hfi:finB g=true) {w:List Int} (hw: ∀y∈w,y∈lettersL g.1.toNat):cosF g w∈trvL g:=by
 obtain⟨hg,hf⟩:=core_parts hc
 obtain⟨hr,hsz,_,_⟩:=grB_parts hg
 have hw3: ∀y∈w,Lt3 y:=fun y hy=>by
  have h1:=letters_mem.1 (hw y hy)
  exact⟨by omega,by omega,by omega⟩
 have h1:=fin_walk hg hfi (v:=0) ⟨by omega,by omega⟩ hw
 rw[cosF_nf hc hw3,run_walk h1.1]
 generalize walkF g.2.2 0 w=v at*
 have e:trvL g=(List.range g.2.1.toNat).map fun (v:Nat)=>wdO g v:=by unfold trvL;rw[if_pos hc]
 rw[e]
 refine List.mem_map.2 ⟨v.toNat,List.mem_range.2 (by omega),?_⟩
 unfold nfS
 simp only[List.reverse_nil,List.append_nil]
 rw[Int.toNat_of_nonneg h1.1]
end
theorem fin_edges {g:GrD} (hfi:finB g=true):g.2.2.length=g.2.1.toNat*g.1.toNat:=by
 have hc:coreB g=true:=by unfold finB at hfi;simp only[Bool.and_eq_true] at hfi;exact hfi.1
 obtain⟨hg,hf⟩:=core_parts hc
 obtain⟨hr,hsz,_,_⟩:=grB_parts hg
 have hE:=fun e (he:e∈g.2.2)=>edge_of_gr hg he
 obtain⟨R,hR⟩: ∃R:Nat,g.1=R:=⟨g.1.toNat,by omega⟩
 have hRn:g.1.toNat=R:=by omega
 rw[hRn]
 let f:EdD→Nat:=fun e=>e.1.toNat*R+(e.2.1-1).toNat
 have hnd:(g.2.2.map f).Nodup:=by
  rw[List.nodup_iff_pairwise_ne,List.pairwise_map]
  refine List.Pairwise.imp_of_mem ?_ hf
  intro a b ha hb hab e
  have h1:=hE a ha
  have h2:=hE b hb
  have m1:(a.2.1-1).toNat<R:=by omega
  have m2:(b.2.1-1).toNat<R:=by omega
  have hR0:0<R:=by omega
  have e1:a.1.toNat=b.1.toNat:=by
   have q:f a/R=f b/R:=by rw[e]
   simp only[f] at q
   rwa [Nat.mul_comm a.1.toNat,Nat.mul_comm b.1.toNat,Nat.mul_add_div hR0,Nat.mul_add_div hR0,Nat.div_eq_of_lt m1,Nat.div_eq_of_lt m2] at q
  have e2:(a.2.1-1).toNat=(b.2.1-1).toNat:=by
   have q:f a=f b:=e
   simp only[f] at q
   rw[e1] at q
   omega
  have:clash a b=true:=by
   unfold clash
   have e3:a.1=b.1:=by omega
   have e4:a.2.1=b.2.1:=by omega
   simp[e3,e4]
  rw[this] at hab
  cases hab
 have hmem: ∀n,n∈g.2.2.map f↔n∈List.range (g.2.1.toNat*R):=by
  intro n
  rw[List.mem_range,List.mem_map]
  constructor
  ·rintro⟨e,he,rfl⟩
   have h1:=hE e he
   have m1:(e.2.1-1).toNat<R:=by omega
   have m2:e.1.toNat+1≤g.2.1.toNat:=by omega
   have m3:=Nat.mul_le_mul_right R m2
   simp only[f]
   rw[Nat.add_mul,Nat.one_mul] at m3
   omega
  ·intro hn
   have hR0:0<R:=by omega
   have hv:n/R<g.2.1.toNat:=(Nat.div_lt_iff_lt_mul hR0).2 hn
   have hx:=Nat.mod_lt n hR0
   have hdm:=Nat.div_add_mod n R
   generalize n/R=a at*
   generalize n%R=b at*
   have h1:=fin_next hfi (v:=(a:Int)) (x:=(b:Int)+1) ⟨by omega,by omega⟩ (letters_mem.2 (by omega))
   obtain⟨e,he,hm⟩:=nextV_mem h1
   refine⟨e,he,?_⟩
   unfold mt at hm
   rw[if_pos (by omega)] at hm
   split at hm
   ·rename_i q
    simp only[f]
    rw[q.2,q.1,Int.toNat_natCast,Nat.mul_comm]
    omega
   ·cases hm
 have:=((List.perm_ext_iff_of_nodup hnd List.nodup_range).2 hmem).length_eq
 simpa using this
theorem rank_schr {g:GrD} (hfi:finB g=true):rankF g=schr g.1 g.2.1:=by
 have hc:coreB g=true:=by unfold finB at hfi;simp only[Bool.and_eq_true] at hfi;exact hfi.1
 obtain⟨hg,hf⟩:=core_parts hc
 obtain⟨hr,hsz,_,_⟩:=grB_parts hg
 have he:=fin_edges hfi
 unfold rankF schr
 obtain⟨R,hR⟩: ∃R:Nat,g.1=R:=⟨g.1.toNat,by omega⟩
 obtain⟨N,hN⟩: ∃N:Nat,g.2.1=N:=⟨g.2.1.toNat,by omega⟩
 rw[hR,hN] at he⊢
 rw[Int.toNat_natCast,Int.toNat_natCast] at he
 have i1:inB (R:Int) 1 3=true:=inB_iff.2 (by omega)
 have i2:inB (N:Int) 1 1000=true:=inB_iff.2 (by omega)
 rw[hc,i1,i2,if_pos rfl,if_pos (by decide),he]
 have w1:wrap64 ((R:Int)-1)=(R:Int)-1:=IntWalk.wrap64_in _ ⟨by omega,by omega⟩
 rw[w1]
 have c1:R=1∨R=2∨R=3:=by omega
 have hm:(N:Int)*((R:Int)-1)=((N*R:Nat):Int)-N∧0≤(N:Int)*((R:Int)-1)∧(N:Int)*((R:Int)-1)≤80:=by
  rcases c1 with q | q | q<;>subst q<;>omega
 obtain⟨m1,m2,m3⟩:=hm
 have w2:wrap64 ((N:Int)*((R:Int)-1))=(N:Int)*((R:Int)-1):=IntWalk.wrap64_in _ ⟨by omega,by omega⟩
 rw[w2,IntWalk.wrap64_in _ ⟨by omega,by omega⟩,m1]
end Go.Proofs.YteobmaambgmdbaaGreat
