/- Parts of the proof: PowQ, SortI, OrdM, OrdN, Ctn, Rts, LawE, FrameB. -/
import Derived.Test.YteobmaambgmdbaaGreatP07
import Derived.Test.YteobmaambgmdbaaGreatP06
import Derived.Test.YteobmaambgmdbaaGreatP01
import Derived.Shelf.Slices.In.SortAlone
import Derived.Shelf.Slices.In.SortNone
import Derived.Shelf.Slices.In.Reverse
import Derived.Sort.EveryDepth
import Derived.Lib.RowBridge
import Derived.Test.YteobmaambgmdbaaGreatP03
import Derived.Test.YteobmaambgmdbaaGreatP05
import Derived.Test.YteobmaambgmdbaaGreatP04
namespace Go.Proofs.YteobmaambgmdbaaGreat
set_option maxRecDepth 20000
set_option linter.unusedVariables false
set_option linter.unusedSimpArgs false
open Go.RowKit
theorem red_self2 {w:List Int} (h:redP w):redL [] w=w:=by
 have:=redL_id (acc:= []) (xs:=w) (by simpa using h)
 simpa using this
theorem strip_pos {w:List Int} (h:redP w) (hw: ∀y∈w,Lt3 y) (h0:w≠ []):coreC w≠ []:=fun e=>by
 have hl:=coreC_len w
 rw[e] at hl
 have hle:=stripN_le w
 have hp:0<w.length:=List.length_pos_iff.2 h0
 simp only[List.length_nil] at hl
 have h1:=strip_inv (c:=w) w.length 0 (fun i hi=>by omega) (stripN w-1) (show stripN w-1<stripGo w w.length 0 by show stripN w-1<stripN w;omega)
 have h2:=h (stripN w-1) (by omega)
 rw[show w.length-1-(stripN w-1)=stripN w-1+1 by omega] at h1
 rw[h1] at h2
 cases h2
section
variable {g:GrD} (hg:grB g=true) (hf:Fol g.2.2)
include hg
theorem walk_iff {w:List Int} (hn:NoB w) {v:Int} (hv:0≤v∧v<g.2.1) {u:Int} (hu:0≤u):walkF g.2.2 v w=u↔runS g.2.2 (v,[]) w=(u,[]):=by
 constructor
 ·intro e
  rw[run_walk (by omega),e]
 ·intro e
  rcases Int.lt_or_le (walkF g.2.2 v w) 0 with q | q
  ·have:=run_stop hg hn hv q
   rw[e] at this
   exact absurd rfl this
  ·rw[run_walk q] at e
   injection e
theorem run_top: ∀ {w:List Int} {v:Int},NoB w→(0≤v∧v<g.2.1)→walkF g.2.2 v w<0→ ∃u y r,runS g.2.2 (v,[]) w=(u,y::r)∧w.getLast? =some y
 | [],v,_,hv,h=>by exfalso;have:walkF g.2.2 v []=v:=rfl;omega
 | x::w,v,hn,hv,h=>by
   rw[walkF_cons] at h
   rw[runS_cons]
   by_cases q:nextV g.2.2 v x<0
   ·have e:actS g.2.2 (v,[]) x=(v,[x]):=by unfold actS;simp only;rw[if_pos q]
    rw[e,run_push hn]
    rcases hw:w.reverse with _ | ⟨z,r⟩
    ·have:w= []:=by simpa using hw
     subst this
     exact⟨v,x,[],by simp,rfl⟩
    ·refine⟨v,z,r++ [x],by simp,?_⟩
     have:w=r.reverse++ [z]:=by have:=congrArg List.reverse hw;simpa using this
     rw[this,←List.cons_append,List.getLast?_concat]
   ·have e:actS g.2.2 (v,[]) x=(nextV g.2.2 v x,[]):=by unfold actS;simp only;rw[if_neg q]
    rw[if_neg q] at h
    rw[e]
    have hn':NoB w:=by
     cases w with
     | nil=>trivial
     | cons z w=>exact hn.2
    obtain⟨u,y,r,h1,h2⟩:=run_top (w:=w) hn' (by rcases nextV_range hg v x with z | z<;>omega) h
    refine⟨u,y,r,h1,?_⟩
    cases w with
    | nil=>cases h2
    | cons z w=>rw[List.getLast?_cons_cons];exact h2
omit hg in
theorem NoB.tailP {a:Int} {l:List Int} (h:NoB (a::l)):NoB l:=by
 cases l with
 | nil=>trivial
 | cons b l=>exact h.2
omit hg in
theorem NoB.drop {l:List Int} (h:NoB l): ∀n,NoB (l.drop n)
 | 0=>h
 | n+1=>by
   cases l with
   | nil=>trivial
   | cons a l=>exact NoB.drop h.tailP n
omit hg in
theorem rep_last {c:List Int} (hc:c≠ []): ∀k,1≤k→(repW c k).getLast? =c.getLast?
 | k+1,_=>by
   show(repW c k++c).getLast? =_
   rw[List.getLast?_append]
   cases h:c.getLast? with
   | none=>exact absurd (List.getLast?_eq_none_iff.1 h) hc
   | some z=>rfl
omit hg in
theorem rep_noB {c:List Int} (hc:cycP c) (hw: ∀y∈c,Lt3 y) (hn:NoB c) (h0:c≠ []): ∀k,NoB (repW c k)
 | 0=>trivial
 | k+1=>by
   show NoB (repW c k++c)
   refine NoB.app (rep_noB hc hw hn h0 k) hn fun x hx y hy e=> ?_
   rcases Nat.eq_zero_or_pos k with q | q
   ·subst q;simp[repW] at hx
   ·rw[rep_last h0 k q] at hx
    have hp:0<c.length:=List.length_pos_iff.2 h0
    have ex:x=c.getD (c.length-1) 0:=by
     rw[List.getLast?_eq_getElem?] at hx
     rw[List.getD_eq_getElem?_getD,show c[c.length-1]? =some x from hx];rfl
    have ey:y=c.getD 0 0:=by
     rw[List.head?_eq_getElem?] at hy
     rw[List.getD_eq_getElem?_getD,show c[0]? =some y from hy];rfl
    have hx3:Lt3 x:=hw x (List.mem_of_getLast? hx)
    have hy3:Lt3 y:=hw y (List.mem_of_head? hy)
    rcases Nat.lt_or_ge c.length 2 with z | z
    ·have:x=y:=by rw[ex,ey];congr 1;omega
     have h1:=hx3.2.2
     omega
    ·have h1:=hc.2 z
     rw[←ey,←ex] at h1
     have h2:invB y x=true:=(Lt3.inv hy3).2 (by omega)
     rw[h1] at h2;cases h2
include hf
theorem pow_core (hc:coreB g=true) {w:List Int} (hw:wordB g.1 w=true):
  (powF g w=0∧ ∀j,1≤j→j≤g.2.1.toNat→itS g.2.2 w j (0,[])≠(0,[]))∨
  (∃n:Nat,powF g w=n∧1≤n∧n≤g.2.1.toNat∧itS g.2.2 w n (0,[])=(0,[])∧ ∀j,1≤j→j<n→itS g.2.2 w j (0,[])≠(0,[])):=by
 obtain⟨_,hsz,_,_⟩:=grB_parts hg
 have hrp:=wordB_redP hw
 have h3:=wordB_lt3 hw
 have hrs:=red_self2 hrp
 have e:powF g w=if w= [] then 1 else if walkF g.2.2 0 (w.take (stripN w))<0 then 0 else powGo g.2.2 (coreC w) (walkF g.2.2 0 (w.take (stripN w))) g.2.1.toNat (walkF g.2.2 0 (w.take (stripN w))) 1:=by
  unfold powF coreF prefF
  rw[hrs,hrs,hc,hw]
  rfl
 by_cases h0:w= []
 ·rw[if_pos h0] at e
  subst h0
  exact .inr ⟨1,e,by omega,by omega,rfl,fun j h1 h2=>by omega⟩
 rw[if_neg h0] at e
 have hsp:=core_split (x:=w) h3
 have hcy:=coreC_cyc hrp
 have hc0:=strip_pos hrp h3 h0
 have hp3: ∀y∈w.take (stripN w),Lt3 y:=fun y hy=>h3 y (List.mem_of_mem_take hy)
 have hc3: ∀y∈coreC w,Lt3 y:=fun y hy=>h3 y (List.mem_of_mem_take (List.mem_of_mem_drop hy))
 have hcn:NoB (coreC w):=noB_of_red hcy.1 hc3
 have hpn:NoB (w.take (stripN w)):=noB_of_red (redP_take hrp _) hp3
 have hnw:NoB w:=noB_of_red hrp h3
 have hok:okS g ((0:Int),([]:List Int)):=⟨⟨by simp only;omega,by simp only;omega⟩,trivial⟩
 have key: ∀k,itS g.2.2 w k (0,[])=(0,[])↔itS g.2.2 (coreC w) k (runS g.2.2 (0,[]) (w.take (stripN w)))=runS g.2.2 (0,[]) (w.take (stripN w)):=fun k=>by
  have:=it_conj_fix hg hf hp3 hc3 hok k
  rw[←hsp] at this
  exact this
 by_cases hv:walkF g.2.2 0 (w.take (stripN w))<0
 ·rw[if_pos hv] at e
  refine .inl ⟨e,fun j h1 _=> ?_⟩
  rw[Ne,key j]
  obtain⟨u,y,r,h4,h5⟩:=run_top hg hpn ⟨by omega,by omega⟩ hv
  rw[h4,←rep_run]
  have hy:NoB (y::repW (coreC w) j):=by
   have hy3:Lt3 y:=hp3 y (List.mem_of_getLast? h5)
   refine NoB.app (a:= [y]) trivial (rep_noB hcy hc3 hcn hc0 j) fun x hx z hz ez=> ?_
   have ex:x=y:=by simpa using hx.symm
   subst ex
   obtain⟨j,rfl⟩: ∃i,j=i+1:=⟨j-1,by omega⟩
   have hz':(coreC w).head? =some z:=by
    have:repW (coreC w) (j+1)=coreC w++repW (coreC w) j:=by
     rw[show j+1=1+j by omega,repW_add];rfl
    rw[this] at hz
    cases hcc:coreC w with
    | nil=>exact absurd hcc hc0
    | cons a l=>rw[hcc] at hz;simpa using hz
   have hs1:0<stripN w:=by
    rcases Nat.eq_zero_or_pos (stripN w) with q | q
    ·rw[q] at h5;simp at h5
    ·exact q
   have hle:=stripN_le w
   have hcl:=coreC_len w
   have hcp:0<(coreC w).length:=List.length_pos_iff.2 hc0
   have e1:x=w.getD (stripN w-1) 0:=by
    rw[List.getLast?_eq_getElem?,List.length_take,Nat.min_eq_left (by omega),List.getElem?_take_of_lt (by omega)] at h5
    rw[List.getD_eq_getElem?_getD,h5];rfl
   have e2:z=w.getD (stripN w) 0:=by
    have:=coreC_getD w 0 (by omega)
    rw[Nat.add_zero] at this
    rw[←this,List.getD_eq_getElem?_getD,←List.head?_eq_getElem?,hz'];rfl
   have h6:=hrp (stripN w-1) (by omega)
   rw[show stripN w-1+1=stripN w by omega,←e1,←e2] at h6
   have h7:invB x z=true:=(Lt3.inv hy3).2 ez
   rw[h6] at h7;cases h7
  rw[run_push hy]
  intro q
  injection q with _ q
  have:=congrArg List.length q
  have hr:(repW (coreC w) j).length=j*(coreC w).length:=repW_len _ _
  have hcp:0<(coreC w).length:=List.length_pos_iff.2 hc0
  have:0<j*(coreC w).length:=Nat.mul_pos (by omega) hcp
  simp only[List.length_append,List.length_reverse,List.length_cons] at*
  omega
 ·rw[if_neg hv] at e
  have ht:=run_walk (g:=g) (w:=w.take (stripN w)) (v:=0) (by omega)
  rw[ht] at key
  have hvr:0≤walkF g.2.2 0 (w.take (stripN w))∧walkF g.2.2 0 (w.take (stripN w))<g.2.1:=by
   rcases walkF_range hg (w.take (stripN w)) 0 ⟨by omega,by omega⟩ with q | q
   ·omega
   ·exact q
  generalize walkF g.2.2 0 (w.take (stripN w))=v at*
  have key2: ∀k,itS g.2.2 w k (0,[])=(0,[])↔walkF g.2.2 v (repW (coreC w) k)=v:=fun k=>by
   rw[key k,←rep_run,walk_iff hg (rep_noB hcy hc3 hcn hc0 k) hvr hvr.1]
  have hgo:=powGo_spec (es:=g.2.2) (c:=coreC w) hvr.1 g.2.1.toNat v 1 (Nat.le_refl _) hvr.1 rfl
  rcases hgo with ⟨q,hq⟩ | ⟨n,h1,h2,q,h4,h5⟩
  ·exact .inl ⟨e.trans q,fun j h1 h2=>by rw[Ne,key2];exact hq j h1 (by omega)⟩
  ·exact .inr ⟨n,e.trans q,h1,by omega,(key2 n).2 h4,fun j h1 h2=>by rw[Ne,key2];exact h5 j h1 h2⟩
theorem pow_iff (hc:coreB g=true) {w:List Int} (hw:wordB g.1 w=true) {k:Nat} (h1:1≤k) (hk:k≤g.2.1.toNat):
  walkF g.2.2 0 (redL [] (repW w k))=0↔(0<powF g w∧k%(powF g w).toNat=0):=by
 obtain⟨_,hsz,_,_⟩:=grB_parts hg
 have h3:=wordB_lt3 hw
 have hok:okS g ((0:Int),([]:List Int)):=⟨⟨by simp only;omega,by simp only;omega⟩,trivial⟩
 rw[loop_iff hg hf (fun y hy=>h3 y (repW_mem hy)) ⟨by omega,by omega⟩ (by omega),rep_run]
 rcases pow_core hg hf hc hw with ⟨e,h⟩ | ⟨n,e,h2,h4,h5,h6⟩
 ·rw[e]
  constructor
  ·intro q;exact absurd q (h k h1 hk)
  ·rintro⟨q,_⟩;omega
 ·rw[e,it_least (by omega) h5 h6,Int.toNat_natCast]
  exact⟨fun q=>⟨by omega,q⟩,fun q=>q.2⟩
end
theorem fin_next {g:GrD} (hfi:finB g=true) {v x:Int} (hv:0≤v∧v<g.2.1) (hx:x∈lettersL g.1.toNat):0≤nextV g.2.2 v x:=by
 unfold finB at hfi
 simp only[Bool.and_eq_true,decide_eq_true_eq] at hfi
 have h0:misU g g.2.1.toNat= []:=List.eq_nil_of_length_eq_zero hfi.2
 have key: ∀n:Nat,misU g n= []→ ∀k:Nat,k<n→misV g (k:Int) (lettersL g.1.toNat)= []:=by
  intro n
  induction n with
  | zero=>intro _ k hk;omega
  | succ n ih=>
    intro h k hk
    unfold misU at h
    obtain⟨ha,hb⟩:=List.append_eq_nil_iff.1 h
    rcases Nat.lt_or_ge k n with q | q
    ·exact ih ha k q
    ·have:k=n:=by omega
     subst this;exact hb
 have:=key _ h0 v.toNat (by omega)
 rw[Int.toNat_of_nonneg hv.1] at this
 unfold misV at this
 rw[List.map_eq_nil_iff,List.filter_eq_nil_iff] at this
 have:=this x hx
 simp at this
 exact this
theorem fin_walk {g:GrD} (hg:grB g=true) (hfi:finB g=true): ∀ {w:List Int} {v:Int},(0≤v∧v<g.2.1)→(∀x∈w,x∈lettersL g.1.toNat)→0≤walkF g.2.2 v w∧walkF g.2.2 v w<g.2.1
 | [],v,hv,_=>hv
 | x::w,v,hv,hw=>by
   have h1:=fin_next hfi hv (hw x (by simp))
   have h2:=nextV_range hg v x
   rw[walkF_cons,if_neg (by omega)]
   exact fin_walk hg hfi (by omega) fun y hy=>hw y (by simp[hy])
theorem word_letters {r:Int} {w:List Int} (hw:wordB r w=true): ∀x∈w,x∈lettersL r.toNat:=fun x hx=>by
 have h1:=wordB_rank hw
 have h2:=wordB_let hw hx
 unfold letB at h2
 rw[show wrap64 (-r)= -r from IntWalk.wrap64_in _ ⟨by omega,by omega⟩] at h2
 simp only[Bool.and_eq_true,inB_iff] at h2
 have h3:x≠0:=by simpa using h2.1
 exact letters_mem.2 (by omega)
theorem pow_fin {g:GrD} (hg:grB g=true) (hf:Fol g.2.2) (hfi:finB g=true) {w:List Int} (hw:wordB g.1 w=true):
  1≤powF g w∧ ∀m:Nat,walkF g.2.2 0 (repW w m)=0→m%(powF g w).toNat=0:=by
 have hc:coreB g=true:=by unfold finB at hfi;simp only[Bool.and_eq_true] at hfi;exact hfi.1
 obtain⟨_,hsz,_,_⟩:=grB_parts hg
 have h3:=wordB_lt3 hw
 have hlt:=word_letters hw
 have hok:okS g ((0:Int),([]:List Int)):=⟨⟨by simp only;omega,by simp only;omega⟩,trivial⟩
 have hst: ∀k,0≤walkF g.2.2 0 (repW w k)∧walkF g.2.2 0 (repW w k)<g.2.1:=fun k=>fin_walk hg hfi ⟨by omega,by omega⟩ fun x hx=>hlt x (repW_mem hx)
 have hit: ∀k,itS g.2.2 w k (0,[])=(walkF g.2.2 0 (repW w k),[]):=fun k=>by rw[←rep_run,run_walk (hst k).1]
 rcases pow_core hg hf hc hw with ⟨e,h⟩ | ⟨n,e,h2,h4,h5,h6⟩
 ·exfalso
  have hnd:((List.range (g.2.1.toNat+1)).map fun k=>walkF g.2.2 0 (repW w k)).Nodup:=by
   rw[List.nodup_iff_pairwise_ne,List.pairwise_map]
   refine List.Pairwise.imp_of_mem ?_ (List.pairwise_lt_range)
   intro a b ha hb hab q
   have ha':=List.mem_range.1 ha
   have hb':=List.mem_range.1 hb
   obtain⟨d,rfl⟩: ∃d,b=a+d:=⟨b-a,by omega⟩
   refine h d (by omega) (by omega) (it_cancel hg hf h3 hok (a:=a) ?_)
   rw[hit,hit,←q]
  have:=nodup_len g.2.1.toNat _ hnd fun y hy=>by
   obtain⟨k,_,rfl⟩:=List.mem_map.1 hy
   have:=hst k
   omega
  simp at this
  omega
 ·refine⟨by omega,fun m hm=> ?_⟩
  rw[e,Int.toNat_natCast,←it_least (by omega) h5 h6,hit,hm]
end Go.Proofs.YteobmaambgmdbaaGreat
namespace Go.Proofs.YteobmaambgmdbaaGreat
set_option maxRecDepth 20000
set_option linter.unusedVariables false
set_option linter.unusedSimpArgs false
open Go.RowKit Go.Shelf Go.Lib Go.Sort
def Tryz.laysSort_ren:Go.Shelf.Ren:=⟨fun | 189=>145 | 125=>161 | 257=>160 | 128=>178 | 129=>179 | 294=>169 | 295=>170 | 296=>171 | 297=>172 | 298=>173 | 299=>174 | 216=>175 | 300=>176 | 301=>177 | 328=>187 | 329=>188 | 330=>189 | 331=>190 | 332=>191 | 215=>192 | 343=>204 | n=>n,fun | 28=>27 | 3=>3 | 46=>118 | 0=>0 | 51=>145 | 53=>147 | 4=>4 | 183=>139 | 182=>138 | 131=>71 | 5=>5 | 9=>9 | 218=>152 | 222=>156 | 228=>165 | 229=>51 | n=>n,fun | n=>n⟩
theorem Tryz.laysSort:Go.Proofs.Lays.n189 Tryz.prog Tryz.laysSort_ren:= {
 mixed:=by kernel_rfl,
 f125:=Tryz.func161.trans (congrArg some (by kernel_rfl)),
 f128:=Tryz.func178.trans (congrArg some (by kernel_rfl)),
 f129:=Tryz.func179.trans (congrArg some (by kernel_rfl)),
 f189:=Tryz.func145.trans (congrArg some (by kernel_rfl)),
 f215:=Tryz.func192.trans (congrArg some (by kernel_rfl)),
 f216:=Tryz.func175.trans (congrArg some (by kernel_rfl)),
 f257:=Tryz.func160.trans (congrArg some (by kernel_rfl)),
 f294:=Tryz.func169.trans (congrArg some (by kernel_rfl)),
 f295:=Tryz.func170.trans (congrArg some (by kernel_rfl)),
 f296:=Tryz.func171.trans (congrArg some (by kernel_rfl)),
 f297:=Tryz.func172.trans (congrArg some (by kernel_rfl)),
 f298:=Tryz.func173.trans (congrArg some (by kernel_rfl)),
 f299:=Tryz.func174.trans (congrArg some (by kernel_rfl)),
 f300:=Tryz.func176.trans (congrArg some (by kernel_rfl)),
 f301:=Tryz.func177.trans (congrArg some (by kernel_rfl)),
 f328:=Tryz.func187.trans (congrArg some (by kernel_rfl)),
 f329:=Tryz.func188.trans (congrArg some (by kernel_rfl)),
 f330:=Tryz.func189.trans (congrArg some (by kernel_rfl)),
 f331:=Tryz.func190.trans (congrArg some (by kernel_rfl)),
 f332:=Tryz.func191.trans (congrArg some (by kernel_rfl)),
 f343:=Tryz.func204.trans (congrArg some (by kernel_rfl)),
 t0:=Tryz.underlying0,
 a0:=Tryz.isAgg0,
 z0:=Tryz.sizeOf0,
 v0:=Tryz.zeroValue0,
 t3:=Tryz.underlying3,
 a3:=Tryz.isAgg3,
 z3:=Tryz.sizeOf3,
 v3:=Tryz.zeroValue3,
 t4:=Tryz.underlying4,
 a4:=Tryz.isAgg4,
 z4:=Tryz.sizeOf4,
 v4:=Tryz.zeroValue4,
 t5:=Tryz.underlying5,
 a5:=Tryz.isAgg5,
 z5:=Tryz.sizeOf5,
 v5:=Tryz.zeroValue5,
 t9:=Tryz.underlying9,
 a9:=Tryz.isAgg9,
 z9:=Tryz.sizeOf9,
 v9:=Tryz.zeroValue9,
 t28:=Tryz.underlying27,
 a28:=Tryz.isAgg27,
 z28:=Tryz.sizeOf27,
 v28:=Tryz.zeroValue27,
 t46:=Tryz.underlying118,
 a46:=Tryz.isAgg118,
 z46:=Tryz.sizeOf118,
 v46:=Tryz.zeroValue118,
 t51:=Tryz.underlying145,
 a51:=Tryz.isAgg145,
 z51:=Tryz.sizeOf145,
 v51:=Tryz.zeroValue145,
 t53:=Tryz.underlying147,
 a53:=Tryz.isAgg147,
 z53:=Tryz.sizeOf147,
 v53:=Tryz.zeroValue147,
 t131:=Tryz.underlying71,
 a131:=Tryz.isAgg71,
 z131:=Tryz.sizeOf71,
 v131:=Tryz.zeroValue71,
 t182:=Tryz.underlying138,
 a182:=Tryz.isAgg138,
 z182:=Tryz.sizeOf138,
 v182:=Tryz.zeroValue138,
 t183:=Tryz.underlying139,
 a183:=Tryz.isAgg139,
 z183:=Tryz.sizeOf139,
 v183:=Tryz.zeroValue139,
 t218:=Tryz.underlying152,
 a218:=Tryz.isAgg152,
 z218:=Tryz.sizeOf152,
 v218:=Tryz.zeroValue152,
 t222:=Tryz.underlying156,
 a222:=Tryz.isAgg156,
 z222:=Tryz.sizeOf156,
 v222:=Tryz.zeroValue156,
 t228:=Tryz.underlying165,
 a228:=Tryz.isAgg165,
 z228:=Tryz.sizeOf165,
 v228:=Tryz.zeroValue165,
 t229:=Tryz.underlying51,
 a229:=Tryz.isAgg51,
 z229:=Tryz.sizeOf51,
 v229:=Tryz.zeroValue51}
def Tryz.laysRev_ren:Go.Shelf.Ren:=⟨fun | 112=>146 | n=>n,fun | 28=>27 | 3=>3 | 4=>4 | 0=>0 | n=>n,fun | n=>n⟩
theorem Tryz.laysRev:Go.Proofs.Lays.n112 Tryz.prog Tryz.laysRev_ren:= {
 mixed:=by kernel_rfl,
 f112:=Tryz.func146.trans (congrArg some (by kernel_rfl)),
 t0:=Tryz.underlying0,
 a0:=Tryz.isAgg0,
 z0:=Tryz.sizeOf0,
 v0:=Tryz.zeroValue0,
 t3:=Tryz.underlying3,
 a3:=Tryz.isAgg3,
 z3:=Tryz.sizeOf3,
 v3:=Tryz.zeroValue3,
 t4:=Tryz.underlying4,
 a4:=Tryz.isAgg4,
 z4:=Tryz.sizeOf4,
 v4:=Tryz.zeroValue4,
 t28:=Tryz.underlying27,
 a28:=Tryz.isAgg27,
 z28:=Tryz.sizeOf27,
 v28:=Tryz.zeroValue27}
theorem OwI.holdsI {w:World} {base g n cap:Nat} {xs:List Int} (h:OwI w base (.slice (some ⟨g,0,none⟩) n cap) xs):Holds (Value.int .i64) w g 0 xs.toArray:=fun j hj=>by
 have hj':j<xs.length:=by simpa using hj
 rw[Nat.zero_add]
 refine⟨?_,h.free j⟩
 rw[h.cellAt j hj',getElem!_pos xs.toArray j hj]
 simp
theorem rowI_put {w:World} {base g n cap:Nat} {xs:List Int} (h:OwI w base (.slice (some ⟨g,0,none⟩) n cap) xs) (ys:List Int) (hy:ys.length=xs.length) (hI:I64s ys) (q:Nat) (os:Array Obj):
  OwI (grow (putRow (Value.int .i64) (Sort.ahead w q) g 0 ys.toArray) os) base (.slice (some ⟨g,0,none⟩) n cap) ys∧w.grownBy (grow (putRow (Value.int .i64) (Sort.ahead w q) g 0 ys.toArray) os) (some g):=by
 have hlt:=(h.1.lt g rfl).2
 have hheap: ∀b,b<w.heap.size→(grow (putRow (Value.int .i64) (Sort.ahead w q) g 0 ys.toArray) os).heap[b]? =if g=b then(w.heap[b]?).map (onCells (putCells (Value.int .i64) 0 ys.toArray)) else w.heap[b]? :=by
  intro b hb
  show((w.heap.modify g (onCells (putCells (Value.int .i64) 0 ys.toArray)))++os)[b]? =_
  rw[Array.getElem?_append_left (by simpa using hb),Array.getElem?_modify]
 refine⟨⟨⟨by simp[ints],?_⟩,hI⟩,rfl,rfl,rfl,?_,fun b hb hne=> ?_⟩
 ·rcases h.1.2 with ⟨hv,_⟩ | ⟨g',cap',cur,hv,hg,hh,hnc,hcm,hcs,htake⟩
  ·cases hv
  ·injection hv with e1 e2 e3
   injection e1 with e1
   injection e1 with e1
   subst e1 e2 e3
   refine .inr ⟨g,cap,putCells (Value.int .i64) 0 ys.toArray cur,by simp[hy],hg,?_,by rw[hy];exact hnc,hcm,by simp[putCells,hcs],?_⟩
   ·rw[hheap g hlt,if_pos rfl,hh]
    rfl
   ·apply List.ext_getElem?
    intro j
    rw[List.getElem?_take]
    split
    ·rename_i hj
     have hj2:j<ys.length:=by simpa[ints] using hj
     have hjc:j<cur.size:=by rw[hcs];omega
     rw[Array.getElem?_toList]
     simp only[putCells,Array.getElem?_mapIdx]
     rw[Array.getElem?_eq_getElem hjc]
     simp only[Option.map_some,Nat.zero_le,true_and,Nat.zero_add,Nat.sub_zero]
     rw[if_pos (by simpa using hj2),getElem!_pos ys.toArray j (by simpa using hj2)]
     simp[ints,hj2]
    ·rename_i hj
     have hj2:ys.length≤j:=by simpa[ints] using hj
     rw[List.getElem?_eq_none (by simpa[ints] using hj2)]
 ·show w.heap.size≤((w.heap.modify g (onCells (putCells (Value.int .i64) 0 ys.toArray)))++os).size
  simp
 ·rw[hheap b hb,if_neg (fun e=>hne (by rw[e]))]
theorem sortI_any (g n cap base:Nat) (xs:List Int) (w:World) (h:OwI w base (.slice (some ⟨g,0,none⟩) n cap) xs) (hl:xs.length≤1073741824):
  Calls Tryz.prog 145 #[.slice (some ⟨g,0,none⟩) n cap] w fun e w'=>e= .returned (.tuple #[])∧ ∃ys,OwI w' base (.slice (some ⟨g,0,none⟩) n cap) ys∧ys.Perm xs∧w.grownBy w' (some g):=by
 have hn:n=xs.length:=by
  rcases h.1.2 with ⟨hv,_⟩ | ⟨g',cap',cur,hv,_⟩
  ·cases hv
  ·injection hv
 subst hn
 have hcon:=calls_of_every_depth fun D=>AnyS.slices_Sort_int_alone Tryz.laysSort D g 0 cap xs w h.holdsI (h.1.lt g rfl).2 (by omega)
 change Calls Tryz.prog 145 _ _ _ at hcon
 refine hcon.mono ?_
 rintro e w' ⟨rfl,q,os,rfl⟩
 have hp:(xs.mergeSort fun x y=>decide (x≤y)).Perm xs:=List.mergeSort_perm _ _
 obtain⟨o,gr⟩:=rowI_put h (xs.mergeSort fun x y=>decide (x≤y)) hp.length_eq (fun y hy=>h.2 y (hp.mem_iff.1 hy)) q os
 exact⟨rfl,_,o,hp,gr⟩
theorem revI_any (g n cap base:Nat) (xs:List Int) (w:World) (h:OwI w base (.slice (some ⟨g,0,none⟩) n cap) xs) (hl:xs.length≤1073741824):
  Calls Tryz.prog 146 #[.slice (some ⟨g,0,none⟩) n cap] w fun e w'=>e= .returned (.tuple #[])∧OwI w' base (.slice (some ⟨g,0,none⟩) n cap) xs.reverse∧w.grownBy w' (some g):=by
 have hn:n=xs.length:=by
  rcases h.1.2 with ⟨hv,_⟩ | ⟨g',cap',cur,hv,_⟩
  ·cases hv
  ·injection hv
 subst hn
 have hcon:=calls_of_every_depth fun D=>AnyS.slices_Reverse_int_in Tryz.laysRev D g 0 cap xs w h.holdsI (by omega)
 change Calls Tryz.prog 146 _ _ _ at hcon
 refine hcon.mono ?_
 rintro e w' ⟨rfl,q,rfl⟩
 obtain⟨o,gr⟩:=rowI_put h xs.reverse (by simp) (fun y hy=>h.2 y (by simpa using hy)) q #[]
 rw[grow_empty] at o gr
 exact⟨rfl,o,gr⟩
end Go.Proofs.YteobmaambgmdbaaGreat
namespace Go.Proofs.YteobmaambgmdbaaGreat
set_option maxRecDepth 20000
set_option linter.unusedVariables false
set_option linter.unusedSimpArgs false
open Go.RowKit
def PermP (p:List Int):Prop:=(∀y∈p,0≤y∧y<p.length)∧p.Nodup∧p.length≤40∧0<p.length
def pwN (p:List Int):Nat→Nat→Nat
 | 0,x=>x
 | m+1,x=>(p.getD (pwN p m x) 0).toNat
theorem getD_pAt {p:List Int} {x:Nat} (h:x<p.length):p.getD x 0=p[x]:=by rw[List.getD_eq_getElem?_getD,List.getElem?_eq_getElem h];rfl
theorem pwN_lt {p:List Int} (h:PermP p) {x:Nat} (hx:x<p.length): ∀m,pwN p m x<p.length
 | 0=>hx
 | m+1=>by
   have h1:=pwN_lt h hx m
   have h2:=h.1 _ (List.getElem_mem h1)
   show(p.getD (pwN p m x) 0).toNat<p.length
   rw[getD_pAt h1]
   omega
theorem nodup_injP {p:List Int} (h:p.Nodup) {a b:Nat} (ha:a<p.length) (hb:b<p.length) (e:p[a]=p[b]):a=b:=by
 rcases Nat.lt_trichotomy a b with q | q | q
 ·exact absurd e (List.pairwise_iff_getElem.1 h a b ha hb q)
 ·exact q
 ·exact absurd e.symm (List.pairwise_iff_getElem.1 h b a hb ha q)
theorem perm_inj {p:List Int} (h:PermP p) {a b:Nat} (ha:a<p.length) (hb:b<p.length) (e:(p.getD a 0).toNat=(p.getD b 0).toNat):a=b:=by
 rw[getD_pAt ha,getD_pAt hb] at e
 have h1:=h.1 _ (List.getElem_mem ha)
 have h2:=h.1 _ (List.getElem_mem hb)
 exact nodup_injP h.2.1 ha hb (show p[a]=p[b] by omega)
theorem orb_close {p:List Int} (h:PermP p) {n j:Nat} (hd: ∀a b,a<b→b<n→pwN p a 0≠pwN p b 0) (hj:j<n) (e:pwN p n 0=pwN p j 0):pwN p n 0=0:=by
 rcases j with _ | j
 ·exact e
 ·obtain⟨n,rfl⟩: ∃k,n=k+1:=⟨n-1,by omega⟩
  exfalso
  have:=perm_inj h (pwN_lt h h.2.2.2 n) (pwN_lt h h.2.2.2 j) e
  exact hd j n (by omega) (by omega) this.symm
def sN (l:List Int):Nat:=(l.map Int.toNat).sum
theorem sN_perm {l l':List Int} (h:l.Perm l'):sN l=sN l':=(h.map _).sum_nat
theorem sN_snoc (l:List Int) (c:Int):sN (l++ [c])=sN l+c.toNat:=by unfold sN;simp
theorem sN_take (l:List Int) (k:Nat):sN (l.take k)≤sN l:=by
 unfold sN
 conv=>rhs;rw[←List.take_append_drop k l,List.map_append,List.sum_append]
 omega
theorem OwB.notI {W:World} {base base':Nat} {v u:Value} {bs:List Bool} {xs:List Int} (h:OwB W base v bs) (h':OwI W base' u xs) {b:Nat} (h1:v.ownBlock=some b) (h2:u.ownBlock=some b):False:=by
 rcases h.2 with ⟨hv,_⟩ | ⟨g,cap,cur,hv,_,hh,_⟩
 ·rw[hv] at h1;cases h1
 ·rcases h'.1.2 with ⟨hv',_⟩ | ⟨g',cap',cur',hv',_,hh',_⟩
  ·rw[hv'] at h2;cases h2
  ·rw[hv] at h1
   rw[hv'] at h2
   have e1:g=b:=by simpa[Value.ownBlock] using h1
   have e2:g'=b:=by simpa[Value.ownBlock] using h2
   subst e1;subst e2
   rw[hh] at hh'
   injection hh' with hq
   injection hq with _ e2 _
   exact absurd e2 (by decide)
theorem OwB.keptP {w w':World} {base:Nat} {v:Value} {bs:List Bool} {row:Option Nat} (h:OwB w base v bs) (hg:w.grownBy w' row) (hne:v.ownBlock=none∨v.ownBlock≠row):OwB w' base v bs:=World.ownsRow.kept h hg hne
theorem OwB.allocP {w:World} {base:Nat} {v:Value} {bs:List Bool} (h:OwB w base v bs) (o:Obj):OwB (w.alloc o) base v bs:=World.ownsRow.alloc h o
theorem count_setT: ∀ {bs:List Bool} {x:Nat} (h:x<bs.length),bs[x]=false→(bs.set x true).count false+1=bs.count false
 | b::bs,0,_,e=>by
   simp only[List.getElem_cons_zero] at e
   subst e
   simp
 | b::bs,x+1,h,e=>by
   have:=count_setT (bs:=bs) (x:=x) (by simpa using h) (by simpa using e)
   simp only[List.set_cons_succ,List.count_cons]
   omega
theorem len_sN: ∀ {l:List Int},(∀c∈l,1≤c)→l.length≤sN l
 | [],_=>by simp
 | a::l,h=>by
   have h1:=h a List.mem_cons_self
   have h2:=len_sN (l:=l) fun c hc=>h c (List.mem_cons_of_mem _ hc)
   unfold sN at*
   simp only[List.map_cons,List.sum_cons,List.length_cons]
   omega
def OrbP (p:List Int) (n x:Nat) (bs:List Bool):Prop:=x=pwN p n 0∧(∀a b,a<b→b<n→pwN p a 0≠pwN p b 0)∧(∀y:Nat,bs[y]? =some true→ ∃j,j<n∧pwN p j 0=y)∧(∀j,j<n→bs[pwN p j 0]? =some true)
theorem OrbP.start (p:List Int):OrbP p 0 0 (List.replicate p.length false):=by
 refine⟨rfl,fun a b _ h=>by omega,fun y hy=> ?_,fun j h=>by omega⟩
 rw[List.getElem?_replicate] at hy
 split at hy
 ·cases hy
 ·cases hy
theorem OrbP.step {p:List Int} {n x:Nat} {bs:List Bool} (h:OrbP p n x bs) (hp:PermP p) (hx:x<bs.length) (e:bs[x]=false):OrbP p (n+1) (p.getD x 0).toNat (bs.set x true):=by
 obtain⟨h1,h2,h3,h4⟩:=h
 have h4': ∀j,j<n→pwN p j 0≠x:=fun j hj q=>by
  have:=h4 j hj
  rw[q,List.getElem?_eq_getElem hx,e] at this
  cases this
 refine⟨by rw[h1];rfl,fun a b hab hb=> ?_,fun y hy=> ?_,fun j hj=> ?_⟩
 ·rcases Nat.lt_or_ge b n with q | q
  ·exact h2 a b hab q
  ·have:b=n:=by omega
   subst this
   rw[←h1]
   exact h4' a hab
 ·by_cases q:y=x
  ·exact⟨n,by omega,by rw[q,h1]⟩
  ·rw[List.getElem?_set_ne (fun z=>q z.symm)] at hy
   obtain⟨j,h5,h6⟩:=h3 y hy
   exact⟨j,by omega,h6⟩
 ·rcases Nat.lt_or_ge j n with q | q
  ·rw[List.getElem?_set_ne (fun z=>h4' j q z.symm)]
   exact h4 j q
  ·have:j=n:=by omega
   subst this
   rw[←h1,List.getElem?_set_self hx]
theorem OrbP.done {p:List Int} {n x:Nat} {bs:List Bool} (h:OrbP p n x bs) (hp:PermP p) (hx:x<bs.length) (e:bs[x]=true):1≤n∧pwN p n 0=0:=by
 obtain⟨h1,h2,h3,h4⟩:=h
 obtain⟨j,hj,h5⟩:=h3 x (by rw[List.getElem?_eq_getElem hx,e])
 exact⟨by omega,orb_close hp h2 hj (by rw[h5,h1])⟩
set_option maxHeartbeats 2000000 in
theorem isPerm_any (v:Value) (p:List Int) (w:World) (h:RdI w v p) (hp:PermP p):
  Calls Tryz.prog 115 #[v] w fun e w'=>e= .returned (.bool true)∧Below w.heap.size w w':=by
 have H:=hDD h
 have HP:=hDD hp
 obtain⟨_,_,h40,h0⟩:=hp
 obtain⟨A,cap,rfl,hcap,hm,_⟩:=h.arg
 obtain⟨lb,off,rfl,hlb,_⟩:=h.at h0
 unfold maxLen at hm
 clear h
 have HN:Hid (∃N,N=p.length):=hDD ⟨_,rfl⟩
 have h40I: ¬(40:Int)<(p.length:Int):=by omega
 have hwn:IntKind.i64.wrap ((p.length:Int)-1)=(p.length:Int)-1:=by rw[IntKind.wrap_i64];omega
 go_enter Tryz.func115,Tryz.ntmps115
 obtain⟨i0,hi0,hz0,hz1,hz2⟩:=info_parts bool_info
 go_wp2_with (at_make;refine wpList_make_full _ rfl _ _ 112 rfl w.heap.size 4 i0 (.bool false) 1 Tryz.underlying112 hi0 hz0 hz1 _ _ _ _ p.length rfl rfl rfl rfl (by rw[hz2];omega) (by unfold maxLen;omega) (Nat.le_refl _) ?_)
 intro w2 hown0 hgrow0
 have own0:OwB w2 w.heap.size (.slice (some ⟨w.heap.size,0,none⟩) p.length p.length) (List.replicate p.length false):=by
  unfold OwB
  rw[List.length_replicate]
  have:bools (List.replicate p.length false)=List.replicate p.length (Value.bool false):=by simp[bools]
  rw[this]
  simpa[toList_madeCells_one] using hown0
 have O0:=hDD own0
 have B0:Hid (Below w.heap.size w w2):=hDD ((Below.refl _ _).grown hgrow0 (Nat.le_refl _) (fun k h=>by cases h))
 clear hown0 hgrow0 own0
 go_wp2
 go_loopw [14] (fun iv wr=> ∃(k:Nat) (bs:List Bool),k≤p.length∧iv= .int .i64 k∧bs.length=p.length∧(∀j:Nat,bs[j]? =some true→(j:Int)∈p.take k)∧OwB wr w.heap.size (.slice (some ⟨w.heap.size,0,none⟩) p.length p.length) bs∧Below w.heap.size w wr) (fun iv _=>p.length-(intOf iv).toNat)
 case atStart=>exact⟨0,_,Nat.zero_le _,rfl,by simp,(fun j hj=>by
  rw[List.getElem?_replicate] at hj
  split at hj
  ·cases hj
  ·cases hj),O0.out,B0.out⟩
 case round=>
  obtain⟨k,bs,hk,rfl,hbl,hin,hO,hB⟩:=hrel
  have HIN:=hDD hin
  have HO:=hDD hO
  have HB:=hDD hB
  have HBL:=hDD hbl
  clear hin hO hB
  by_cases hlt:k<p.length
  ·have hkI:(k:Int)<(p.length:Int):=by omega
   obtain⟨lb',off',e1,_,hc⟩:=(H.out.below HB.out).at h0
   injection e1 with e1
   injection e1 with e1 e2
   subst e1;subst e2
   have hcell:=hc k hlt
   have hx:=HP.out.1 _ (List.getElem_mem hlt)
   have HT:Hid (p.take (k+1)=p.take k++ [p[k]]):=hDD (List.take_succ_eq_append_getElem hlt)
   have HNI:Hid (p[k]∉p.take k):=hDD fun hm=>by
    obtain⟨i,hi,e⟩:=List.getElem_of_mem hm
    rw[List.length_take] at hi
    rw[List.getElem_take] at e
    have:=nodup_injP HP.out.2.1 (by omega) hlt e
    omega
   generalize p[k]=x at*
   obtain⟨y,rfl⟩: ∃y:Nat,x=y:=⟨x.toNat,by omega⟩
   have hyl:y<p.length:=by omega
   have hyb:y<bs.length:=by omega
   have hcb:=HO.out.cellAt y hyb
   have hfb:=HO.out.free y
   have HF:Hid (bs[y]=false):=hDD (by
    cases e:bs[y] with
    | false=>rfl
    | true=>exact absurd (HIN.out y (by rw[List.getElem?_eq_getElem hyb,e])) HNI.out)
   rw[HF.out] at hcb
   have hyI:(y:Int)<(p.length:Int):=by omega
   have hin:inB (y:Int) 0 ((p.length:Int)-1)=true:=inB_iff.2 ⟨by omega,by omega⟩
   have O1:=hDD (HO.out.set y true)
   clear hc hx hbl
   go_wp2_with (go_at_call 74;refine(within_any _ _ _ _).mono ?_;rintro e w' ⟨rfl,rfl⟩)
   go_roundw
   case rel=>exact⟨k+1,bs.set y true,by omega,by go_num,by simp[HBL.out],(fun j hj=>by
    rw[HT.out]
    by_cases e:j=y
    ·subst e;exact List.mem_append_right _ (by simp)
    ·rw[List.getElem?_set_ne (fun q=>e q.symm)] at hj
     exact List.mem_append_left _ (HIN.out j hj)),O1.out.1,HB.out.grown O1.out.2 HB.out.size (fun c hc=>by cases hc;exact Nat.le_refl _)⟩
   case measure=>(first | omega | (simp[intOf];omega))
  ·obtain rfl:k=p.length:=by omega
   go_wp2
   exact bodyPost_ret (v:= .bool true) (by simp[results,Tryz.results115,go_sem]) rfl ⟨rfl,HB.out⟩
set_option maxRecDepth 100000 in
set_option maxHeartbeats 8000000 in
theorem cycT_any (v:Value) (p:List Int) (w:World) (h:RdI w v p) (hp:PermP p):
  Calls Tryz.prog 116 #[v] w fun e w'=> ∃r l,e= .returned r∧RdI w' r l∧(∀c∈l,1≤c)∧sN l≤40∧(∃m:Nat,1≤m∧(m:Int)∈l∧pwN p m 0=0)∧Below w.heap.size w w':=by
 have H:=hDD h
 have HP:=hDD hp
 obtain⟨_,_,h40,h0⟩:=hp
 obtain⟨A,cap,rfl,hcap,hm,_⟩:=h.arg
 obtain⟨lb,off,rfl,hlb,_⟩:=h.at h0
 unfold maxLen at hm
 clear h
 have O0:Hid (OwI (w.alloc (.cells #[] 3)) w.heap.size (.slice (some ⟨w.heap.size,0,none⟩) 0 0) []):=hDD (OwI_lit w [] I64s_nil (by simp) (Nat.le_refl _))
 have b0:Below w.heap.size w (w.alloc (.cells #[] 3)):=(Below.refl _ _).alloc (Nat.le_refl _) _
 have HPE:=hDD (isPerm_any _ p _ (H.out.below b0) HP.out)
 have B0:=hDD b0
 clear b0
 go_enter Tryz.func116,Tryz.ntmps116
 go_wp2_with fail
 refine HPE.out.mono ?_
 rintro e w1 ⟨rfl,b1⟩
 have O1:=hDD (O0.out.below b1)
 have B1:=hDD (B0.out.trans (b1.mono B0.out.size))
 have hs1:w.heap.size<w1.heap.size:=by have:=b1.size;simp at this;omega
 clear b1 HPE B0 O0
 obtain⟨i0,hi0,hz0,hz1,hz2⟩:=info_parts bool_info
 go_wp2_with (at_make;refine wpList_make_full _ rfl _ _ 112 rfl w1.heap.size 4 i0 (.bool false) 1 Tryz.underlying112 hi0 hz0 hz1 _ _ _ _ p.length rfl rfl rfl rfl (by rw[hz2];omega) (by unfold maxLen;omega) (Nat.le_refl _) ?_)
 intro w2 hown0 hgrow0
 have own0:OwB w2 w1.heap.size (.slice (some ⟨w1.heap.size,0,none⟩) p.length p.length) (List.replicate p.length false):=by
  unfold OwB
  rw[List.length_replicate]
  have:bools (List.replicate p.length false)=List.replicate p.length (Value.bool false):=by simp[bools]
  rw[this]
  simpa[toList_madeCells_one] using hown0
 have S2:=hDD own0
 have b2:Below w1.heap.size w1 w2:=(Below.refl _ _).grown hgrow0 (Nat.le_refl _) (fun k h=>by cases h)
 have O2:=hDD (O1.out.below b2)
 have B2:Hid (Below w.heap.size w w2):=hDD (B1.out.trans (b2.mono B1.out.size))
 have hs2:=b2.size
 clear hown0 hgrow0 own0 b2 O1 B1
 generalize hgs:w1.heap.size=gs at*
 have hgw:w.heap.size<gs:=by omega
 clear hgs
 go_wp2
 go_loopw [3,18] (fun ov iv wr=> ∃(k:Nat) (bs:List Bool) (l:List Int),k≤p.length∧iv= .int .i64 k∧bs.length=p.length∧OwB wr gs (.slice (some ⟨gs,0,none⟩) p.length p.length) bs∧OwI wr w.heap.size ov l∧(∀c∈l,1≤c)∧sN l+bs.count false=p.length∧(k=0→bs=List.replicate p.length false)∧(0<k→ ∃m:Nat,1≤m∧(m:Int)∈l∧pwN p m 0=0)∧Below w.heap.size w wr∧gs<wr.heap.size) (fun _ iv _=>p.length-(intOf iv).toNat)
 case atStart=>exact⟨0,_,[],Nat.zero_le _,rfl,by simp,S2.out,O2.out,(fun c hc=>by cases hc),by simp[sN],fun _=>rfl,fun h=>absurd h (by omega),B2.out,(S2.out.lt gs rfl).2⟩
 case round=>
  obtain⟨k,bs,l,hk,rfl,hbl,hS,hO,hl1,hsum,hk0,hk1,hB,hgz⟩:=hrel
  have HS:=hDD hS
  have HO:=hDD hO
  have HB:=hDD hB
  have HL1:=hDD hl1
  have HSUM:=hDD hsum
  have HK0:=hDD hk0
  have HK1:=hDD hk1
  have HBL:=hDD hbl
  have hsw:=hB.size
  clear hS hO hB hl1 hsum hk0 hk1 hbl
  by_cases hlt:k<p.length
  ·have hkI:(k:Int)<(p.length:Int):=by omega
   obtain⟨wo,hwo⟩: ∃W:World,W=wr:=⟨_,rfl⟩
   clear hwo
   go_wp2
   go_loopw [6,7] (fun nv xv wr=> ∃(n x:Nat) (bs':List Bool),nv= .int .i64 n∧xv= .int .i64 x∧x<p.length∧bs'.length=p.length∧OwB wr gs (.slice (some ⟨gs,0,none⟩) p.length p.length) bs'∧OwI wr w.heap.size u3 l∧n+bs'.count false=bs.count false∧(k=0→OrbP p n x bs')∧Below w.heap.size w wr∧gs<wr.heap.size) (fun _ _ wr=>mB wr gs p.length)
   case atStart=>exact⟨0,k,bs,rfl,rfl,hlt,HBL.out,HS.out,HO.out,by omega,(fun e=>by subst e;rw[HK0.out rfl];exact OrbP.start p),HB.out,hgz⟩
   case round=>
    obtain⟨n,x,bs',rfl,rfl,hxl,hbl',hS',hO',hcn,horb,hB',hgz'⟩:=hrel
    have HS':=hDD hS'
    have HO':=hDD hO'
    have HB':=hDD hB'
    have HCN:=hDD hcn
    have HORB:=hDD horb
    have HBL':=hDD hbl'
    have hsw':=hB'.size
    have hn40:n≤40:=by have:=HSUM.out;omega
    have hxb:x<bs'.length:=by omega
    have hcb:=hS'.cellAt x hxb
    have hfb:=hS'.free x
    have hxI:(x:Int)<(p.length:Int):=by omega
    have hm0:=mB_eq hS'
    rw[hbl'] at hm0
    have HM0:=hDD hm0
    have O1:=hDD (hS'.set x true)
    clear hS' hO' hB' hcn horb hbl' hm0
    rcases eb:bs'[x] with _ | _
    ·rw[eb] at hcb
     have HCT:Hid ((bs'.set x true).count false+1=bs'.count false):=hDD (count_setT hxb eb)
     obtain⟨lb',off',e1,_,hc⟩:=(H.out.below HB'.out).at h0
     injection e1 with e1
     injection e1 with e1 e2
     subst e1;subst e2
     have hcp:=hc x hxl
     have hcp':=(Below.heap_setCell wr ⟨gs,x,none⟩ (.bool true) lb (show lb≠gs by omega))
     have hcq:(wr.setCell ⟨gs,x,none⟩ (.bool true)).cell? ⟨lb,off+x,none⟩=some (.int .i64 p[x]):=(World.cell?_of_block (w:=wr) hcp').trans hcp
     have hy:=HP.out.1 _ (List.getElem_mem hxl)
     have HPX:Hid ((p.getD x 0).toNat=(p[x]).toNat):=hDD (by rw[getD_pAt hxl])
     have HNX:Hid (k=0→OrbP p (n+1) (p[x]).toNat (bs'.set x true)):=hDD fun e=>by
      have:=(HORB.out e).step HP.out hxb eb
      rwa [HPX.out] at this
     clear hc hcp hcp' eb HORB
     generalize p[x]=y at*
     obtain⟨y,rfl⟩: ∃z:Nat,y=z:=⟨y.toNat,by omega⟩
     rw[Int.toNat_natCast] at HNX
     have O9:=hDD (HO'.out.kept O1.out.2 (by
      rcases e:u3.ownBlock with _ | c
      ·exact .inl rfl
      ·refine .inr fun q=> ?_
       injection q with q
       subst q
       exact HS'.out.notI HO'.out rfl e))
     have hm1:=mB_eq O1.out.1
     rw[List.length_set,HBL'.out] at hm1
     have HM1:=hDD hm1
     clear hm1
     go_wp2
     go_roundw
     case rel=>exact⟨n+1,y,bs'.set x true,by go_num,rfl,by omega,by simp[HBL'.out],O1.out.1,O9.out,by have:=HCN.out;have:=HCT.out;omega,HNX.out,HB'.out.grown O1.out.2 hsw' (fun c hc=>by cases hc;omega),by simpa using hgz'⟩
     case measure=>
      have:=HM0.out
      have:=HM1.out
      have:=HCT.out
      omega
    ·rw[eb] at hcb
     have HEND:Hid (k=0→1≤n∧pwN p n 0=0):=hDD fun e=>(HORB.out e).done HP.out hxb eb
     clear eb HORB O1 HM0
     by_cases hn0:n=0
     ·subst hn0
      have hk00:k≠0:=fun e=>by have:=(HEND.out e).1;omega
      go_wp2
      go_roundw
      case rel=>exact⟨k+1,bs',l,by omega,by go_num,HBL'.out,HS'.out,HO'.out,HL1.out,by have:=HSUM.out;have:=HCN.out;omega,fun e=>absurd e (by omega),fun _=>HK1.out (by omega),HB'.out,hgz'⟩
      case measure=>(simp[intOf];omega)
     ·have hnI:(0:Int)<(n:Int):=by omega
      have HNI:Hid (I64 (n:Int)):=hDD ⟨by omega,by omega⟩
      have HLL:Hid (l.length≤1000):=hDD (by
       have h1:l.length≤sN l:=len_sN HL1.out
       have:=HSUM.out
       omega)
      have hll:=HLL.out
      go_wp2_with (at_builtin;refine push_int rfl (.tmp 38) (.tmp 40) rfl _ _ _ (OwI.alloc HO'.out _) rfl _ _ rfl (cell_new1 _ _ _) HNI.out (by first | omega | (simp<;>omega)) (by first | omega | (simp<;>omega)) ?_;intro v1 wv1 o1 g1 p1)
      have S1:=hDD ((HS'.out.allocP (Obj.cells #[.int .i64 (n:Int)] 3)).keptP g1 (.inr fun q=>HS'.out.notI HO'.out rfl q.symm))
      go_roundw
      case rel=>exact⟨k+1,bs',l++ [(n:Int)],by omega,by go_num,HBL'.out,S1.out,o1,(fun c hc=>by
       rcases List.mem_append.1 hc with hc | hc
       ·exact HL1.out c hc
       ·rw[List.mem_singleton.1 hc];omega),by rw[sN_snoc];have:=HSUM.out;have:=HCN.out;omega,fun e=>absurd e (by omega),(fun _=>by
       by_cases e:k=0
       ·exact⟨n,(HEND.out e).1,by simp,(HEND.out e).2⟩
       ·obtain⟨m,h1,h2,h3⟩:=HK1.out (by omega)
        exact⟨m,h1,List.mem_append_left _ h2,h3⟩),bel_push HB'.out hsw' HO'.out.1 (Nat.le_refl _) g1,by have:=g1.size;simp at this;omega⟩
      case measure=>(simp[intOf];omega)
  ·obtain rfl:k=p.length:=by omega
   obtain⟨m,hm1,hml,hmp⟩:=HK1.out h0
   obtain⟨Al,cl,rfl,hcl,hml2,_,hat⟩:=HO.out.form
   have hlp:0<l.length:=List.length_pos_of_mem hml
   obtain⟨gl,rfl,hgl1,hgl2⟩:=hat hlp
   have HLL:Hid (l.length≤1000):=hDD (by
    have h1:l.length≤sN l:=len_sN HL1.out
    have:=HSUM.out
    omega)
   have HSO:=hDD (sortI_any gl l.length cl w.heap.size l wr HO.out (by have:=HLL.out;omega))
   go_wp2_with fail
   refine HSO.out.mono ?_
   rintro e w3 ⟨rfl,ys,o3,hp3,g3⟩
   have O3:=hDD o3
   have P3:=hDD hp3
   have B3:=hDD (HB.out.grown g3 hsw (fun c hc=>by cases hc;omega))
   clear o3 hp3 g3
   have HRV:=hDD (revI_any gl l.length cl w.heap.size ys w3 O3.out (by rw[P3.out.length_eq];have:=HLL.out;omega))
   go_wp2_with fail
   refine HRV.out.mono ?_
   rintro e w4 ⟨rfl,o4,g4⟩
   have O4:=hDD o4
   have B4:=hDD (B3.out.grown g4 B3.out.size (fun c hc=>by cases hc;omega))
   clear o4 g4
   go_wp2
   have hpp:ys.reverse.Perm l:=(List.reverse_perm ys).trans P3.out
   exact bodyPost_ret (v:= .slice (some ⟨gl,0,none⟩) l.length cl) (by simp[results,Tryz.results116,go_sem]) rfl ⟨_,ys.reverse,rfl,O4.out.rd,(fun c hc=>HL1.out c (hpp.mem_iff.1 hc)),by rw[sN_perm hpp];have:=HSUM.out;omega,⟨m,hm1,hpp.mem_iff.2 hml,hmp⟩,B4.out⟩
theorem gcd_step {a b:Nat}:Nat.gcd b (a%b)=Nat.gcd a b:=by rw[Nat.gcd_comm a b,Nat.gcd_rec b a,Nat.gcd_comm]
theorem lcm_parts {n c:Nat} (hn:1≤n) (hc:1≤c):n∣n/Nat.gcd n c*c∧c∣n/Nat.gcd n c*c∧n/Nat.gcd n c*c≤n*c∧1≤n/Nat.gcd n c*c:=by
 have hg:0<Nat.gcd n c:=Nat.gcd_pos_of_pos_left _ hn
 have hd:Nat.gcd n c∣n:=Nat.gcd_dvd_left _ _
 have hd2:Nat.gcd n c∣c:=Nat.gcd_dvd_right _ _
 obtain⟨x,hx⟩:=hd
 obtain⟨y,hy⟩:=hd2
 have e:n/Nat.gcd n c=x:=by
  conv=>lhs;lhs;rw[hx]
  exact Nat.mul_div_cancel_left x hg
 rw[e]
 have hx1:1≤x:=by
  rcases Nat.eq_zero_or_pos x with q | q
  ·rw[q,Nat.mul_zero] at hx;omega
  ·exact q
 refine⟨⟨y,?_⟩,⟨x,Nat.mul_comm _ _⟩,?_,Nat.mul_pos hx1 hc⟩
 ·conv=>lhs;rw[hy]
  conv=>rhs;rw[hx]
  rw[←Nat.mul_assoc,Nat.mul_comm x]
 ·refine Nat.mul_le_mul_right c ?_
  conv=>rhs;rw[hx]
  exact Nat.le_mul_of_pos_left x hg
theorem two_pow_ge (c:Nat):c≤2^c:=Nat.le_of_lt Nat.lt_two_pow_self
set_option maxRecDepth 100000 in
set_option maxHeartbeats 8000000 in
theorem ordP_any (v:Value) (p:List Int) (w:World) (h:RdI w v p) (hp:PermP p):
  Calls Tryz.prog 72 #[v] w fun e w'=> ∃R:Nat,e= .returned (.int .i64 R)∧(∃m:Nat,1≤m∧pwN p m 0=0∧R%m=0)∧Below w.heap.size w w':=by
 have H:=hDD h
 have HP:=hDD hp
 have HPE:=hDD (isPerm_any _ p _ h hp)
 clear h
 go_enter Tryz.func72,Tryz.ntmps72
 go_wp2_with fail
 refine HPE.out.mono ?_
 rintro e w1 ⟨rfl,b1⟩
 have B1:=hDD b1
 have HCY:=hDD (cycT_any _ p w1 (H.out.below b1) hp)
 have hs1:=b1.size
 clear b1 HPE
 go_wp2_with fail
 refine HCY.out.mono ?_
 rintro e w2 ⟨rv,l,rfl,rl,hl1,hs40,⟨m,hm1,hml,hmp⟩,b2⟩
 have RL:=hDD rl
 have HL1:=hDD hl1
 have HM:=hDD hml
 have HMP:=hDD hmp
 have B2:=hDD (B1.out.trans (b2.mono hs1))
 have HLL:l.length≤40:=Nat.le_trans (len_sN hl1) hs40
 obtain⟨A,cap,rfl,_⟩:=rl.arg
 have hs2:=B2.out.size
 clear rl hl1 hml hmp b2 HCY
 go_wp2
 go_loopw [3,14] (fun nv iv wr=> ∃k n:Nat,k≤l.length∧iv= .int .i64 k∧nv= .int .i64 n∧1≤n∧n≤2^sN (l.take k)∧(∀c∈l.take k,n%c.toNat=0)∧Below w2.heap.size w2 wr) (fun _ iv _=>l.length-(intOf iv).toNat)
 case atStart=>exact⟨0,1,Nat.zero_le _,rfl,rfl,by omega,by simp[sN],by simp,Below.refl _ _⟩
 case round=>
  obtain⟨k,n,hk,rfl,rfl,hn1,hnp,hdv,hB⟩:=hrel
  have HDV:=hDD hdv
  have HNP:=hDD hnp
  have HB:=hDD hB
  have hsr:=hB.size
  have hn40:n≤1099511627776:=Nat.le_trans hnp (Nat.le_trans (Nat.pow_le_pow_right (by omega) (Nat.le_trans (sN_take l k) hs40)) (by decide))
  clear hdv hnp hB
  by_cases hlt:k<l.length
  ·have hkI:(k:Int)<(l.length:Int):=by omega
   obtain⟨lb,off,rfl,_,hc⟩:=(RL.out.below HB.out).at (by omega)
   have hcell:=hc k hlt
   have hc1:=HL1.out _ (List.getElem_mem hlt)
   have HT:Hid (l.take (k+1)=l.take k++ [l[k]]):=hDD (List.take_succ_eq_append_getElem hlt)
   clear hc
   generalize l[k]=c at*
   obtain⟨c,rfl⟩: ∃y:Nat,c=y:=⟨c.toNat,by omega⟩
   have hcp:1≤c:=by omega
   have HSN:Hid (sN (l.take (k+1))=sN (l.take k)+c):=hDD (by rw[HT.out,sN_snoc];rfl)
   have hc40:c≤40:=by have h1:=sN_take l (k+1);rw[HSN.out] at h1;omega
   obtain⟨hd1,hd2,hd3,hd4⟩:=lcm_parts hn1 hcp
   have HD:=hDD (And.intro hd1 hd2)
   have HR3:=hDD hd3
   have HR4:=hDD hd4
   have hg0:0<Nat.gcd n c:=Nat.gcd_pos_of_pos_left _ hn1
   have hgn:Nat.gcd n c≤n:=Nat.gcd_le_left _ hn1
   clear hd1 hd2 hd3 hd4
   have hgm:n*c≤1099511627776*40:=Nat.mul_le_mul hn40 hc40
   go_wp2
   go_loopw [6,7] (fun av bv wr=> ∃a b:Nat,av= .int .i64 a∧bv= .int .i64 b∧Nat.gcd a b=Nat.gcd n c∧Below w2.heap.size w2 wr) (fun _ bv _=>(intOf bv).toNat)
   case atStart=>exact⟨n,c,rfl,rfl,rfl,HB.out⟩
   case round=>
    obtain⟨a,b,rfl,rfl,hgcd,hB'⟩:=hrel
    have HB':=hDD hB'
    have HGC:=hDD hgcd
    clear hB' hgcd
    by_cases hb0:b=0
    ·subst hb0
     have hag:a=Nat.gcd n c:=by have:=HGC.out;rwa [Nat.gcd_zero_right] at this
     have hg0': ¬Nat.gcd n c=0:=by omega
     generalize Nat.gcd n c=g at*
     subst hag
     obtain⟨q,hq⟩: ∃q,q=n/a:=⟨_,rfl⟩
     rw[←hq] at HD HR3 HR4
     have hqI:(n:Int)/(a:Int)=(q:Int):=by rw[hq];rfl
     have hr3:=HR3.out
     have hqn:q≤n:=by rw[hq];exact Nat.div_le_self _ _
     have hwq:IntKind.i64.wrap (q:Int)=(q:Int):=by rw[IntKind.wrap_i64];omega
     have hwm:IntKind.i64.wrap ((q:Int)*(c:Int))=((q*c:Nat):Int):=by
      rw[show(q:Int)*(c:Int)=((q*c:Nat):Int) from rfl,IntKind.wrap_i64]
      omega
     have HQ2:Hid (q*c≤2^sN (l.take (k+1))):=hDD (by
      rw[HSN.out,Nat.pow_add]
      exact Nat.le_trans hr3 (Nat.mul_le_mul HNP.out (two_pow_ge c)))
     have hqc:n/a=q:=hq.symm
     clear hq
     go_wp2
     go_roundw
     case rel=>exact⟨k+1,q*c,by omega,by go_num,rfl,HR4.out,HQ2.out,(fun c' hc'=>by
      rw[HT.out] at hc'
      rcases List.mem_append.1 hc' with h | h
      ·exact Nat.mod_eq_zero_of_dvd (Nat.dvd_trans (Nat.dvd_of_mod_eq_zero (HDV.out c' h)) HD.out.1)
      ·rw[List.mem_singleton.1 h,Int.toNat_natCast];exact Nat.mod_eq_zero_of_dvd HD.out.2),HB'.out⟩
     case measure=>(simp[intOf];omega)
    ·have hb0I: ¬(b:Int)=0:=by omega
     have hbt:Hid (((b:Int) != 0)=true):=hDD (bne_iff_ne.2 hb0I)
     go_wp2_with fail
     rw[hbt.out]
     refine wp_region_gen [.val (.int .i64 b), .val (.int .i64 a), .val (.int .i64 b), .pur (fun _ v=>v= .int .i64 ((a%b:Nat):Int)), .pur (fun _ v=>v= .int .i64 b), .pur (fun us v=>v=us 3)]
      [none,none,none,none,none,none] (fun W=>Below w2.heap.size w2 W) [] (by kernel_rfl) (by kernel_rfl) (by rfl) (by rfl) HB'.out.drew trivial trivial (fun vs=> ?_)
     refine⟨fun W' K' Q0 hI hD hK=> ?_,?_⟩
     ·skip
      go_simp
      exact hK.out _ _ rfl rfl
     simp only[Act.put,List.setIfInBounds_toArray,List.set_cons_zero,List.set_cons_succ,Sg.pick,Nat.reduceAdd]
     refine⟨fun W' K' Q0 hI hD hK=> ?_,?_⟩
     ·skip
      go_simp
      exact hK.out _ _ rfl rfl
     simp only[Act.put,List.setIfInBounds_toArray,List.set_cons_zero,List.set_cons_succ,Sg.pick,Nat.reduceAdd]
     refine⟨fun W' K' Q0 hI hD hK=> ?_,?_⟩
     ·skip
      go_simp
      exact hK.out _ _ rfl rfl
     simp only[Act.put,List.setIfInBounds_toArray,List.set_cons_zero,List.set_cons_succ,Sg.pick,Nat.reduceAdd]
     refine⟨fun W' K' Q0 hI hD hK=> ?_,?_⟩
     ·skip
      go_simp
      exact hK.out _ _ rfl (by first | rfl | simp)
     simp only[Act.put,List.setIfInBounds_toArray,List.set_cons_zero,List.set_cons_succ,Sg.pick,Nat.reduceAdd]
     refine⟨fun W' K' Q0 hI hD hK=> ?_,?_⟩
     ·skip
      go_simp
      exact hK.out _ _ rfl rfl
     simp only[Act.put,List.setIfInBounds_toArray,List.set_cons_zero,List.set_cons_succ,Sg.pick,Nat.reduceAdd]
     refine⟨fun W' K' Q0 hI hD hK=> ?_,?_⟩
     ·have e3:=(show vs 3= .int .i64 ((a%b:Nat):Int) from hD.out 3 (by kernel_rfl))
      rw[e3] at hK⊢
      go_simp
      exact hK.out _ _ rfl ((mask_at (by kernel_rfl)).trans e3).symm
     simp only[Act.put,List.setIfInBounds_toArray,List.set_cons_zero,List.set_cons_succ,Sg.pick,Nat.reduceAdd]
     intro W9 hI9 hD9
     have e3:=(show vs 3= .int .i64 ((a%b:Nat):Int) from hD9.out 3 (by decide))
     have e4:=(show vs 4= .int .i64 b from hD9.out 4 (by decide))
     have e5:=(show vs 5=maskV _ 5 vs 3 from hD9.out 5 (by decide))
     rw[mask_at (by kernel_rfl),e3] at e5
     rw[e4,e5]
     have B9:=hDD hI9.out
     have hmb:a%b<b:=Nat.mod_lt _ (by omega)
     have HGN:Hid (Nat.gcd b (a%b)=Nat.gcd n c):=hDD (gcd_step.trans HGC.out)
     clear hD9 hI9 e3 e4 e5
     generalize a%b=r at*
     go_wp2
     go_roundw
     case rel=>exact⟨b,r,rfl,rfl,HGN.out,B9.out⟩
     case measure=>(simp[intOf];omega)
  ·obtain rfl:k=l.length:=by omega
   rw[List.take_length] at HDV
   go_wp2
   exact bodyPost_ret (v:= .int .i64 n) (by simp[results,Tryz.results72,go_sem]) rfl ⟨n,rfl,⟨m,hm1,HMP.out,HDV.out m HM.out⟩,B2.out.trans (HB.out.mono hs2)⟩
end Go.Proofs.YteobmaambgmdbaaGreat
namespace Go.Proofs.YteobmaambgmdbaaGreat
set_option maxRecDepth 20000
set_option linter.unusedVariables false
set_option linter.unusedSimpArgs false
open Go.RowKit
def permL (g:GrD) (ws:List Int):List Int:=(List.range g.2.1.toNat).map fun (v:Nat)=>walkF g.2.2 (v:Int) ws
theorem fin_core {g:GrD} (h:finB g=true):coreB g=true:=by unfold finB at h;simp only[Bool.and_eq_true] at h;exact h.1
theorem permL_ok {g:GrD} (hg:grB g=true) (hf:Fol g.2.2) (hfi:finB g=true) {ws:List Int} (hw:wordB g.1 ws=true):PermP (permL g ws)∧(permL g ws).length=g.2.1.toNat∧ ∀m,(pwN (permL g ws) m 0:Int)=walkF g.2.2 0 (repW ws m):=by
 obtain⟨_,hsz,_,_⟩:=grB_parts hg
 have hlt:=word_letters hw
 have h3:=wordB_lt3 hw
 have hl:(permL g ws).length=g.2.1.toNat:=by simp[permL]
 have hP:PermP (permL g ws):=by
  refine⟨fun y hy=> ?_,?_,by omega,by omega⟩
  ·obtain⟨v,hv,rfl⟩:=List.mem_map.1 hy
   have hv':=List.mem_range.1 hv
   have:=fin_walk hg hfi (w:=ws) (v:=(v:Int)) ⟨by omega,by omega⟩ hlt
   omega
  ·unfold permL
   rw[List.nodup_iff_pairwise_ne,List.pairwise_map]
   refine List.Pairwise.imp_of_mem ?_ (List.pairwise_lt_range)
   intro a b ha hb hab q
   have ha':=List.mem_range.1 ha
   have hb':=List.mem_range.1 hb
   have h1:=fin_walk hg hfi (w:=ws) (v:=(a:Int)) ⟨by omega,by omega⟩ hlt
   have h2:=fin_walk hg hfi (w:=ws) (v:=(b:Int)) ⟨by omega,by omega⟩ hlt
   have e1:=walk_back hg hf ws (a:Int) (fun x hx=>(h3 x hx).b3) (by omega) h1.1
   have e2:=walk_back hg hf ws (b:Int) (fun x hx=>(h3 x hx).b3) (by omega) h2.1
   rw[q,e2] at e1
   omega
 refine⟨hP,hl,fun m=> ?_⟩
 induction m with
 | zero=>rfl
 | succ m ih=>
   have hr:=fin_walk hg hfi (w:=repW ws m) (v:=0) ⟨by omega,by omega⟩ (fun x hx=>hlt x (repW_mem hx))
   have h0:=pwN_lt hP hP.2.2.2 m
   show((((permL g ws).getD (pwN (permL g ws) m 0) 0).toNat:Nat):Int)=walkF g.2.2 0 (repW ws m++ws)
   rw[walkF_app _ _ _ _ hr.1,←ih,getD_pAt h0]
   have e:(permL g ws)[pwN (permL g ws) m 0]=walkF g.2.2 ((pwN (permL g ws) m 0:Nat):Int) ws:=by simp[permL]
   have h5:=fin_walk hg hfi (w:=ws) (v:=((pwN (permL g ws) m 0:Nat):Int)) ⟨by omega,by omega⟩ hlt
   rw[e,Int.toNat_of_nonneg h5.1]
set_option maxHeartbeats 4000000 in
theorem wordPerm_any (v vw:Value) (g:GrD) (ws:List Int) (w:World) (h:ArgG w v g) (hw:RdI w vw ws) (hfi:finB g=true) (hwd:wordB g.1 ws=true):
  Calls Tryz.prog 71 #[v,vw] w fun e w'=> ∃r,e= .returned r∧OwI w' w.heap.size r (permL g ws)∧Below w.heap.size w w':=by
 have HG:=hDD h
 have HW:=hDD hw
 have hfo:=coreB_foldB (fin_core hfi)
 obtain⟨hg,hfol⟩:=foldB_parts hfo
 obtain⟨_,hsz,_,_⟩:=grB_parts hg
 have HFI:=hDD (fun W (h:ArgG W v g)=>implIsFiniteIndex_any v g W h)
 rw[hfi] at HFI
 have HRD:=hDD (fun W (u:Int) (h:ArgG W v g) (h':RdI W vw ws) (hu:0≤u∧u<g.2.1)=>read_any v vw g u ws W h h' hfo hu)
 have HWK:=hDD (fun (u:Int) (hu:0≤u∧u<g.2.1)=>fin_walk hg hfi (w:=ws) hu (word_letters hwd))
 have HRF:=hDD (fun (u:Int) (hu:0≤u∧u<g.2.1)=>show(readF g.2.2 u ws).2=ws.length∧(readF g.2.2 u ws).1=walkF g.2.2 u ws by
  rcases walk_read g.2.2 ws u hu.1 with q | q
  ·have:=(HWK.out u hu).1;omega
  ·exact q.2)
 have HLN:=hDD (wordB_len hwd)
 obtain⟨s,rfl,hi1,hi2,ha⟩:=h
 obtain⟨A,cap,rfl⟩:=ha.form
 obtain⟨Aw,cw,rfl,_⟩:=hw.arg
 have HPL:Hid (∀k:Nat,k<g.2.1.toNat→(permL g ws).take (k+1)=(permL g ws).take k++ [walkF g.2.2 (k:Int) ws]):=hDD fun k hk=>by
  rw[List.take_succ_eq_append_getElem (by simpa[permL] using hk)]
  simp[permL]
 have HPN:Hid ((permL g ws).length=g.2.1.toNat):=hDD (by simp[permL])
 generalize permL g ws=PL at*
 obtain⟨g1,N,es⟩:=g
 simp only at*
 obtain⟨N,rfl⟩: ∃M:Nat,N=M:=⟨N.toNat,by omega⟩
 rw[Int.toNat_natCast] at HPL HPN
 clear ha hfo hg hfol hfi hwd hw
 go_enter Tryz.func71,Tryz.ntmps71
 go_wp2_with fail
 obtain⟨W1,hW1⟩: ∃W,W=w.alloc (Obj.cells #[Value.int IntKind.i64 g1,Value.int IntKind.i64 (N:Int), .slice A es.length cap] 26):=⟨_,rfl⟩
 rw[←hW1]
 obtain⟨xb,b1,s1⟩:=CBx.new hW1
 clear hW1
 have O0:Hid (OwI (W1.alloc (.cells #[] 3)) (w.heap.size+1) (.slice (some ⟨w.heap.size+1,0,none⟩) 0 0) []):=hDD (by
  have:=OwI_litN W1 [] (w.heap.size+1) s1 I64s_nil (by simp) (Nat.le_refl _)
  simpa[ints] using this)
 have b2:Below W1.heap.size W1 (W1.alloc (.cells #[] 3)):=(Below.refl _ _).alloc (Nat.le_refl _) _
 have XB:=hDD (xb.below b2)
 have B2:=hDD (b1.trans (b2.mono (by omega)))
 clear xb b1 b2
 have u0:=XB.out.c0
 have u1:=XB.out.c1
 have u2:=XB.out.c2
 generalize W1.alloc (.cells #[] 3)=W2 at*
 refine(HFI.out W2 (HG.out.below B2.out)).mono ?_
 rintro e w3 ⟨rfl,b3⟩
 have X3:=hDD (XB.out.below b3)
 have O3:=hDD (O0.out.below b3)
 have B3:=hDD (B2.out.trans (b3.mono B2.out.size))
 clear b3 XB O0 B2 u0 u1 u2 HFI
 go_wp2
 go_loopw [5,6] (fun ov iv wr=> ∃k:Nat,k≤N∧iv= .int .i64 k∧OwI wr (w.heap.size+1) ov (PL.take k)∧CBx wr w.heap.size (.int .i64 g1) (.int .i64 (N:Int)) (.slice A es.length cap)∧Below w.heap.size w wr) (fun _ iv _=>N-(intOf iv).toNat)
 case atStart=>exact⟨0,Nat.zero_le _,rfl,O3.out,X3.out,B3.out⟩
 case round=>
  obtain⟨k,hk,rfl,hO,hX,hB⟩:=hrel
  have HO:=hDD hO
  have HX:=hDD hX
  have HB:=hDD hB
  have hxl:=hX.lt
  have u0:=hX.c0
  have u1:=hX.c1
  have u2:=hX.c2
  clear hO hX hB
  by_cases hlt:k<N
  ·have hkI:(k:Int)<(N:Int):=by omega
   have HT:=hDD (HPL.out k hlt)
   have hu:(0:Int)≤(k:Int)∧(k:Int)<(N:Int):=⟨by omega,by omega⟩
   have HR:=hDD (HRD.out wr k (HG.out.below HB.out) (HW.out.below HB.out) hu)
   rw[(HRF.out k hu).1,(HRF.out k hu).2] at HR
   have hz:=HWK.out k hu
   have hpk:(PL.take k).length≤40:=by rw[List.length_take];omega
   generalize walkF es (k:Int) ws=z at*
   generalize PL.take k=acc at*
   have HZ:Hid (I64 z):=hDD ⟨by omega,by omega⟩
   have hln:=HLN.out
   go_wp2_with fail
   refine HR.out.mono ?_
   rintro e w5 ⟨rfl,b5⟩
   have O5:=hDD (HO.out.below b5)
   have X5:=hDD (HX.out.below b5)
   have B5:=hDD (HB.out.trans (b5.mono HB.out.size))
   have hs5:=b5.size
   clear b5 HO HX HB u0 u1 u2 HR
   obtain⟨A5,c5,rfl,_⟩:=O5.out.form
   have hb5:w.heap.size+1≤w5.heap.size:=by omega
   clear hs5 hxl hz
   go_wp2_with (at_builtin;refine push_int rfl (.tmp 32) (.tmp 34) rfl _ _ _ (OwI.alloc O5.out _) rfl _ _ rfl (cell_new1 _ _ _) HZ.out (by first | omega | (simp<;>omega)) (by first | omega | (simp<;>omega)) ?_;intro v1 wv1 o1 gg p1)
   have X6:=(X5.out.below ((Below.refl _ _).alloc (Nat.le_refl _) (Obj.cells #[.int .i64 z] 3))).grown gg (fun b hb=>by have:=(O5.out.1.lt b hb).1;omega)
   go_roundw
   case rel=>exact⟨k+1,by omega,by go_num,by rw[HT.out];exact o1,X6,bel_push B5.out (Nat.le_of_succ_le hb5) O5.out.1 (Nat.le_succ _) gg⟩
   case measure=>(simp[intOf];omega)
  ·obtain rfl:N=k:=by omega
   rw[List.take_of_length_le (by rw[HPN.out];exact Nat.le_refl _)] at HO
   obtain⟨A5,m5,c5,rfl⟩:=HO.out.any2
   go_wp2
   exact bodyPost_ret (v:= .slice A5 m5 c5) (by simp[results,Tryz.results71,go_sem]) rfl ⟨_,rfl,HO.out.mono (by omega),HB.out⟩
set_option maxHeartbeats 4000000 in
theorem orderMod_any (v vw:Value) (g:GrD) (ws:List Int) (w:World) (h:ArgG w v g) (hw:RdI w vw ws) (hfi:finB g=true) (hwd:wordB g.1 ws=true):
  Calls Tryz.prog 15 #[v,vw] w fun e w'=> ∃R:Nat,e= .returned (.int .i64 R)∧R%(powF g ws).toNat=0∧Below w.heap.size w w':=by
 have HG:=hDD h
 have HW:=hDD hw
 have hfo:=coreB_foldB (fin_core hfi)
 obtain⟨hg,hfol⟩:=foldB_parts hfo
 have HWP:=hDD (fun W (h:ArgG W v g) (h':RdI W vw ws)=>wordPerm_any v vw g ws W h h' hfi hwd)
 obtain⟨hP,-,hpw⟩:=permL_ok hg hfol hfi hwd
 have HP:=hDD hP
 have HF:Hid (∀m:Nat,1≤m→pwN (permL g ws) m 0=0→m%(powF g ws).toNat=0):=hDD fun m _ e=>(pow_fin hg hfol hfi hwd).2 m (by rw[←hpw m,e];rfl)
 have hpl:=hP.2.2.2
 generalize permL g ws=PL at*
 generalize (powF g ws).toNat=n at*
 obtain⟨s,rfl,hi1,hi2,ha⟩:=h
 obtain⟨A,cap,rfl⟩:=ha.form
 obtain⟨Aw,cw,rfl,_⟩:=hw.arg
 clear ha hfo hg hfol hfi hwd hw hpw hP
 go_enter Tryz.func15,Tryz.ntmps15
 have bx:Below w.heap.size w (w.alloc (Obj.cells #[Value.int IntKind.i64 g.1,Value.int IntKind.i64 g.2.1, .slice A g.2.2.length cap] 26)):=(Below.refl _ _).alloc (Nat.le_refl _) _
 have BX:=hDD bx
 have HW1:=hDD (HWP.out _ (HG.out.below bx) (HW.out.below bx))
 clear bx HWP
 go_wp2_with fail
 refine HW1.out.mono ?_
 rintro e w2 ⟨r2,rfl,o2,b2⟩
 have B2:=hDD (BX.out.trans (b2.mono BX.out.size))
 have HOP:=hDD (ordP_any _ PL w2 o2.rd HP.out)
 obtain⟨A2,c2,rfl,_⟩:=o2.form
 have hpI: ¬PL.length=0:=by omega
 clear o2 b2 HW1 BX
 go_wp2_with fail
 refine HOP.out.mono ?_
 rintro e w3 ⟨R,rfl,⟨m,hm1,hmp,hmr⟩,b3⟩
 have B3:=hDD (B2.out.trans (b3.mono B2.out.size))
 have HR:Hid (R%n=0):=hDD (Nat.mod_eq_zero_of_dvd (Nat.dvd_trans (Nat.dvd_of_mod_eq_zero (HF.out m hm1 hmp)) (Nat.dvd_of_mod_eq_zero hmr)))
 clear b3 hmr hmp
 go_wp2
 exact bodyPost_ret (v:= .int .i64 R) (by simp[results,Tryz.results15,go_sem]) rfl ⟨R,rfl,HR.out,B3.out⟩
end Go.Proofs.YteobmaambgmdbaaGreat
namespace Go.Proofs.YteobmaambgmdbaaGreat
set_option maxRecDepth 20000
set_option linter.unusedVariables false
set_option linter.unusedSimpArgs false
open Go.RowKit
set_option maxHeartbeats 4000000 in
theorem implContains_any (v vw:Value) (g:GrD) (ws:List Int) (w:World) (h:ArgG w v g) (hw:RdI w vw ws) (hc:coreB g=true) (hl:ws.length≤536870912):
  Calls Tryz.prog 12 #[v,vw] w fun e w'=>e= .returned (.bool (decide (walkF g.2.2 0 (redL [] ws)=0)))∧Below w.heap.size w w':=by
 have HG:=hDD h
 have HW:=hDD hw
 have HIC:=hDD (fun W (h:ArgG W v g)=>implIsCore_any v g W h)
 rw[hc] at HIC
 have HLO:=hDD (fun W u (h:ArgG W v g) (h':RdI W u (redL [] ws))=>loops_any v u g (redL [] ws) W h h' (coreB_foldB hc))
 have HRE:=hDD (fun W (h:RdI W vw ws)=>implReduceLetters_any vw ws W h hl)
 generalize redL [] ws=x at*
 generalize decide (walkF g.2.2 0 x=0)=o at*
 obtain⟨s,rfl,hi1,hi2,ha⟩:=h
 obtain⟨A,cap,rfl⟩:=ha.form
 obtain⟨Aw,cw,rfl,_⟩:=hw.arg
 clear ha hc hw
 go_enter Tryz.func12,Tryz.ntmps12
 have bx:Below w.heap.size w (w.alloc (Obj.cells #[Value.int IntKind.i64 g.1,Value.int IntKind.i64 g.2.1, .slice A g.2.2.length cap] 26)):=(Below.refl _ _).alloc (Nat.le_refl _) _
 have XB:=hDD (CBx.new (w:=w) (W:=w.alloc (Obj.cells #[Value.int IntKind.i64 g.1,Value.int IntKind.i64 g.2.1, .slice A g.2.2.length cap] 26)) rfl).1
 have BX:=hDD bx
 clear bx
 go_wp2_with fail
 generalize w.alloc (Obj.cells #[Value.int IntKind.i64 g.1,Value.int IntKind.i64 g.2.1, .slice A g.2.2.length cap] 26)=W at*
 have u0:=XB.out.c0
 have u1:=XB.out.c1
 have u2:=XB.out.c2
 have BD:=hDD BX.out.drew
 have XD:=hDD (XB.out.below (Below.refl W.heap.size W).drew)
 go_region_held3 (fun w'=>w'.cell? ⟨w.heap.size,0,none⟩=some (.int .i64 g.1)∧w'.cell? ⟨w.heap.size,1,none⟩=some (.int .i64 g.2.1)∧w'.cell? ⟨w.heap.size,2,none⟩=some (.slice A g.2.2.length cap))
  (first | go_keep | exact⟨q0,q1,q2⟩)
  (first
   | (go_at_call 61;(with_reducible refine(HIC.out _ (HG.out.below BD.out)).mono ?_);rintro e w2 ⟨rfl,b2⟩;have B2:=hDD (BD.out.trans (b2.mono BD.out.size));have X2:=hDD (XD.out.below b2);have q0:=X2.out.c0;have q1:=X2.out.c1;have q2:=X2.out.c2;clear b2 XD BD)
   | (go_at_call 60;(with_reducible refine(HRE.out _ (HW.out.below B2.out)).mono ?_);rintro e w3 ⟨r3,rfl,o3,b3⟩;have B3:=hDD (B2.out.trans (b3.mono B2.out.size));have X3:=hDD (X2.out.below b3);have R3:=hDD o3.rd;have q0:=X3.out.c0;have q1:=X3.out.c1;have q2:=X3.out.c2;clear b3 o3 X2 B2)
   | (go_at_call 69;(with_reducible refine(HLO.out _ _ (HG.out.below B3.out) R3.out).mono ?_);rintro e w4 ⟨rfl,b4⟩;have B4:=hDD (B3.out.trans (b4.mono B3.out.size));have X4:=hDD (X3.out.below b4);have q0:=X4.out.c0;have q1:=X4.out.c1;have q2:=X4.out.c2;clear b4 X3 B3))
 go_wp2
 exact bodyPost_ret (v:= .bool o) (by simp[results,Tryz.results12,go_sem]) rfl ⟨rfl,B4.out⟩
end Go.Proofs.YteobmaambgmdbaaGreat
namespace Go.Proofs.YteobmaambgmdbaaGreat
set_option maxRecDepth 20000
set_option linter.unusedVariables false
set_option linter.unusedSimpArgs false
open Go.RowKit
def rootZ (g:GrD) (x:List Int):Bool:=decide (1<powF g x)
def rootsF (g:GrD) (m:Int):List (List Int):=if coreB g&&inB m 0 3 then(uptW (lettersL g.1.toNat) m.toNat).filter (rootZ g) else []
set_option maxHeartbeats 1000000 in
theorem specRootsIn_any (v:Value) (g:GrD) (m:Int) (w:World) (h:ArgG w v g):
  Calls Tryz.prog 19 #[v, .int .i64 m] w fun e w'=> ∃o,e= .returned o∧OwII w.heap.size w'.heap.size o (rootsF g m) w'∧Below w.heap.size w w':=by
 have HG:=hDD h
 have HCB:Hid (coreB g=true→inB g.1 1 3=true):=hDD fun hc=>inB_iff.2 (grB_parts (coreB_grB hc)).1
 obtain⟨s,rfl,hi1,hi2,ha⟩:=h
 obtain⟨A,cap,rfl⟩:=ha.form
 obtain⟨g1,N,es⟩:=g
 simp only at*
 clear ha
 go_enter Tryz.func19,Tryz.ntmps19
 have bx:Below w.heap.size w ((w.alloc (Obj.cells #[Value.int IntKind.i64 g1,Value.int IntKind.i64 N, .slice A es.length cap] 26)).alloc (.cells #[] 27)):=(by repeat(first | exact Below.refl _ _ | (refine Below.setCell ?_ (by first | omega | (simp<;>omega)) _) | (refine bel_drewN ?_ _) | (refine Below.drew ?_) | (refine Below.alloc ?_ (by first | omega | (simp<;>omega)) _)))
 have HOU:Hid (OwII (w.heap.size+1) (w.heap.size+2) (.slice (some ⟨w.heap.size+1,0,none⟩) 0 0) [] ((w.alloc (Obj.cells #[Value.int IntKind.i64 g1,Value.int IntKind.i64 N, .slice A es.length cap] 26)).alloc (.cells #[] 27))):=hDD (by
  have:=OwII_lit (lo:=w.heap.size+1) (w.alloc (Obj.cells #[Value.int IntKind.i64 g1,Value.int IntKind.i64 N, .slice A es.length cap] 26)) (by simp)
  simpa using this)
 go_wp2_with fail
 obtain⟨W,hW⟩: ∃W,W=(w.alloc (Obj.cells #[Value.int IntKind.i64 g1,Value.int IntKind.i64 N, .slice A es.length cap] 26)).alloc (.cells #[] 27):=⟨_,rfl⟩
 rw[←hW] at bx HOU⊢
 have hsW:W.heap.size=w.heap.size+2:=by rw[hW];simp
 have L0:Hid (W.cell? ⟨w.heap.size,0,none⟩=some (.int .i64 g1)):=hDD (by rw[hW];simp[go_sem])
 have L1:Hid (W.cell? ⟨w.heap.size,1,none⟩=some (.int .i64 N)):=hDD (by rw[hW];simp[go_sem])
 have L2:Hid (W.cell? ⟨w.heap.size,2,none⟩=some (.slice A es.length cap)):=hDD (by rw[hW];simp[go_sem])
 have BX:=hDD bx
 have HA:Hid (∀w',Below W.heap.size W w'→ArgG w' (.agg #[.int .i64 g1, .int .i64 N, .slice A es.length cap]) (g1,N,es)):=hDD fun w' hb=>HG.out.below (BX.out.trans (hb.mono BX.out.size))
 clear hW bx
 refine(specWholeGroup_any g1 W hi1).mono ?_
 rintro e w1 ⟨hno,hyes,b1⟩
 obtain⟨x,y,A',n',c',bb,rfl,hbb0,hag⟩: ∃(x y:Int) (A':Option Addr) (n' c':Nat) (bb:Bool),e= .returned (.tuple #[.agg #[.int .i64 x, .int .i64 y, .slice A' n' c'], .bool bb])∧bb=inB g1 1 3∧(bb=true→ArgG w1 (.agg #[.int .i64 x, .int .i64 y, .slice A' n' c']) (wholeG g1.toNat)):=by
  rcases e0:inB g1 1 3 with _ | _
  ·obtain⟨r,rfl,rfl⟩:=hno e0
   exact⟨_,_,_,_,_,_,rfl,rfl,fun h=>by cases h⟩
  ·obtain⟨r,rfl,h⟩:=hyes e0
   have h':=h
   obtain⟨s,rfl,_,_,ha⟩:=h
   obtain⟨As,cs,rfl⟩:=ha.form
   exact⟨_,_,_,_,_,_,rfl,rfl,fun _=>h'⟩
 have HAG:=hDD hag
 have hbb:=hDD hbb0
 have B1:=hDD b1
 have hs1:=b1.size
 clear hno hyes hag b1 hbb0
 have bz:Below w1.heap.size w1 (w1.alloc (Obj.cells #[Value.int IntKind.i64 x,Value.int IntKind.i64 y, .slice A' n' c'] 26)):=(Below.refl _ _).alloc (Nat.le_refl _) _
 have q0:=(B1.out.cell (p:=⟨w.heap.size,0,none⟩) (by show w.heap.size<_;omega)).trans L0.out
 have q1:=(B1.out.cell (p:=⟨w.heap.size,1,none⟩) (by show w.heap.size<_;omega)).trans L1.out
 have q2:=(B1.out.cell (p:=⟨w.heap.size,2,none⟩) (by show w.heap.size<_;omega)).trans L2.out
 have q0':=(bz.cell (p:=⟨w.heap.size,0,none⟩) (by show w.heap.size<_;omega)).trans q0
 have q1':=(bz.cell (p:=⟨w.heap.size,1,none⟩) (by show w.heap.size<_;omega)).trans q1
 have q2':=(bz.cell (p:=⟨w.heap.size,2,none⟩) (by show w.heap.size<_;omega)).trans q2
 go_wp2_with fail
 obtain⟨W2,hW2⟩: ∃W,W=w1.alloc (Obj.cells #[Value.int IntKind.i64 x,Value.int IntKind.i64 y, .slice A' n' c'] 26):=⟨_,rfl⟩
 rw[←hW2] at bz⊢
 have hsW2:W2.heap.size=w1.heap.size+1:=by rw[hW2];simp
 have M0:Hid (W2.cell? ⟨w1.heap.size,0,none⟩=some (.int .i64 x)):=hDD (by rw[hW2];simp[go_sem])
 have M1:Hid (W2.cell? ⟨w1.heap.size,1,none⟩=some (.int .i64 y)):=hDD (by rw[hW2];simp[go_sem])
 have M2:Hid (W2.cell? ⟨w1.heap.size,2,none⟩=some (.slice A' n' c')):=hDD (by rw[hW2];simp[go_sem])
 have B2:Hid (Below W.heap.size W W2):=hDD (B1.out.trans (bz.mono hs1))
 have HAG2:Hid (bb=true→ArgG W2 (.agg #[.int .i64 x, .int .i64 y, .slice A' n' c']) (wholeG g1.toNat)):=hDD fun h=>(HAG.out h).below bz
 clear hW2 bz q0 q1 q2 q0' q1' q2' HAG B1
 refine(specIsSubgroup_any _ (g1,N,es) W2 (HA.out _ B2.out)).mono ?_
 rintro e w3 ⟨rfl,b3⟩
 have hs3:=b3.size
 have B3:Hid (Below W.heap.size W w3):=hDD (B2.out.trans (b3.mono B2.out.size))
 have HO3:Hid (OwII (w.heap.size+1) (w.heap.size+2) (.slice (some ⟨w.heap.size+1,0,none⟩) 0 0) [] w3):=hDD (OwnL.keep HOU.out EI.stable fun b h1 h2=>B3.out.block b (by omega))
 have HB3:Hid (Below w.heap.size w w3):=hDD (BX.out.trans (B3.out.mono BX.out.size))
 have m0:=(b3.cell (p:=⟨w1.heap.size,0,none⟩) (by show w1.heap.size<_;omega)).trans M0.out
 have m1:=(b3.cell (p:=⟨w1.heap.size,1,none⟩) (by show w1.heap.size<_;omega)).trans M1.out
 have m2:=(b3.cell (p:=⟨w1.heap.size,2,none⟩) (by show w1.heap.size<_;omega)).trans M2.out
 have HAG3:Hid (bb=true→ArgG w3 (.agg #[.int .i64 x, .int .i64 y, .slice A' n' c']) (wholeG g1.toNat)):=hDD fun h=>(HAG2.out h).below b3
 clear b3 HAG2 M0 M1 M2
 rcases ec:coreB (g1,N,es) with _ | _
 ·have F:Hid (rootsF (g1,N,es) m= []):=hDD (by unfold rootsF;rw[ec];rfl)
  clear ec
  go_wp2
  go_ret
  rw[F.out]
  exact⟨_,rfl,OwnL.widen HO3.out (by omega) (by omega),HB3.out⟩
 obtain rfl:bb=true:=by rw[hbb.out];exact HCB.out ec
 rcases e2:inB m 0 3 with _ | _
 ·have F:Hid (rootsF (g1,N,es) m= []):=hDD (by unfold rootsF;rw[ec,e2];rfl)
  have HM:=hDD e2
  clear ec e2
  go_wp2_with (go_at_call 68;refine(l1In_any _ _ _ _).mono ?_;rintro e w' ⟨rfl,rfl⟩;rw[HM.out])
  go_ret
  rw[F.out]
  exact⟨_,rfl,OwnL.widen HO3.out (by omega) (by omega),HB3.out⟩
 have hr13:=inB_iff.1 (HCB.out ec)
 have hm4:=inB_iff.1 e2
 obtain⟨rk,rfl⟩: ∃rk:Nat,g1=(rk:Int):=⟨g1.toNat,by omega⟩
 obtain⟨mm,rfl⟩: ∃k:Nat,m=(k:Int):=⟨m.toNat,by omega⟩
 obtain⟨L,hL⟩: ∃L,L=uptW (lettersL rk) mm:=⟨_,rfl⟩
 have F:Hid (rootsF ((rk:Int),N,es) mm=L.filter (rootZ ((rk:Int),N,es))):=hDD (by unfold rootsF;rw[ec,e2,Int.toNat_natCast,Int.toNat_natCast,hL];rfl)
 have HW:Hid (∀x∈L,x.length≤4):=hDD fun x hx=>by rw[hL] at hx;have:=uptW_word (r:=rk) (by omega) (by omega) (n:=mm) (by omega) x hx;omega
 have HLL:Hid (L.length≤1073741824):=hDD (by
  rw[hL]
  have:=uptW_len (lettersL rk) (by rw[lettersL_len];omega) mm
  have h2:6^(mm+1)≤6^5:=Nat.pow_le_pow_right (by omega) (by omega)
  omega)
 have HAG4:=hDD (HAG3.out rfl)
 rw[Int.toNat_natCast] at HAG4
 have HLW:Hid (∀(v:Value) (W:World),ArgG W v (wholeG rk)→Calls Tryz.prog 77 #[v, .int .i64 0, .int .i64 mm] W fun e w'=> ∃r,e= .returned r∧OwII W.heap.size w'.heap.size r L w'∧Below W.heap.size W w'):=hDD fun v W hg=>by
  have:=specLoopWords_any v (wholeG rk) 0 mm W hg (whole_fold (by omega) (by omega)) ⟨by decide,by show(0:Int)<1;decide⟩ (by omega)
  rw[show(wholeG rk).1.toNat=rk from Int.toNat_natCast rk,show(wholeG rk).2.2=wholeE rk from rfl,whole_loops (by omega),←hL] at this
  exact this
 have HM:=hDD e2
 clear hL ec e2 HAG3
 go_wp2_with (go_at_call 68;refine(l1In_any _ _ _ _).mono ?_;rintro e w' ⟨rfl,rfl⟩;rw[HM.out])
 refine(HLW.out _ _ HAG4.out).mono ?_
 rintro e w4 ⟨rl,rfl,ol,b4⟩
 obtain⟨Al,cl_,rfl,hcl,hml,_⟩:=OwnL.len ol
 have hs4:=b4.size
 have B4:Hid (Below W.heap.size W w4):=hDD (B3.out.trans (b4.mono B3.out.size))
 have HF0:Hid (OwFil EI 27 1 (w.heap.size+1) w4.heap.size w4 (.slice Al L.length cl_) L (.slice (some ⟨w.heap.size+1,0,none⟩) 0 0) (rootZ ((rk:Int),N,es)) 0):=hDD
  (fil_start (ol.widen (show w.heap.size+2≤_ by omega) (Nat.le_refl _)) (OwnL.keep HO3.out EI.stable fun b h1 h2=>b4.block b (by omega)) (by omega) (by omega))
 have HB4:Hid (Below W.heap.size W w4∧Below w.heap.size w w4):=hDD ⟨B4.out,BX.out.trans (B4.out.mono BX.out.size)⟩
 unfold maxLen at hml
 have hll:=HLL.out
 clear ol b4 m0 m1 m2 HAG4 HLW HO3 HM
 go_wp2
 go_loopw [5,9] (fun out i wr=> ∃k:Nat,k≤L.length∧i= .int .i64 k∧OwFil EI 27 1 (w.heap.size+1) wr.heap.size wr (.slice Al L.length cl_) L out (rootZ ((rk:Int),N,es)) k∧Below (w.heap.size+1) W wr) (fun _ i _=>L.length-(intOf i).toNat)
 case atStart=>exact⟨0,Nat.zero_le _,rfl,HF0.out,B4.out.mono (by omega)⟩
 case round=>
  obtain⟨k,hk,rfl,hf,hb⟩:=hrel
  have HFI:=hDD hf
  have HB:=hDD hb
  obtain⟨wi,rfl⟩: ∃wi:World,wi=wr:=⟨_,rfl⟩
  clear hf hb
  have hwi:=HB.out.size
  by_cases hlt:k<L.length
  ·obtain⟨g,A1,c1,rfl,hcell,h1,h2,hrd⟩:=fil_row HFI.out hlt
   have HRD:=hDD hrd
   have hx4:=HW.out L[k] (List.getElem_mem hlt)
   have q0:=(HB.out.cell (p:=⟨w.heap.size,0,none⟩) (by show w.heap.size<w.heap.size+1;omega)).trans L0.out
   have q1:=(HB.out.cell (p:=⟨w.heap.size,1,none⟩) (by show w.heap.size<w.heap.size+1;omega)).trans L1.out
   have q2:=(HB.out.cell (p:=⟨w.heap.size,2,none⟩) (by show w.heap.size<w.heap.size+1;omega)).trans L2.out
   have HIS:=hDD (fun W' (hh:Below wi.heap.size wi W')=>specPowerIn_any (.agg #[.int .i64 rk, .int .i64 N, .slice A es.length cap]) (.slice A1 L[k].length c1) ((rk:Int),N,es) L[k] W' (HG.out.below (BX.out.trans ((HB.out.trans (hh.mono (by omega))).mono (by omega)))) (HRD.out.below hh) (by omega))
   have HSK:=hDD (fun W (h:OwFil EI 27 1 (w.heap.size+1) W.heap.size W (.slice (some ⟨g,0,none⟩) L.length cl_) L u5 (rootZ ((rk:Int),N,es)) k) (hp:rootZ ((rk:Int),N,es) L[k]=false)=>h.skip hlt hp)
   have HPS:Hid (rootZ ((rk:Int),N,es) L[k]=decide (1<powF ((rk:Int),N,es) L[k])):=hDD rfl
   have hkI:(k:Int)<(L.length:Int):=by omega
   unfold maxLen at h2
   clear hrd
   generalize powF ((rk:Int),N,es) L[k]=pw at HIS HPS
   generalize hps:rootZ ((rk:Int),N,es) L[k]=ps at HPS HSK
   have HPS2:=hDD hps
   obtain⟨ln,hln⟩: ∃n,n=L[k].length:=⟨_,rfl⟩
   rw[←hln] at hcell h1 hx4 HIS HRD
   clear hps hln
   have hlw:w.heap.size<wi.heap.size:=by omega
   have fC:=BelW.cell hcell (World.block_lt_of_cell? wi _ hcell)
   have fQ0:=BelW.cell q0 hlw
   have fQ1:=BelW.cell q1 hlw
   have fQ2:=BelW.cell q2 hlw
   rcases e5:decide ((1:Int)<pw) with _ | _
   ·have HP:=HPS.out
    rw[e5] at HP
    subst HP
    go_wp2_with fail
    (refine wp_region_quiet_bel (by kernel_rfl) (by kernel_rfl) ?_;(repeat(go_big_quiet_step (first | (go_at_call 9;exact Calls.bel_of (HIS.out _ (BelW.h _))))));refine wpQuiet_nil ?_;intro wz hw';obtain⟨pq,hw''⟩:=hw';have bz:=pq.h;rw[←hw''] at bz;clear hw'' pq)
    have HF3:=hDD (HFI.out.below EI.stable bz)
    have HB3:=hDD (HB.out.trans (bz.mono (by omega)))
    have HF4:=hDD (HSK.out wz HF3.out (by first | trivial | rfl))
    clear bz hcell q0 q1 q2 fC fQ0 fQ1 fQ2
    go_wp2
    go_roundw
    case rel=>exact⟨k+1,by omega,by go_num,HF4.out,HB3.out⟩
    case measure=>simp[intOf];omega
   ·have HP:=HPS.out
    rw[e5] at HP
    subst HP
    go_wp2_with fail
    (refine wp_region_quiet_bel (by kernel_rfl) (by kernel_rfl) ?_;(repeat(go_big_quiet_step (first | (go_at_call 9;exact Calls.bel_of (HIS.out _ (BelW.h _))))));refine wpQuiet_nil ?_;intro wz hw';obtain⟨pq,hw''⟩:=hw';have bz:=pq.h;rw[←hw''] at bz;clear hw'' pq)
    have HF3:=hDD (HFI.out.below EI.stable bz)
    have HB3:=hDD (HB.out.trans (bz.mono (by omega)))
    have hc3:=(bz.cell (p:=⟨g,k,none⟩) (World.block_lt_of_cell? wi _ hcell)).trans hcell
    have hw3:w.heap.size≤wz.heap.size:=by have:=bz.size;omega
    have hw4:w.heap.size+1≤wz.heap.size:=by have:=bz.size;omega
    clear bz hcell q0 q1 q2 fC fQ0 fQ1 fQ2
    go_wp2_with (at_builtin;refine push_fil_ints rfl (.tmp 46) (.tmp 51) rfl HF3.out hw4 ((Below.refl _ _).alloc (Nat.le_refl _) (.cells #[.slice A1 ln c1] 27)) rfl hlt HPS2.out wz.heap.size g L.length cl_ rfl rfl (.slice A1 ln c1) rfl (cell_new1 _ _ _) hc3 hll ?_;intro v4 w4 o4 g4;have HF4:=hDD o4;have HB4:=hDD (HB3.out.trans ((((Below.refl (w.heap.size+1) wz).alloc hw4 (.cells #[.slice A1 ln c1] 27)).grown g4 (by simp;omega) (fun b hb=>(HF3.out.lt hb).1))));clear o4 g4)
    go_roundw
    case rel=>exact⟨k+1,by omega,by go_num,HF4.out,HB4.out⟩
    case measure=>simp[intOf];omega
  ·obtain rfl:k=L.length:=by omega
   have HFF:=hDD HFI.out.fin
   have HBF:Hid (Below w.heap.size w wi):=hDD (BX.out.trans (HB.out.mono (by omega)))
   obtain⟨Ao,co,hov,_⟩:=OwnL.len HFF.out
   subst hov
   go_wp2
   go_ret
   rw[F.out]
   exact⟨_,rfl,OwnL.widen HFF.out (by omega) (Nat.le_refl _),HBF.out⟩
set_option maxHeartbeats 1000000 in
theorem implRootsIn_any (v:Value) (g:GrD) (m:Int) (w:World) (h:ArgG w v g):
  Calls Tryz.prog 18 #[v, .int .i64 m] w fun e w'=> ∃o,e= .returned o∧OwII w.heap.size w'.heap.size o (rootsF g m) w'∧Below w.heap.size w w':=by
 have HG:=hDD h
 have HCB:Hid (coreB g=true→inB g.1 1 3=true):=hDD fun hc=>inB_iff.2 (grB_parts (coreB_grB hc)).1
 obtain⟨s,rfl,hi1,hi2,ha⟩:=h
 obtain⟨A,cap,rfl⟩:=ha.form
 obtain⟨g1,N,es⟩:=g
 simp only at*
 clear ha
 go_enter Tryz.func18,Tryz.ntmps18
 have bx:Below w.heap.size w ((w.alloc (Obj.cells #[Value.int IntKind.i64 g1,Value.int IntKind.i64 N, .slice A es.length cap] 26)).alloc (.cells #[] 27)):=(by repeat(first | exact Below.refl _ _ | (refine Below.setCell ?_ (by first | omega | (simp<;>omega)) _) | (refine bel_drewN ?_ _) | (refine Below.drew ?_) | (refine Below.alloc ?_ (by first | omega | (simp<;>omega)) _)))
 have HOU:Hid (OwII (w.heap.size+1) (w.heap.size+2) (.slice (some ⟨w.heap.size+1,0,none⟩) 0 0) [] ((w.alloc (Obj.cells #[Value.int IntKind.i64 g1,Value.int IntKind.i64 N, .slice A es.length cap] 26)).alloc (.cells #[] 27))):=hDD (by
  have:=OwII_lit (lo:=w.heap.size+1) (w.alloc (Obj.cells #[Value.int IntKind.i64 g1,Value.int IntKind.i64 N, .slice A es.length cap] 26)) (by simp)
  simpa using this)
 go_wp2_with fail
 obtain⟨W,hW⟩: ∃W,W=(w.alloc (Obj.cells #[Value.int IntKind.i64 g1,Value.int IntKind.i64 N, .slice A es.length cap] 26)).alloc (.cells #[] 27):=⟨_,rfl⟩
 rw[←hW] at bx HOU⊢
 have hsW:W.heap.size=w.heap.size+2:=by rw[hW];simp
 have L0:Hid (W.cell? ⟨w.heap.size,0,none⟩=some (.int .i64 g1)):=hDD (by rw[hW];simp[go_sem])
 have L1:Hid (W.cell? ⟨w.heap.size,1,none⟩=some (.int .i64 N)):=hDD (by rw[hW];simp[go_sem])
 have L2:Hid (W.cell? ⟨w.heap.size,2,none⟩=some (.slice A es.length cap)):=hDD (by rw[hW];simp[go_sem])
 have BX:=hDD bx
 have HA:Hid (∀w',Below W.heap.size W w'→ArgG w' (.agg #[.int .i64 g1, .int .i64 N, .slice A es.length cap]) (g1,N,es)):=hDD fun w' hb=>HG.out.below (BX.out.trans (hb.mono BX.out.size))
 clear hW bx
 refine(implIsCore_any _ (g1,N,es) W (HA.out _ (Below.refl _ _))).mono ?_
 rintro e w3 ⟨rfl,b3⟩
 have hs3:=b3.size
 have B3:=hDD b3
 have HO3:Hid (OwII (w.heap.size+1) (w.heap.size+2) (.slice (some ⟨w.heap.size+1,0,none⟩) 0 0) [] w3):=hDD (OwnL.keep HOU.out EI.stable fun b h1 h2=>B3.out.block b (by omega))
 have HB3:Hid (Below w.heap.size w w3):=hDD (BX.out.trans (B3.out.mono BX.out.size))
 have q0:=(b3.cell (p:=⟨w.heap.size,0,none⟩) (by show w.heap.size<_;omega)).trans L0.out
 clear b3
 rcases ec:coreB (g1,N,es) with _ | _
 ·have F:Hid (rootsF (g1,N,es) m= []):=hDD (by unfold rootsF;rw[ec];rfl)
  clear ec
  go_wp2
  go_ret
  rw[F.out]
  exact⟨_,rfl,OwnL.widen HO3.out (by omega) (by omega),HB3.out⟩
 rcases e2:inB m 0 3 with _ | _
 ·have F:Hid (rootsF (g1,N,es) m= []):=hDD (by unfold rootsF;rw[ec,e2];rfl)
  have HM:=hDD e2
  clear ec e2
  go_wp2_with (go_at_call 74;refine(within_any _ _ _ _).mono ?_;rintro e w' ⟨rfl,rfl⟩;rw[HM.out])
  go_ret
  rw[F.out]
  exact⟨_,rfl,OwnL.widen HO3.out (by omega) (by omega),HB3.out⟩
 have hr13:=inB_iff.1 (HCB.out ec)
 have hm4:=inB_iff.1 e2
 obtain⟨rk,rfl⟩: ∃rk:Nat,g1=(rk:Int):=⟨g1.toNat,by omega⟩
 obtain⟨mm,rfl⟩: ∃k:Nat,m=(k:Int):=⟨m.toNat,by omega⟩
 obtain⟨L,hL⟩: ∃L,L=uptW (lettersL rk) mm:=⟨_,rfl⟩
 have F:Hid (rootsF ((rk:Int),N,es) mm=L.filter (rootZ ((rk:Int),N,es))):=hDD (by unfold rootsF;rw[ec,e2,Int.toNat_natCast,Int.toNat_natCast,hL];rfl)
 have HW:Hid (∀x∈L,x.length≤4):=hDD fun x hx=>by rw[hL] at hx;have:=uptW_word (r:=rk) (by omega) (by omega) (n:=mm) (by omega) x hx;omega
 have HLL:Hid (L.length≤1073741824):=hDD (by
  rw[hL]
  have:=uptW_len (lettersL rk) (by rw[lettersL_len];omega) mm
  have h2:6^(mm+1)≤6^5:=Nat.pow_le_pow_right (by omega) (by omega)
  omega)
 have HLW:=hDD (wordsUpTo_any rk mm w3 (by omega) (by omega))
 rw[←hL] at HLW
 have HM:=hDD e2
 clear hL ec e2
 go_wp2_with (first | (go_at_call 74;refine(within_any _ _ _ _).mono ?_;rintro e w' ⟨rfl,rfl⟩;rw[HM.out]) | (go_at_call 75;refine HLW.out.mono ?_;rintro e w4 ⟨rl,rfl,ol,b4⟩;have OL:=hDD ol;obtain⟨Al,cl_,rfl,hcl,hml,_⟩:=OwnL.len ol;have B34:=hDD b4;clear ol b4))
 have hs4:=B34.out.size
 have B4:Hid (Below W.heap.size W w4):=hDD (B3.out.trans (B34.out.mono B3.out.size))
 have HF0:Hid (OwFil EI 27 1 (w.heap.size+1) w4.heap.size w4 (.slice Al L.length cl_) L (.slice (some ⟨w.heap.size+1,0,none⟩) 0 0) (rootZ ((rk:Int),N,es)) 0):=hDD
  (fil_start (OL.out.widen (show w.heap.size+2≤_ by omega) (Nat.le_refl _)) (OwnL.keep HO3.out EI.stable fun b h1 h2=>B34.out.block b (by omega)) (by omega) (by omega))
 unfold maxLen at hml
 have hll:=HLL.out
 clear q0 HLW HO3 HM OL
 go_loopw [5,23] (fun out i wr=> ∃k:Nat,k≤L.length∧i= .int .i64 k∧OwFil EI 27 1 (w.heap.size+1) wr.heap.size wr (.slice Al L.length cl_) L out (rootZ ((rk:Int),N,es)) k∧Below (w.heap.size+1) W wr) (fun _ i _=>L.length-(intOf i).toNat)
 case atStart=>exact⟨0,Nat.zero_le _,rfl,HF0.out,B4.out.mono (by omega)⟩
 case round=>
  obtain⟨k,hk,rfl,hf,hb⟩:=hrel
  have HFI:=hDD hf
  have HB:=hDD hb
  obtain⟨wi,rfl⟩: ∃wi:World,wi=wr:=⟨_,rfl⟩
  clear hf hb
  have hwi:=HB.out.size
  by_cases hlt:k<L.length
  ·obtain⟨g,A1,c1,rfl,hcell,h1,h2,hrd⟩:=fil_row HFI.out hlt
   have HRD:=hDD hrd
   have hx4:=HW.out L[k] (List.getElem_mem hlt)
   have q0:=(HB.out.cell (p:=⟨w.heap.size,0,none⟩) (by show w.heap.size<w.heap.size+1;omega)).trans L0.out
   have q1:=(HB.out.cell (p:=⟨w.heap.size,1,none⟩) (by show w.heap.size<w.heap.size+1;omega)).trans L1.out
   have q2:=(HB.out.cell (p:=⟨w.heap.size,2,none⟩) (by show w.heap.size<w.heap.size+1;omega)).trans L2.out
   have HIS:=hDD (implPowerIn_any (.agg #[.int .i64 rk, .int .i64 N, .slice A es.length cap]) (.slice A1 L[k].length c1) ((rk:Int),N,es) L[k] wi (HG.out.below (BX.out.trans (HB.out.mono (by omega)))) HRD.out (by omega))
   have HSK:=hDD (fun W (h:OwFil EI 27 1 (w.heap.size+1) W.heap.size W (.slice (some ⟨g,0,none⟩) L.length cl_) L u5 (rootZ ((rk:Int),N,es)) k) (hp:rootZ ((rk:Int),N,es) L[k]=false)=>h.skip hlt hp)
   have HPS:Hid (rootZ ((rk:Int),N,es) L[k]=decide (1<powF ((rk:Int),N,es) L[k])):=hDD rfl
   have hkI:(k:Int)<(L.length:Int):=by omega
   unfold maxLen at h2
   clear hrd
   generalize powF ((rk:Int),N,es) L[k]=pw at HIS HPS
   generalize hps:rootZ ((rk:Int),N,es) L[k]=ps at HPS HSK
   have HPS2:=hDD hps
   obtain⟨ln,hln⟩: ∃n,n=L[k].length:=⟨_,rfl⟩
   rw[←hln] at hcell h1 hx4 HIS HRD
   clear hps hln
   have hlw:w.heap.size<wi.heap.size:=by omega
   go_wp2_with fail
   refine HIS.out.mono ?_
   rintro e wz ⟨rfl,bz⟩
   have HF3:=hDD (HFI.out.below EI.stable bz)
   have HB3:=hDD (HB.out.trans (bz.mono (by omega)))
   have hc3:=(bz.cell (p:=⟨g,k,none⟩) (World.block_lt_of_cell? wi _ hcell)).trans hcell
   have hw4:w.heap.size+1≤wz.heap.size:=by have:=bz.size;omega
   clear bz hcell q0 q1 q2
   rcases e5:decide ((1:Int)<pw) with _ | _
   ·have HP:=HPS.out
    rw[e5] at HP
    subst HP
    have HF4:=hDD (HSK.out wz HF3.out (by first | trivial | rfl))
    go_wp2
    go_roundw
    case rel=>exact⟨k+1,by omega,by go_num,HF4.out,HB3.out⟩
    case measure=>simp[intOf];omega
   ·have HP:=HPS.out
    rw[e5] at HP
    subst HP
    go_wp2_with (at_builtin;refine push_fil_ints rfl (.tmp 31) (.tmp 33) rfl HF3.out hw4 ((Below.refl _ _).alloc (Nat.le_refl _) (.cells #[.slice A1 ln c1] 27)) rfl hlt HPS2.out wz.heap.size g L.length cl_ rfl rfl (.slice A1 ln c1) rfl (cell_new1 _ _ _) hc3 hll ?_;intro v4 w4 o4 g4;have HF4:=hDD o4;have HB4:=hDD (HB3.out.trans ((((Below.refl (w.heap.size+1) wz).alloc hw4 (.cells #[.slice A1 ln c1] 27)).grown g4 (by simp;omega) (fun b hb=>(HF3.out.lt hb).1))));clear o4 g4)
    go_roundw
    case rel=>exact⟨k+1,by omega,by go_num,HF4.out,HB4.out⟩
    case measure=>simp[intOf];omega
  ·obtain rfl:k=L.length:=by omega
   have HFF:=hDD HFI.out.fin
   have HBF:Hid (Below w.heap.size w wi):=hDD (BX.out.trans (HB.out.mono (by omega)))
   obtain⟨Ao,co,hov,_⟩:=OwnL.len HFF.out
   subst hov
   go_wp2
   go_ret
   rw[F.out]
   exact⟨_,rfl,OwnL.widen HFF.out (by omega) (Nat.le_refl _),HBF.out⟩
end Go.Proofs.YteobmaambgmdbaaGreat
namespace Go.Proofs.YteobmaambgmdbaaGreat
set_option maxRecDepth 20000
set_option linter.unusedVariables false
set_option linter.unusedSimpArgs false
open Go.RowKit
theorem lt_cell0 {w:World} {b o:Nat} {v:Value} (h:w.cell? ⟨b,o,none⟩=some v):b<w.heap.size:=by
 rcases Nat.lt_or_ge b w.heap.size with h' | h'
 ·exact h'
 ·simp[World.cell?,Array.getElem?_eq_none h'] at h
theorem ArgC.below {w w':World} {v:Value} {cs:List Int} (h:ArgC w v cs) (hb:Below w.heap.size w w'):ArgC w' v cs:=by
 obtain⟨A,cap,hv,h1,h2,h3,h4⟩:=h
 refine⟨A,cap,hv,h1,h2,h3,fun h0=> ?_⟩
 obtain⟨b,off,hA,hc⟩:=h4 h0
 exact⟨b,off,hA,fun i hi=>(World.cell?_of_block (w:=w) (hb.block b (lt_cell0 (hc 0 h0)))).trans (hc i hi)⟩
set_option maxHeartbeats 400000 in
theorem sameInts_any (v u:Value) (xs ys:List Int) (w:World) (h:ArgI w v xs) (h':ArgI w u ys):
  Calls Tryz.prog 34 #[v,u] w fun e w'=>e= .returned (.bool (decide (xs=ys)))∧ ∃n,w'=w.drewN n:=by
 obtain⟨A,cap,rfl,hcap,hm,hr,hb⟩:=h
 obtain⟨A',cap',rfl,hcap',hm',hr',hb'⟩:=h'
 unfold maxLen at hm hm'
 by_cases hne:xs.length=ys.length
 ·have hd:((xs.length:Int) != (ys.length:Int))=false:=by simp[hne]
  have HNE:=hDD hne
  clear hne
  go_enter Tryz.func34,Tryz.ntmps34
  go_wp2
  go_loopw [5] (fun i wr=> ∃k:Nat,k≤xs.length∧i= .int .i64 k∧xs.take k=ys.take k∧ ∃n,wr=w.drewN n) (fun i _=>xs.length-(intOf i).toNat)
  case atStart=>exact⟨0,Nat.zero_le _,rfl,by simp,0,rfl⟩
  case round=>
   obtain⟨k,hk,rfl,heq,n,rfl⟩:=hrel
   have HEQ:=hDD heq
   clear heq
   by_cases hlt:k<xs.length
   ·obtain⟨b,off,rfl,hc⟩:=hb (by omega)
    have hlt':k<ys.length:=by have:=HNE.out;omega
    obtain⟨b',off',rfl,hc'⟩:=hb' (by omega)
    have hcell:=hc k hlt
    have hcell':=hc' k hlt'
    clear hc hc' hb hb'
    by_cases hx:xs[k]=ys[k]
    ·have hx1:(xs[k] != ys[k])=false:=by simp[hx]
     have HX:=hDD hx
     clear hx
     go_wp2
     go_quiet (fail)
     go_wp2
     go_roundw
     case rel=>exact⟨k+1,by omega,by go_num,take_eq_succ HEQ.out hlt hlt' HX.out,_,rfl⟩
     case measure=>simp[intOf];omega
    ·have hx1:(xs[k] != ys[k])=true:=by simp[hx]
     go_wp2
     go_quiet (fail)
     go_wp2
     go_ret
     exact⟨ret_bool (by symm;rw[decide_eq_false_iff_not];rintro rfl;exact hx rfl),_,World.drewN_drewN _ _ _⟩
   ·obtain rfl:k=xs.length:=by omega
    go_wp2
    go_ret
    refine⟨ret_bool ?_,n,rfl⟩
    have h1:=HEQ.out
    rw[List.take_length,HNE.out,List.take_length] at h1
    simp[h1]
 ·have hd:((xs.length:Int) != (ys.length:Int))=true:=by simp;omega
  go_enter Tryz.func34,Tryz.ntmps34
  go_wp2
  go_ret
  exact⟨ret_bool (by symm;rw[decide_eq_false_iff_not];rintro rfl;exact hne rfl),0,rfl⟩
set_option maxHeartbeats 1000000 in
theorem sameWords_any (v u:Value) (ds ds':List (List Int)) (w:World) {lo hi lo' hi':Nat} (h:OIIs lo hi v ds w) (h':OIIs lo' hi' u ds' w) (hh:hi≤w.heap.size) (hh':hi'≤w.heap.size):
  Calls Tryz.prog 17 #[v,u] w fun e w'=>e= .returned (.bool (decide (ds=ds')))∧Below w.heap.size w w':=by
 obtain⟨A,cap,rfl,hcap,hm,_⟩:=h.len
 obtain⟨A',cap',rfl,hcap',hm',_⟩:=h'.len
 have H:=hDD h
 have H':=hDD h'
 unfold maxLen at hm hm'
 clear h h'
 by_cases hne:ds.length=ds'.length
 ·have hd:((ds.length:Int) != (ds'.length:Int))=false:=by simp[hne]
  have HNE:=hDD hne
  clear hne
  go_enter Tryz.func17,Tryz.ntmps17
  go_wp2
  go_loopw [5] (fun i wr=> ∃k:Nat,k≤ds.length∧i= .int .i64 k∧ds.take k=ds'.take k∧Below w.heap.size w wr) (fun i _=>ds.length-(intOf i).toNat)
  case atStart=>exact⟨0,Nat.zero_le _,rfl,by simp,Below.refl _ _⟩
  case round=>
   obtain⟨k,hk,rfl,heq,hbel⟩:=hrel
   have HEQ:=hDD heq
   have HB:=hDD hbel
   have hsz:=hbel.size
   by_cases hlt:k<ds.length
   ·have hlt':k<ds'.length:=by have:=HNE.out;omega
    obtain⟨g,cs,Fe,rfl,_,hg,hE,hcw,_,_,hc,_⟩:=(H.out.keep EI.stable (w':=wr) fun b _ hb=>hbel.block b (by omega)).focus EI.stable hlt
    obtain⟨g',cs',Fe',rfl,_,hg',hE',hcw',_,_,hc',_⟩:=(H'.out.keep EI.stable (w':=wr) fun b _ hb=>hbel.block b (by omega)).focus EI.stable hlt'
    obtain⟨s,rfl,ho,_⟩:=hE
    obtain⟨s',rfl,ho',_⟩:=hE'
    have c0:=hc 0 (by simp)
    have c0':=hc' 0 (by simp)
    simp only[List.getElem_cons_zero,Nat.add_zero,Nat.mul_one] at c0 c0'
    have HQ:Hid (ds.take (k+1)=ds'.take (k+1)↔ds[k]=ds'[k]):=hDD ⟨fun e=>by
     have:=congrArg (fun l=>l[k]?) e
     simpa[hlt,hlt'] using this,fun e=>take_eq_succ HEQ.out hlt hlt' e⟩
    have HN:Hid (ds[k]≠ds'[k]→ds≠ds'):=hDD (fun e1 e2=>by subst e2;exact e1 rfl)
    have X1:=hDD ho
    have X2:=hDD ho'
    have hgw:g<wr.heap.size:=by omega
    have hgw':g'<wr.heap.size:=by omega
    clear hc hc' heq hbel ho ho'
    generalize ds[k]=d at*
    generalize ds'[k]=d' at*
    obtain⟨A2,c2,rfl,_⟩:=OwI.form X1.out
    obtain⟨A3,c3,rfl,_⟩:=OwI.form X2.out
    go_wp2_with fail
    go_quiet ((go_at_call 34;exact(sameInts_any _ _ d d' _ (X1.out.arg.drewN _) (X2.out.arg.drewN _)).mono fun _ _ ⟨he,n,hn⟩=>⟨he,by rw[hn];exact⟨_,World.drewN_drewN _ _ _⟩⟩))
    rcases e2:decide (d=d') with _ | _
    ·go_wp2
     go_ret
     exact⟨ret_bool (by symm;rw[decide_eq_false_iff_not];exact HN.out (by simpa using e2)),bel_drewN HB.out _⟩
    ·go_wp2
     go_roundw
     case rel=>exact⟨k+1,by omega,by go_num,HQ.out.2 (by simpa using e2),bel_drewN HB.out _⟩
     case measure=>simp[intOf];omega
   ·obtain rfl:k=ds.length:=by omega
    go_wp2
    go_ret
    refine⟨ret_bool ?_,HB.out⟩
    have h1:=HEQ.out
    rw[List.take_length,HNE.out,List.take_length] at h1
    simp[h1]
 ·have hd:((ds.length:Int) != (ds'.length:Int))=true:=by simp;omega
  go_enter Tryz.func17,Tryz.ntmps17
  go_wp2
  go_ret
  exact⟨ret_bool (by symm;rw[decide_eq_false_iff_not];rintro rfl;exact hne rfl),Below.refl _ _⟩
def LsW (w:World) (v:Value) (L:List (List Int)):Prop:= ∃lo hi,OwII lo hi v L w∧hi≤w.heap.size
theorem LsW.below {w w':World} {v:Value} {L:List (List Int)} (h:LsW w v L) (hb:Below w.heap.size w w'):LsW w' v L:=by
 obtain⟨lo,hi,h,hh⟩:=h
 exact⟨lo,hi,h.keep EI.stable fun b _ hb'=>hb.block b (by omega),Nat.le_trans hh hb.size⟩
theorem LsW.form {w:World} {v:Value} {L:List (List Int)} (h:LsW w v L): ∃A c,v= .slice A L.length c:=by
 obtain⟨lo,hi,h,hh⟩:=h
 obtain⟨A,c,hv,_⟩:=h.len
 exact⟨A,c,hv⟩
theorem LsW.row {w:World} {A:Option Addr} {c:Nat} {L:List (List Int)} (h:LsW w (.slice A L.length c) L) {k:Nat} (hk:k<L.length):
  ∃g A2 c2,A=some ⟨g,0,none⟩∧g<w.heap.size∧w.cell? ⟨g,k,none⟩=some (.slice A2 L[k].length c2)∧RdI w (.slice A2 L[k].length c2) L[k]:=by
 obtain⟨lo,hi,h,hh⟩:=h
 obtain⟨g,cs,Fe,hA,_,hg,hE,hcw,_,_,hc,_⟩:=h.focus EI.stable hk
 obtain⟨s,rfl,ho,_⟩:=hE
 have c0:=hc 0 (by simp)
 simp only[List.getElem_cons_zero,Nat.add_zero,Nat.mul_one] at c0
 obtain⟨A2,c2,rfl,_⟩:=OwI.form ho
 refine⟨g,A2,c2,hA,by omega,c0,ho.rd⟩
theorem sameL (v u:Value) (L L':List (List Int)) (w:World) (h:LsW w v L) (h':LsW w u L'):
  Calls Tryz.prog 17 #[v,u] w fun e w'=>e= .returned (.bool (decide (L=L')))∧Below w.heap.size w w':=by
 obtain⟨_,_,h,hh⟩:=h
 obtain⟨_,_,h',hh'⟩:=h'
 exact sameWords_any v u L L' w h h' hh hh'
theorem big_any (v:Value) (cs:List Int) (w:World) (h:ArgC w v cs):
  Calls Tryz.prog 6 #[v] w fun e w'=>e= .returned (.bool (decide ((1048576:Int)<cs.length)))∧w=w':=by
 obtain⟨A,cap,rfl,_⟩:=h
 go_enter Tryz.func6,Tryz.ntmps6
 go_wp2
 exact bodyPost_ret (v:= .bool (decide ((1048576:Int)<cs.length))) (by simp[results,Tryz.results6,go_sem]) rfl ⟨rfl,rfl⟩
end Go.Proofs.YteobmaambgmdbaaGreat
namespace Go.Proofs.YteobmaambgmdbaaGreat
set_option maxRecDepth 20000
set_option linter.unusedVariables false
set_option linter.unusedSimpArgs false
open Go.ChangeShapes Go.WideShapes Go.ChangeAt Go.RowKit
theorem open_argB {H:Type} {enc:TypeId×Value→H} {W:World} {base:Nat} {spare:Nat→Bool} {held:Bool} {v:Value} {d:DataW H} {p:List MemPlace}
  (hv:Value.okWide Tryz.prog W .any base 22 v) (h:DataW.Trod enc Tryz.prog W 0 spare held 22 v d p): ∃xs,ArgC W v xs:=by
 obtain⟨a,len,cap,rfl⟩:=okWide_slice Tryz.underlying22 hv
 obtain⟨fuel,hf⟩:=h
 have hf:DataW.trod enc Tryz.prog W 0 spare held fuel 22 [.slice a len cap]=some (d,p):=by simpa[Value.cells] using hf
 rcases open_ints Tryz.underlying22 Tryz.underlying5 (by kernel_rfl) hf with ⟨hcs,_⟩ | ⟨x,l,c,zs,hcs,_,hl,hm,hz,_,hcell,hwz⟩
 ·simp at hcs
  obtain⟨rfl,rfl,rfl⟩:=hcs
  exact⟨[],none,0,rfl,by simp,by simp[maxLen],by simp,by simp⟩
 ·simp at hcs
  obtain⟨rfl,rfl,rfl⟩:=hcs
  have hlz:len≤zs.length:=by rw[hz];split<;>omega
  have hlen:(zs.take len).length=len:=by simp;omega
  refine⟨zs.take len,_,cap,by rw[hlen],by omega,hm,fun n hn=> ?_,fun h0=> ?_⟩
  ·have:=hwz n (List.mem_of_mem_take hn)
   simpa[Lit.wf,IntKind.min,IntKind.max,IntKind.signed,IntKind.bits] using this
  ·obtain⟨b,off,sp⟩:=x
   have hsp:sp=none:=by simpa[Addr.add] using World.cell?_spot (hcell 0 (by omega))
   subst hsp
   refine⟨b,off,rfl,fun i hi=> ?_⟩
   have:=hcell i (by omega)
   rw[Addr.add_lit] at this
   rw[this]
   simp[List.getD,show i<zs.length by omega]
end Go.Proofs.YteobmaambgmdbaaGreat
