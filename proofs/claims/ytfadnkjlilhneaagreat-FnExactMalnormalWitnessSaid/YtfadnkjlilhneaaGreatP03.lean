/- Parts of the proof: Dup, Part, Trim, Walk, TwP, FoldP, FoldU, CoreGS, Cpy, Tree. -/
import Derived.Test.YtfadnkjlilhneaaGreatP02
import Derived.Test.YtfadnkjlilhneaaGreatP01
import Derived.OrdersHeld
import Derived.Deep.RegionHeld3
import Derived.Lib.SliceRun
namespace Go.Proofs.YtfadnkjlilhneaaGreat
set_option maxRecDepth 20000
set_option linter.unusedVariables false
set_option linter.unusedSimpArgs false
open Go.RowKit
set_option maxHeartbeats 1000000 in
theorem compactE_any (A:Option Addr) (n cap:Nat) (es:List EdD) (w:World) (h:ArgE w (.slice A n cap) es) (hs:Srt cmpE es):
  Calls Tryz.prog 109 #[.slice A n cap] w fun e w'=>e= .returned (.slice A n cap)∧ ∃q,w'=w.drewN q:=by
 have H:=hDD h
 obtain⟨A',cap',hv,hcap,hm,_⟩:=h
 injection hv with e1 e2 e3
 subst e1 e2 e3
 unfold maxLen at hm
 have HS:=hDD hs
 clear hs
 by_cases hlt2:es.length<2
 ·have h1:(es.length:Int)<2:=by omega
  go_enter Tryz.func109,Tryz.ntmps109
  go_wp2
  go_ret
  exact⟨rfl,0,rfl⟩
 ·have h1: ¬(es.length:Int)<2:=by omega
  go_enter Tryz.func109,Tryz.ntmps109
  go_wp2
  go_loopw [3] (fun i wr=> ∃k:Nat,k+1≤es.length∧i= .int .i64 ((k:Int)+1)∧ ∃q,wr=w.drewN q) (fun i _=>es.length-(intOf i).toNat)
  case atStart=>exact⟨0,by omega,rfl,0,rfl⟩
  case round=>
   obtain⟨k,hk,rfl,q,rfl⟩:=hrel
   by_cases hlt:k+1<es.length
   ·obtain⟨b,off,rfl,hbl,c0,c1,c2,_⟩:=H.out.at hlt
    obtain⟨b2,off2,hA2,_,d0,d1,d2,_⟩:=H.out.at (k:=k) (by omega)
    obtain⟨rfl,rfl⟩:b=b2∧off=off2:=by simpa using hA2
    have hne:decide (es[k+1]=es[k])=false:=by
     rw[decide_eq_false_iff_not]
     intro e
     have:=(List.pairwise_iff_getElem.1 HS.out) k (k+1) (by omega) hlt (by omega)
     rw[e] at this
     exact cmpE_ord.irrefl _ this
    have i0:(0:Int)≤(k:Int):=by omega
    have i1:(k:Int)<(es.length:Int):=by omega
    have i2:(k:Int)+1<(es.length:Int):=by omega
    have i3:(0:Int)≤(k:Int)+1:=by omega
    have i4:((k:Int)+1).toNat=k+1:=by omega
    have i5:IntKind.i64.wrap ((k:Int)+1-1)=(k:Int):=by rw[IntKind.wrap_i64];omega
    clear hA2
    have heql:=fun w=>edge_eql es[k+1] es[k] w
    rw[hne] at heql
    unfold edV at heql
    have hgd:=edge_guard
    generalize es[k]=y at*
    generalize es[k+1]=x at*
    go_wp2
    go_quiet (fail)
    go_wp2
    go_roundw
    case rel=>exact⟨k+1,by omega,by go_num,_,rfl⟩
    case measure=>simp[intOf];omega
   ·have hlast:k+1=es.length:=by omega
    have i2: ¬(k:Int)+1<(es.length:Int):=by omega
    go_wp2
    go_ret
    exact⟨rfl,q,rfl⟩
set_option maxHeartbeats 1000000 in
theorem sorted_any (v:Value) (es:List EdD) (w:World) (h:ArgE w v es) (hnd:es.Nodup) (hl:es.length≤1073741824):
  Calls Tryz.prog 70 #[v] w fun e w'=> ∃r,e= .returned r∧OwE w' w.heap.size r (srt cmpE es)∧Below w.heap.size w w':=by
 have H:=hDD h
 obtain⟨A,cap,rfl⟩:=h.form
 clear h
 go_enter Tryz.func70,Tryz.ntmps70
 go_wp2_with (at_builtin;refine append_edges rfl (.tmp 4) (.tmp 5) rfl w.heap.size _ [] (OwE_lit _ (Nat.le_refl _)) rfl _ es (H.out.alloc _) rfl (by simp;omega) (by simp) ?_;intro v1 w1 o1 g1 p1)
 have O1:Hid (OwE w1 w.heap.size v1 es):=hDD (by simpa using o1)
 have B1:Hid (Below w.heap.size w w1):=hDD (((Below.refl _ _).alloc (Nat.le_refl _) _).grown g1 (by simp) (fun k hk=>by simp[Value.ownBlock] at hk;omega))
 obtain⟨g,cap1,rfl⟩: ∃g cap1,v1= .slice (some ⟨g,0,none⟩) es.length cap1:=by
  obtain⟨A1,cap1,rfl,_⟩:=O1.out.form
  rcases O1.out.1.2 with ⟨hv,_⟩ | ⟨g',cap',cur,hv,_⟩
  ·rw[hv] at p1
   simp[Value.ownBlock] at p1
  ·injection hv with e1 e2 e3
   subst e1
   exact⟨g',cap1,rfl⟩
 clear g1 o1 p1
 refine(sortE_any g es.length cap1 w.heap.size es w1 O1.out hl).mono ?_
 rintro e w2 ⟨rfl,es',o2,hp,hsd,g2⟩
 have hnd':es'.Nodup:=hp.nodup_iff.2 hnd
 have hS:Srt cmpE es':=(hsd.and hnd').imp fun {a b} ⟨h1,h2⟩=>by
  have:cmpE a b≠0:=fun e=>h2 (cmpE_zero.1 e)
  omega
 have hE:es'=srt cmpE es:=srt_eq cmpE_ord hS fun x=>hp.mem_iff
 have O2:=hDD o2
 have B2:=hDD (B1.out.grown g2 B1.out.size (fun k hk=>by cases hk;exact(O1.out.1.lt g rfl).1))
 have HE:=hDD hE
 have HS:=hDD hS
 clear o2 g2 hp hsd hnd' hE hS
 go_wp2_with fail
 refine(compactE_any _ _ _ es' w2 O2.out.arg HS.out).mono ?_
 rintro e w3 ⟨rfl,q,rfl⟩
 go_wp2
 go_ret
 exact⟨_,rfl,by rw[←HE.out];exact O2.out.drewN q,bel_drewN B2.out q⟩
def ddAt (es:List EdD) (j:Nat):List EdD:=if 0<j∧es.getD j (0,0,0)=es.getD (j-1) (0,0,0) then [] else [es.getD j (0,0,0)]
def ddU (es:List EdD):Nat→List EdD
 | 0=> []
 | j+1=>ddU es j++ddAt es j
theorem ddAt_drop {es:List EdD} {j:Nat} (h0:0<j) (hj:j<es.length) (h:es[j]=es[j-1]):ddU es (j+1)=ddU es j:=by
 show ddU es j++ddAt es j=_
 unfold ddAt
 rw[if_pos ⟨h0,by simp[List.getD,hj,show j-1<es.length by omega,h]⟩,List.append_nil]
theorem ddAt_keep {es:List EdD} {j:Nat} (hj:j<es.length) (h: ∀_:0<j,es[j]≠es[j-1]):ddU es (j+1)=ddU es j++ [es[j]]:=by
 show ddU es j++ddAt es j=_
 unfold ddAt
 rw[if_neg]
 ·simp[List.getD,hj]
 ·rintro⟨h0,e⟩
  exact h h0 (by simpa[List.getD,hj,show j-1<es.length by omega] using e)
theorem ddU_spec {es:List EdD} (hs:es.Pairwise fun a b=>cmpE a b≤0): ∀j,j≤es.length→Srt cmpE (ddU es j)∧ ∀x,x∈ddU es j↔x∈es.take j
 | 0,_=>⟨List.Pairwise.nil,fun x=>by simp[ddU]⟩
 | j+1,hj=>by
   obtain⟨h1,h2⟩:=ddU_spec hs j (by omega)
   have hjl:j<es.length:=by omega
   have ht:es.take (j+1)=es.take j++ [es[j]]:=List.take_succ_eq_append_getElem hjl
   by_cases hd: ∃h0:0<j,es[j]=es[j-1]
   ·obtain⟨h0,e⟩:=hd
    rw[ddAt_drop h0 hjl e]
    refine⟨h1,fun x=> ?_⟩
    rw[h2,ht,List.mem_append,List.mem_singleton]
    refine⟨.inl,fun h=> ?_⟩
    rcases h with h | h
    ·exact h
    ·rw[h,e]
     exact List.mem_iff_getElem.2 ⟨j-1,by rw[List.length_take];omega,by rw[List.getElem_take]⟩
   ·rw[ddAt_keep hjl fun h0 e=>hd ⟨h0,e⟩]
    refine⟨List.pairwise_append.2 ⟨h1,List.pairwise_singleton _ _,fun x hx y hy=> ?_⟩,fun x=> ?_⟩
    ·rw[List.mem_singleton.1 hy]
     obtain⟨i,hi,rfl⟩:=List.mem_iff_getElem.1 ((h2 x).1 hx)
     rw[List.length_take] at hi
     rw[List.getElem_take]
     have hle:=(List.pairwise_iff_getElem.1 hs) i j (by omega) hjl (by omega)
     have h0:0<j:=by omega
     have hne:cmpE es[j-1] es[j]≠0:=fun e=>hd ⟨h0,(cmpE_zero.1 e).symm⟩
     have hl2:=(List.pairwise_iff_getElem.1 hs) (j-1) j (by omega) hjl (by omega)
     by_cases hij:i=j-1
     ·subst hij;omega
     ·have hl3:=(List.pairwise_iff_getElem.1 hs) i (j-1) (by omega) (by omega) (by omega)
      by_cases h3:cmpE es[i] es[j-1]=0
      ·rw[cmpE_zero.1 h3];omega
      ·exact cmpE_ord.trans (by omega) (show cmpE es[j-1] es[j]<0 by omega)
    ·rw[List.mem_append,h2,ht,List.mem_append]
theorem ddU_srt {es:List EdD} (hs:es.Pairwise fun a b=>cmpE a b≤0) {L:List EdD} (hm: ∀x,x∈es↔x∈L):ddU es es.length=srt cmpE L:=by
 obtain⟨h1,h2⟩:=ddU_spec hs es.length (Nat.le_refl _)
 exact srt_eq cmpE_ord h1 fun x=>by rw[h2,List.take_length,hm]
theorem own_cells {w:World} {base g cap k o:Nat} {es:List EdD} (h:OwE w base (.slice (some ⟨g,0,none⟩) k cap) es) (ho:k*3≤o): ∀(vs:List Value) (o':Nat),o≤o'→OwE (w.setCells g o' vs) base (.slice (some ⟨g,0,none⟩) k cap) es∧w.grownBy (w.setCells g o' vs) (some g):=by
 intro vs
 induction vs generalizing w with
 | nil=>intro o' _;exact⟨h,World.grownBy.refl _ _⟩
 | cons v vs ih=>
   intro o' ho'
   have hk:k=es.length:=by
    obtain⟨_,_,hv,_⟩:=OwE.form h
    injection hv
   subst hk
   have hst:=World.ownsRow.stored h.1 o' v
   have hl:=h.1.1
   rw[List.set_eq_of_length_le (by omega)] at hst
   obtain⟨i1,i2⟩:=ih (w:=w.setCell ⟨g,o',none⟩ v) ⟨hst.1,h.2⟩ (o'+1) (by omega)
   exact⟨i1,hst.2.trans i2⟩
theorem OwE.head {w:World} {base g n cap k:Nat} {es:List EdD} (h:OwE w base (.slice (some ⟨g,0,none⟩) n cap) es) (hk:k≤es.length):OwE w base (.slice (some ⟨g,0,none⟩) k cap) (es.take k):=by
 have hn:n=es.length:=by
  obtain⟨_,_,hv,_⟩:=OwE.form h
  injection hv
 subst hn
 have h1:=owns_head h.1 rfl hk
 refine⟨?_,fun e he=>h.2 e (List.mem_of_mem_take he)⟩
 have hl:(es.take k).length=k:=by rw[List.length_take];omega
 rw[hl]
 have e:edCs (es.take k)=(edCs es).take (k*3):=by
  have h2:edCs es=edCs (es.take k)++edCs (es.drop k):=by rw[←edCs_append,List.take_append_drop]
  rw[h2,List.take_left' (by rw[edCs_length,hl])]
 rw[e]
 exact h1
theorem zero_edges (n:Nat):(Builtin.zeroCells (Value.agg #[.int .i64 0, .int .i64 0, .int .i64 0]).cells n).toList.length=n*3∧ ∀v∈(Builtin.zeroCells (Value.agg #[.int .i64 0, .int .i64 0, .int .i64 0]).cells n).toList,v.oneCell'=true:=by
 have hc:(Value.agg #[.int .i64 0, .int .i64 0, .int .i64 0]).cells= #[.int .i64 0, .int .i64 0, .int .i64 0]:=by simp[Value.cells]
 rw[hc]
 refine⟨by simp[Builtin.zeroCells],fun v hv=> ?_⟩
 simp only[Builtin.zeroCells,Array.toList_map,List.mem_map] at hv
 obtain⟨i,_,rfl⟩:=hv
 have h3: #[Value.int IntKind.i64 0,Value.int IntKind.i64 0,Value.int IntKind.i64 0].size=3:=rfl
 rw[h3]
 have:i%3=0∨i%3=1∨i%3=2:=by omega
 rcases this with e | e | e<;>rw[e]<;>rfl
theorem run_clear_edges (w:World) (g o n c:Nat) (hn:0<n) (hc: ∀j,j<n*3→(w.cell? ⟨g,o+j,none⟩).isSome=true) (hf: ∀j,j<n*3→w.frozen? ⟨g,o+j,none⟩=false):
  ∃vs,∀ty,(Builtin.clear_ #[29] ty #[.slice (some ⟨g,o,none⟩) n c]).run Tryz.prog w= .ok (.tuple #[]) (w.setCells g o vs):=by
 obtain⟨h1,h2⟩:=zero_edges n
 obtain⟨i0,hi0,hz0,_,_⟩:=info_parts edge_info
 refine⟨(Builtin.zeroCells (Value.agg #[.int .i64 0, .int .i64 0, .int .i64 0]).cells n).toList,fun ty=> ?_⟩
 have hst:=run_storeCells_cells (P:=Tryz.prog) g o (Builtin.zeroCells (Value.agg #[.int .i64 0, .int .i64 0, .int .i64 0]).cells n).toList 0 w (by rw[h1];simpa using hc) (by rw[h1];simpa using hf) h2
 simp only[Nat.add_zero] at hst
 have hv: ∀w,(zeroValue 54).run Tryz.prog w= .ok (.agg #[.int .i64 0, .int .i64 0, .int .i64 0]) w:=fun w=>by rfl
 obtain⟨m,rfl⟩: ∃m,n=m+1:=⟨n-1,by omega⟩
 simp[Builtin.clear_,run_underlying Tryz.underlying29,hv,hst]
theorem set_take: ∀(R:List EdD) (k:Nat) (x:EdD),k<R.length→(R.set k x).take (k+1)=R.take k++ [x]
 | [],k,x,h=>by cases h
 | a::R,0,x,_=>by simp
 | a::R,k+1,x,h=>by
   have:=set_take R k x (by simpa using h)
   simp only[List.set_cons_succ,List.take_succ_cons,List.cons_append]
   rw[this]
theorem set_drop: ∀(R:List EdD) (k m:Nat) (x:EdD),k<m→(R.set k x).drop m=R.drop m
 | [],k,m,x,h=>by simp
 | a::R,0,m+1,x,_=>by simp
 | a::R,k+1,m+1,x,h=>by
   have:=set_drop R k m x (by omega)
   simpa using this
set_option maxHeartbeats 1000000 in
theorem compactD_any (g n cap base:Nat) (es:List EdD) (w:World) (h:OwE w base (.slice (some ⟨g,0,none⟩) n cap) es) (hl:es.length≤1073741824):
  Calls Tryz.prog 109 #[.slice (some ⟨g,0,none⟩) n cap] w fun e w'=>e= .returned (.slice (some ⟨g,0,none⟩) (ddU es es.length).length cap)∧OwE w' base (.slice (some ⟨g,0,none⟩) (ddU es es.length).length cap) (ddU es es.length)∧w.grownBy w' (some g):=by
 obtain⟨_,_,hv,hcap,hm,_,hg⟩:=h.form
 injection hv with e1 e2 e3
 subst e1 e2 e3
 unfold maxLen at hm
 have H:=hDD h
 clear h hg
 by_cases hlt2:es.length<2
 ·have h1:(es.length:Int)<2:=by omega
  have hd:ddU es es.length=es:=by
   match es,hlt2 with
   | [],_=>rfl
   | [a],_=>simp[ddU,ddAt]
  rw[hd]
  go_enter Tryz.func109,Tryz.ntmps109
  go_wp2
  go_ret
  exact⟨rfl,H.out,World.grownBy.refl _ _⟩
 ·have h1: ¬(es.length:Int)<2:=by omega
  go_enter Tryz.func109,Tryz.ntmps109
  go_wp2
  go_loopw [3] (fun i wr=> ∃k:Nat,k+1≤es.length∧i= .int .i64 ((k:Int)+1)∧ddU es (k+1)=es.take (k+1)∧ ∃q,wr=w.drewN q) (fun i _=>es.length-(intOf i).toNat)
  case atStart=>exact⟨0,by omega,rfl,by rw[ddAt_keep (by omega) (fun h=>absurd h (by omega))];rw[List.take_succ_eq_append_getElem (by omega)];rfl,0,rfl⟩
  case round=>
   obtain⟨k,hk,rfl,hdd,q,rfl⟩:=hrel
   have HDD:=hDD hdd
   clear hdd
   by_cases hlt:k+1<es.length
   ·obtain⟨c0,c1,c2⟩:=H.out.cellAt (k+1) hlt
    obtain⟨d0,d1,d2⟩:=H.out.cellAt k (by omega)
    have i0:(0:Int)≤(k:Int):=by omega
    have i1:(k:Int)<(es.length:Int):=by omega
    have i2:(k:Int)+1<(es.length:Int):=by omega
    have i3:(0:Int)≤(k:Int)+1:=by omega
    have i4:((k:Int)+1).toNat=k+1:=by omega
    have i5:IntKind.i64.wrap ((k:Int)+1-1)=(k:Int):=by rw[IntKind.wrap_i64];omega
    have heql:=fun w=>edge_eql es[k+1] es[k] w
    unfold edV at heql
    have hgd:=edge_guard
    by_cases he:es[k+1]=es[k]
    ·have HDR:=hDD (ddAt_drop (es:=es) (j:=k+1) (by omega) hlt he)
     rw[decide_eq_true he] at heql
     generalize es[k]=y at*
     generalize es[k+1]=x at*
     go_wp2
     go_quiet (fail)
     have hcp: ¬cap=k+1:=by omega
     have i6:(k:Int)+1≤(es.length:Int):=by omega
     have i7:(es.length:Int)≤(cap:Int):=by omega
     have HFR:=hDD H.out.free
     have HLD:Hid ((ddU es (k+2)).length=k+1∧es.take (k+1)=ddU es (k+2)):=hDD (by
      have h1:=HDR.out
      rw[HDD.out] at h1
      exact⟨by rw[show k+2=k+1+1 from rfl,h1,List.length_take];omega,h1.symm⟩)
     clear c0 c1 c2 d0 d1 d2
     go_wp2
     obtain⟨rem,hrem⟩: ∃r,r=es.length-(k+1):=⟨_,rfl⟩
     have hrl:rem+(k+1)=es.length:=by omega
     have HREM:=hDD hrem
     clear hrem
     rw[←HREM.out]
     go_loopw [3,5] (fun s3 s5 wr=> ∃(kk t:Nat) (R:List EdD),s3= .int .i64 kk∧s5= .int .i64 ((t:Int)+1)∧t+1≤rem∧kk=(ddU es (k+t+2)).length∧R.length=es.length∧R.take kk=ddU es (k+t+2)∧R.drop (k+t+1)=es.drop (k+t+1)∧kk≤k+t+1∧OwE wr base (.slice (some ⟨g,0,none⟩) es.length cap) R∧w.grownBy wr (some g)) (fun _ i _=>rem-(intOf i).toNat)
     case atStart=>exact⟨k+1,0,es,by go_num,rfl,by omega,HLD.out.1.symm,rfl,HLD.out.2,rfl,by omega,H.out.drewN _,⟨rfl,rfl,rfl,Nat.le_refl _,fun _ _ _=>rfl⟩⟩
     case round=>
      obtain⟨kk,t,R,rfl,rfl,ht,hkk,hRl,hRt,hRd,hkb,hoR,hgr⟩:=hrel
      have HOR:=hDD hoR
      have HGR:=hDD hgr
      have HRT:=hDD hRt
      have HRD:=hDD hRd
      have HKK:=hDD hkk
      have HRL:=hDD hRl
      obtain⟨wi,rfl⟩: ∃wi:World,wi=wr:=⟨_,rfl⟩
      have hget: ∀j (hj:j<es.length),k+t+1≤j→R[j]'(by omega)=es[j]:=fun j hj hle=>by
       have e1:(R.drop (k+t+1))[j-(k+t+1)]? =(es.drop (k+t+1))[j-(k+t+1)]? :=by rw[hRd]
       rw[List.getElem?_drop,List.getElem?_drop,show k+t+1+(j-(k+t+1))=j by omega,List.getElem?_eq_getElem (by omega),List.getElem?_eq_getElem hj] at e1
       injection e1
      have HFI:=hDD HOR.out.free
      by_cases hlt3:t+1<rem
      ·have hi1:k+t+2<es.length:=by omega
       obtain⟨c0,c1,c2⟩:=HOR.out.cellAt (k+t+2) (by omega)
       obtain⟨d0,d1,d2⟩:=HOR.out.cellAt (k+t+1) (by omega)
       rw[hget (k+t+2) hi1 (by omega),show(k+t+2)*3=(k+1)*3+(t+1)*3 by omega] at c0 c1 c2
       rw[hget (k+t+1) (by omega) (by omega),show(k+t+1)*3=(k+1)*3+t*3 by omega] at d0 d1 d2
       have heq2:=fun w=>edge_neq es[k+t+2] es[k+t+1] w
       unfold edV at heq2
       have j0:(0:Int)≤(t:Int):=by omega
       have j1:(t:Int)<(rem:Int):=by omega
       have j2:(t:Int)+1<(rem:Int):=by omega
       have j3:(0:Int)≤(t:Int)+1:=by omega
       have j4:((t:Int)+1).toNat=t+1:=by omega
       have j5:IntKind.i64.wrap ((t:Int)+1-1)=(t:Int):=by rw[IntKind.wrap_i64];omega
       have HRD2:Hid (R.drop (k+(t+1)+1)=es.drop (k+(t+1)+1)):=hDD (by have h9:=congrArg (List.drop 1) hRd;rw[List.drop_drop,List.drop_drop] at h9;rw[show k+(t+1)+1=k+t+1+1 by omega];exact h9)
       have HE64:=hDD (HOR.out.2 _ (List.getElem_mem (show k+t+2<R.length by omega)))
       rw[hget (k+t+2) hi1 (by omega)] at HE64
       by_cases he2:es[k+t+2]=es[k+t+1]
       ·have HD2:=hDD (ddAt_drop (es:=es) (j:=k+t+2) (by omega) hi1 he2)
        rw[decide_eq_true he2,Bool.not_true] at heq2
        generalize es[k+t+1]=y2 at*
        generalize es[k+t+2]=x2 at*
        clear hkk hRl hRt hRd hoR hgr hget
        go_wp2
        go_quiet (fail)
        go_wp2
        go_roundw
        case rel=>exact⟨kk,t+1,R,rfl,by go_num,by omega,by rw[show k+(t+1)+2=k+t+2+1 by omega,HD2.out];exact HKK.out,HRL.out,by rw[show k+(t+1)+2=k+t+2+1 by omega,HD2.out];exact HRT.out,HRD2.out,by omega,HOR.out.drew,HGR.out.trans ⟨rfl,rfl,rfl,Nat.le_refl _,fun _ _ _=>rfl⟩⟩
        case measure=>simp[intOf];omega
       ·have HD2:Hid (ddU es (k+(t+1)+2)=ddU es (k+t+2)++ [es[k+t+2]]):=hDD (by rw[show k+(t+1)+2=k+t+2+1 by omega];exact ddAt_keep (es:=es) (j:=k+t+2) hi1 (fun _ e=>he2 e))
        rw[decide_eq_false he2,Bool.not_false] at heq2
        have hkR:kk<R.length:=by omega
        have HST:=hDD (set_take R kk es[k+t+2] hkR)
        have HSD:=hDD (set_drop R kk (k+(t+1)+1) es[k+t+2] (by omega))
        obtain⟨b0,b1,b2⟩:=HOR.out.cellAt kk hkR
        generalize R[kk]=o2 at b0 b1 b2
        generalize es[k+t+1]=y2 at*
        generalize es[k+t+2]=x2 at*
        have HSET:=hDD (fun N=>(HOR.out.drewN N).set kk hkR (x:=x2.1) (y:=x2.2.1) (z:=x2.2.2) HE64.out.1 HE64.out.2.1 HE64.out.2.2)
        have f0:=HFI.out (kk*3)
        have f1:=HFI.out (kk*3+1)
        have f2:=HFI.out (kk*3+2)
        have j6:(kk:Int)<(es.length:Int):=by omega
        have j7:(0:Int)≤(kk:Int):=by omega
        clear hkk hRl hRt hRd hoR hgr hget
        go_wp2
        go_quiet (fail)
        go_wp2
        go_roundw
        case rel=>exact⟨kk+1,t+1,R.set kk x2,by go_num,by go_num,by omega,by rw[HD2.out,List.length_append,←HKK.out];rfl,by rw[List.length_set];exact HRL.out,by rw[HST.out,HD2.out,HRT.out],by rw[HSD.out];exact HRD2.out,by omega,(HSET.out nq).1,(HGR.out.trans (show wi.grownBy (wi.drewN nq) (some g) from⟨rfl,rfl,rfl,Nat.le_refl _,fun _ _ _=>rfl⟩)).trans (HSET.out nq).2⟩
        case measure=>simp[intOf];omega
      ·obtain rfl:rem=t+1:=by omega
       have hn:k+t+2=es.length:=by omega
       have HKN:Hid (kk=(ddU es es.length).length∧R.take kk=ddU es es.length):=hDD (by rw[←hn];exact⟨hkk,hRt⟩)
       have hkn:kk<es.length:=by omega
       have HHE:=hDD (HOR.out.head (k:=kk) (by omega))
       obtain⟨vs,hcl⟩:=run_clear_edges wi g (kk*3) (es.length-kk) (cap-kk) (by omega) (fun j hj=>by
        have hq:kk+j/3<R.length:=by omega
        obtain⟨g0,g1,g2⟩:=HOR.out.cellAt (kk+j/3) hq
        have:j%3=0∨j%3=1∨j%3=2:=by omega
        rcases this with e | e | e
        ·rw[show kk*3+j=(kk+j/3)*3 by omega,g0];rfl
        ·rw[show kk*3+j=(kk+j/3)*3+1 by omega,g1];rfl
        ·rw[show kk*3+j=(kk+j/3)*3+2 by omega,g2];rfl) (fun j _=>HFI.out _)
       have HCC:=hDD (own_cells HHE.out (Nat.le_refl _) vs (kk*3) (Nat.le_refl _))
       have j6:(kk:Int)≤(es.length:Int):=by omega
       have j7:(0:Int)≤(kk:Int):=by omega
       have j8: ¬cap=kk:=by omega
       have j9:(kk:Int)≤(cap:Int):=by omega
       clear hkk hRl hRt hRd hoR hgr hget
       go_wp2
       go_ret
       refine⟨by rw[←HKN.out.1];rfl,?_,HGR.out.trans HCC.out.2⟩
       have h1:=HCC.out.1
       rw[HKN.out.2] at h1
       have h2:=HKN.out.1
       rw[←h2]
       exact h1
    ·have HDR:Hid (ddU es (k+1+1)=es.take (k+1+1)):=hDD (by rw[ddAt_keep hlt (fun _ e=>he e),HDD.out,List.take_succ_eq_append_getElem hlt])
     rw[decide_eq_false he] at heql
     generalize es[k]=y at*
     generalize es[k+1]=x at*
     go_wp2
     go_quiet (fail)
     go_wp2
     go_roundw
     case rel=>exact⟨k+1,by omega,by go_num,HDR.out,_,rfl⟩
     case measure=>simp[intOf];omega
   ·have hlast:k+1=es.length:=by omega
    have i2: ¬(k:Int)+1<(es.length:Int):=by omega
    have HD:Hid (ddU es es.length=es):=hDD (by have:=HDD.out;rw[hlast,List.take_length] at this;exact this)
    clear hlast
    go_wp2
    go_ret
    rw[HD.out]
    exact⟨rfl,H.out.drewN q,⟨rfl,rfl,rfl,Nat.le_refl _,fun _ _ _=>rfl⟩⟩
set_option maxHeartbeats 1000000 in
theorem sortedD_any (v:Value) (es:List EdD) (w:World) (h:ArgE w v es) (hl:es.length≤1073741824):
  Calls Tryz.prog 70 #[v] w fun e w'=> ∃r,e= .returned r∧OwE w' w.heap.size r (srt cmpE es)∧Below w.heap.size w w':=by
 have H:=hDD h
 obtain⟨A,cap,rfl⟩:=h.form
 clear h
 go_enter Tryz.func70,Tryz.ntmps70
 go_wp2_with (at_builtin;refine append_edges rfl (.tmp 4) (.tmp 5) rfl w.heap.size _ [] (OwE_lit _ (Nat.le_refl _)) rfl _ es (H.out.alloc _) rfl (by simp;omega) (by simp) ?_;intro v1 w1 o1 g1 p1)
 have O1:Hid (OwE w1 w.heap.size v1 es):=hDD (by simpa using o1)
 have B1:Hid (Below w.heap.size w w1):=hDD (((Below.refl _ _).alloc (Nat.le_refl _) _).grown g1 (by simp) (fun k hk=>by simp[Value.ownBlock] at hk;omega))
 obtain⟨g,cap1,rfl⟩: ∃g cap1,v1= .slice (some ⟨g,0,none⟩) es.length cap1:=by
  obtain⟨A1,cap1,rfl,_⟩:=O1.out.form
  rcases O1.out.1.2 with ⟨hv,_⟩ | ⟨g',cap',cur,hv,_⟩
  ·rw[hv] at p1
   simp[Value.ownBlock] at p1
  ·injection hv with e1 e2 e3
   subst e1
   exact⟨g',cap1,rfl⟩
 clear g1 o1 p1
 refine(sortE_any g es.length cap1 w.heap.size es w1 O1.out hl).mono ?_
 rintro e w2 ⟨rfl,es',o2,hp,hsd,g2⟩
 have hE:ddU es' es'.length=srt cmpE es:=ddU_srt (hsd.imp fun h=>by omega) fun x=>hp.mem_iff
 have hlen:es'.length=es.length:=hp.length_eq
 have O2:=hDD o2
 have B2:=hDD (B1.out.grown g2 B1.out.size (fun k hk=>by cases hk;exact(O1.out.1.lt g rfl).1))
 have HB1:=hDD (fun k (hk:some g=some k)=>show w.heap.size≤k by cases hk;exact(O1.out.1.lt g rfl).1)
 have HE:=hDD hE
 have hl2:es'.length≤1073741824:=by omega
 clear o2 g2 hp hsd hE hlen
 go_wp2_with fail
 refine(compactD_any g _ _ w.heap.size es' w2 O2.out hl2).mono ?_
 rintro e w3 ⟨rfl,o3,g3⟩
 rw[HE.out] at o3⊢
 have O3:=hDD o3
 have B3:=hDD (B2.out.grown g3 B2.out.size HB1.out)
 clear o3 g3
 go_wp2
 go_ret
 exact⟨_,rfl,O3.out,B3.out⟩
end Go.Proofs.YtfadnkjlilhneaaGreat
namespace Go.Proofs.YtfadnkjlilhneaaGreat
set_option maxRecDepth 20000
set_option linter.unusedVariables false
set_option linter.unusedSimpArgs false
open Go.RowKit
section
variable {P:Program} {ops:Array Oper} {Q:Exit→Act→World→Prop} {S:World→Prop} {n:Nat}
def wpAnyT (P:Program) (ops:Array Oper) (Q:Exit→Act→World→Prop) (S:World→Prop) (n:Nat):Nat→Array Bool→Act→World→Prop
 | 0,listed,a,w=>Region.ready .any ops listed= []∧Q .normal a w
 | f+1,listed,a,w=>(Region.ready .any ops listed= []→Q .normal a w)∧
   ∀i,i∈Region.ready .any ops listed→wpOp P ops Q i (fun a' w'=>(i≠n→S w')∧wpAnyT P ops Q S n f (listed.setIfInBounds i true) a' w') a w
theorem wpAny_of_T: ∀(f:Nat) (listed:Array Bool) (a:Act) (w:World),wpAnyT P ops Q S n f listed a w→wpAny P .any ops Q f listed a w:=by
 intro f
 induction f with
 | zero=>intro listed a w h;exact h
 | succ f ih=>intro listed a w h;exact⟨h.1,fun i hi=>wpOp_mono (fun a' w' hk=>ih _ a' w' hk.2) (h.2 i hi)⟩
theorem wpAnyT_first {st:Oper} (hok:LastOk ops ops n st st) {i:Nat} {oi:Oper} {v:Value} (hi:ops[i]? =some oi) (hin:i<n) (hsel:Region.noSelect ops=true)
  (hQ: ∀c a w,Q (.panic c) (a.put oi.dst v) w→Q (.panic c) a w):
  ∀(f:Nat) (listed:Array Bool) (a:Act) (w:World),Cl ops listed→
   (∀j oj,ops[j]? =some oj→j≠i→listed.getD j true=false→(∀e∈oj.after,Region.binds .any e=true→e.on≠i)→oi.apart ops oj=true)→
   i∈Region.ready .any ops listed→YieldsIf P ops S oi v a→S w→
   wpAnyT P ops Q S n f (listed.setIfInBounds i true) (a.put oi.dst v) w→wpAnyT P ops Q S n (f+1) listed a w:=by
 have hs:=Region.noSelect_spec hsel
 intro f
 induction f with
 | zero=>
   intro listed a w _ _ hr hy hS H
   refine⟨fun h0=>(by rw[h0] at hr;cases hr),fun j hj=> ?_⟩
   by_cases e:j=i
   ·subst e
    exact hy.wpOp hi hS ⟨fun _=>hS,H⟩
   ·have:=ready_mono hj e
    rw[H.1] at this
    cases this
 | succ f ih=>
   intro listed a w hc hfree hr hy hS H
   refine⟨fun h0=>(by rw[h0] at hr;cases hr),fun j hj=> ?_⟩
   by_cases e:j=i
   ·subst e
    exact hy.wpOp hi hS ⟨fun _=>hS,H⟩
   ·have hiu:=(mem_ready.1 hr).1
    have hsz:listed.size=n+1:=hc.1.trans hok.size
    have hjn:j≠n:=fun e'=>by
     subst e'
     have:=hok.all hc hj _ i rfl hin
     rw[getD_tf (by omega),this] at hiu
     cases hiu
    have h1:=H.2 j (ready_mono hj e)
    obtain⟨hju,oj,hoj,hall⟩:=mem_ready.1 hj
    have hno: ∀e∈oj.after,Region.binds .any e=true→e.on≠i:=fun e he hb h=>by
     have h2:=hall e he hb
     rw[h] at h2
     rw[getD_tf (by omega),h2] at hiu
     cases hiu
    have h2:=wpOp_putIf hoj (hfree j oj hoj e hju hno) (fun cs b=>hs i oi cs b hi) (fun cs b=>hs j oj cs b hoj) hQ hy h1
    refine wpOp_mono (fun a' w' hk=> ?_) h2
    obtain⟨hy',hS',hk⟩:=hk
    refine⟨fun _=>hS' hjn,ih _ a' w' (hc.set hj) (fun k ok hk' hki hun hno'=> ?_) (ready_mono hr (Ne.symm e)) hy' (hS' hjn) ?_⟩
    ·refine hfree k ok hk' hki ?_ hno'
     by_cases hjk:j=k
     ·subst hjk;exact hju
     ·rwa [getD_set_ne true hjk] at hun
    ·rw[Array.setIfInBounds_comm _ _ e]
     exact hk
def clB (ops:Array Oper) (listed:Array Bool):Bool:=
 decide (listed.size=ops.size)&&(List.range ops.size).all fun j=> !listed.getD j false||match ops[j]? with
  | some o=>o.after.all fun e=> !Region.binds .any e||listed.getD e.on false
  | none=>true
theorem cl_of {listed:Array Bool} (h:clB ops listed=true):Cl ops listed:=by
 unfold clB at h
 simp only[Bool.and_eq_true,decide_eq_true_eq,List.all_eq_true,List.mem_range,Bool.or_eq_true,Bool.not_eq_true'] at h
 refine⟨h.1,fun j o ho hl e he hb=> ?_⟩
 have hj:=(Array.getElem?_eq_some_iff.1 ho).1
 rcases h.2 j hj with h1 | h1
 ·rw[hl] at h1;cases h1
 ·rw[ho] at h1
  have:=Array.all_eq_true_iff_forall_mem.1 h1 e he
  rw[hb] at this
  simpa using this
theorem wpAnyT_take {l:List Oper} {i f:Nat} {oi:Oper} {v:Value} {listed:Array Bool} {a:Act} {w:World} (hl:l.length=n+1) (hL:lastB l.toArray n=true)
  (hi:l.toArray[i]? =some oi) (hin:i<n) (hs:Region.noSelect l.toArray=true) (hc:clB l.toArray listed=true) (hf:Region.free .any l.toArray listed i=true) (hr:(Region.ready .any l.toArray listed).contains i=true)
  (hQ: ∀c a w,Q (.panic c) (a.put oi.dst v) w→Q (.panic c) a w) (hy:YieldsIf P l.toArray S oi v a) (hS:S w)
  (h:wpAnyT P l.toArray Q S n f (listed.setIfInBounds i true) (a.put oi.dst v) w):wpAnyT P l.toArray Q S n (f+1) listed a w:=by
 obtain⟨st,_,hok⟩:=lastOk_of hl hL
 have hok2:LastOk l.toArray l.toArray n st st:=⟨hok.size,hok.size,fun _ _=>⟨rfl,rfl⟩,hok.hst,hok.hst,rfl,hok.dst,hok.dst,hok.guard,hok.guard,hok.back,hok.chain⟩
 exact wpAnyT_first hok2 hi hin hs hQ f listed a w (cl_of hc) (Region.free_spec hi hf) (by simpa using hr) hy hS h
theorem wpAnyT_one {i f:Nat} {listed:Array Bool} {a:Act} {w:World} (hr:Region.ready .any ops listed= [i])
  (h:wpOp P ops Q i (fun a' w'=>(i≠n→S w')∧wpAnyT P ops Q S n f (listed.setIfInBounds i true) a' w') a w):wpAnyT P ops Q S n (f+1) listed a w:=by
 refine⟨fun h0=>(by rw[hr] at h0;cases h0),fun j hj=> ?_⟩
 rw[hr,List.mem_singleton] at hj
 subst hj
 exact h
theorem wpAnyT_done {listed:Array Bool} {a:Act} {w:World} (hr:Region.ready .any ops listed= []) (h:Q .normal a w): ∀f,wpAnyT P ops Q S n f listed a w
 | 0=>⟨hr,h⟩
 | _+1=>⟨fun _=>h,fun i hi=>by rw[hr] at hi;cases hi⟩
theorem wp_region_T {id:Nat} {a:Act} {w:World} (hm:P.follows .mixedOrders=true) (h:wpAnyT P ops Q S n ops.size (Array.replicate ops.size false) a w.drew):(Code.region id ops true).wp P Q a w:=
 wp_region_any hm (wpAny_of_T _ _ _ _ h)
end
section
variable {P:Program} {ops:Array Oper} {Q:Exit→Act→World→Prop} {S:World→Prop} {n:Nat}
theorem wpAnyT_step {i f:Nat} {o:Oper} {listed:Array Bool} {a:Act} {w:World} (hr:Region.ready .any ops listed= [i]) (ho:ops[i]? =some o)
  (h: ∀K':Act→World→Prop,Shut (∀a' w',S w'→(S w'→wpAnyT P ops Q S n f (listed.setIfInBounds i true) a' w')→K' a' w')→if Region.wanted o (yielded ops a.tmps)=true then Oper.wp P o a w K' Q else K' (a.put o.dst undef) w):
  wpAnyT P ops Q S n (f+1) listed a w:=
 wpAnyT_one hr (wpOp_step ho fun K' hK=>h K' (fun a' w' hS hW=>hK a' w' ⟨fun _=>hS,hW hS⟩))
theorem wpAnyT_last {f:Nat} {o:Oper} {listed:Array Bool} {a:Act} {w:World} (hr:Region.ready .any ops listed= [n]) (ho:ops[n]? =some o) (hd:Region.ready .any ops (listed.setIfInBounds n true)= [])
  (h: ∀K':Act→World→Prop,Shut (∀a' w',Q .normal a' w'→K' a' w')→if Region.wanted o (yielded ops a.tmps)=true then Oper.wp P o a w K' Q else K' (a.put o.dst undef) w):
  wpAnyT P ops Q S n (f+1) listed a w:=
 wpAnyT_one hr (wpOp_step ho fun K' hK=>h K' (fun a' w' hQ=>hK a' w' ⟨fun hn=>absurd rfl hn,wpAnyT_done hd hQ f⟩))
theorem wp_region_T' {id m:Nat} {a:Act} {w:World} (hm:P.follows .mixedOrders=true) (hz:ops.size=m) (hS:S w.drew) (h:S w.drew→wpAnyT P ops Q S n m (Array.replicate m false) a w.drew):(Code.region id ops true).wp P Q a w:=
 wp_region_T hm (by rw[hz];exact h hS)
end
theorem wp_push_edge {w:World} {o:Oper} {a:Act} {K:Act→World→Prop} {Q:Exit→Act→World→Prop} (s x:Operand)
  (ho:o.op= .call {callee:= .builtin .append,args:= #[s,x],argTypes:= #[29,29]})
  (base:Nat) (v:Value) (es:List EdD) (hown:OwE w base v es) (hs:a.eval s=v) (b:Nat) (e:EdD) (hx:a.eval x= .slice (some ⟨b,0,none⟩) 1 1)
  (hc: ∀j u,(edC e)[j]? =some u→w.cell? ⟨b,j,none⟩=some u) (he:E64 e) (hl:es.length≤1073741824) (hbase:base≤w.heap.size)
  (h: ∀v' w',OwE w' base v' (es++ [e])→w.grownBy w' v.ownBlock→(v'.ownBlock=v.ownBlock∨v'.ownBlock=some w.heap.size)→K (a.put o.dst v') w'):
  o.wp Tryz.prog a w K Q:=by
 obtain⟨i0,hi0,hz0,hz1,hz2⟩:=info_parts edge_info
 obtain⟨v',w',hrun,h1,h2,_,h5⟩:=run_append_own_at (P:=Tryz.prog) w base 29 o.type 54 i0 _ 3 24 Tryz.underlying29 hi0 hz0 hz1 hz2 rfl (by decide) v es.length (edCs es) hown.1 ⟨b,0,none⟩ 1 1 (edC e) rfl
  (fun j u hj=>by rw[Addr.add_lit,Nat.zero_add];exact hc j u hj) (by intro u hu;simp[edC] at hu;rcases hu with rfl | rfl | rfl<;>rfl) (by unfold maxLen;omega) (by omega) hbase
 unfold Oper.wp execOp
 simp only[ho,resolve,invoke,builtin,Sem.run_bind,Sem.run_pure,Result.andThen_ok,List.map_toArray,List.map_cons,List.map_nil,hs,hx,hrun]
 refine h v' w' ⟨?_,E64s_append hown.2 (E64s_one he)⟩ h2 h5
 have e1:edCs (es++ [e])=edCs es++edC e:=by rw[edCs_append];simp[edCs]
 rw[e1,List.length_append]
 exact h1
theorem set_minus (N k:Nat) (h:k<N):((List.replicate k (-1:Int))++List.replicate (N-k) 0).set k (-1)=List.replicate (k+1) (-1)++List.replicate (N-(k+1)) 0:=by
 obtain⟨m,hm⟩: ∃m,N-k=m+1:=⟨N-k-1,by omega⟩
 rw[hm,show N-(k+1)=m by omega,List.set_append_right _ _ (by simp),List.length_replicate,Nat.sub_self,List.replicate_succ,List.set_cons_zero,List.replicate_succ']
 simp
set_option maxHeartbeats 1000000 in
theorem part_anyN (v vo:Value) (g:GrD) (o:List Int) (w:World) (h:ArgG w v g) (ho:RdI w vo o) (hg:grB g=true) (hok:OrdN g.2.1 o):
  Calls Tryz.prog 102 #[v,vo] w fun e w'=> ∃r,e= .returned r∧OwG w' w.heap.size r (rnG g o)∧Below w.heap.size w w':=by
 have HG:=hDD h
 have HOK:=hDD hok
 have HOR:=hDD ho
 obtain⟨hr13,hsz40,hl120,_⟩:=grB_parts hg
 have HED:=hDD (fun e he=>edge_of_gr hg (e:=e) he)
 have HND:=hDD hok.1
 have HNDE:=hDD (gr_nodup hg).2
 obtain⟨r,n,es⟩:=g
 simp only at hr13 hsz40 hl120 HG HED hok HOK HNDE
 obtain⟨N,rfl⟩: ∃N:Nat,n=(N:Int):=⟨n.toNat,by omega⟩
 have hN1:1≤N:=by omega
 have hN2:N≤40:=by omega
 have hol:o.length≤N:=nodup_len N o hok.1 fun y hy=>by have:=hok.2.1 y hy;omega
 have HRANGE:Hid (∀k (hk:k<o.length),∃u:Nat,o[k]=(u:Int)∧u<N):=hDD fun k hk=>by
  have:=hok.2.1 o[k] (by simp)
  exact⟨o[k].toNat,by omega,by omega⟩
 clear hsz40 hg hok h
 obtain⟨A,cap,rfl,HE⟩: ∃A cap,v= .agg #[.int .i64 r, .int .i64 N, .slice A es.length cap]∧Hid (ArgE w (.slice A es.length cap) es):=by
  obtain⟨s,hv,_,_,ha⟩:=HG.out
  obtain⟨A,cap,rfl⟩:=ha.form
  exact⟨A,cap,hv,hDD ha⟩
 obtain⟨Ao,capo,rfl,hco,hmo,_⟩:=ho.arg
 have hbndE:es.length≤cap∧cap≤maxLen:=by
  obtain⟨_,_,hv,h1,h2,_⟩:=HE.out
  injection hv with _ _ e3
  subst e3
  exact⟨h1,h2⟩
 obtain⟨hcap,hm⟩:=hbndE
 unfold maxLen at hmo hm
 clear ho
 have bx:Below w.heap.size w ((w.alloc (Obj.cells #[Value.int IntKind.i64 r,Value.int IntKind.i64 N, .slice A es.length cap] 31)).alloc (Obj.cells #[Value.int IntKind.i64 0,Value.int IntKind.i64 0, .slice none 0 0] 31)):=(by repeat(first | exact Below.refl _ _ | (refine Below.setCell ?_ (by first | omega | (simp<;>omega)) _) | (refine bel_drewN ?_ _) | (refine Below.drew ?_) | (refine Below.alloc ?_ (by first | omega | (simp<;>omega)) _)))
 go_enter Tryz.func102,Tryz.ntmps102
 obtain⟨i0,hi0,hz0,hz1,hz2⟩:=info_parts int_info
 go_wp2_with (at_make;refine wpList_make_full _ rfl _ _ 26 rfl (w.heap.size+1+1) 3 i0 (.int .i64 0) 1 Tryz.underlying26 hi0 hz0 hz1 _ _ _ _ N rfl rfl rfl rfl (by rw[hz2];omega) (by unfold maxLen;omega) (by simp) ?_)
 obtain⟨W0,hW0⟩: ∃W,W=(w.alloc (Obj.cells #[Value.int IntKind.i64 r,Value.int IntKind.i64 N, .slice A es.length cap] 31)).alloc (Obj.cells #[Value.int IntKind.i64 0,Value.int IntKind.i64 0, .slice none 0 0] 31):=⟨_,rfl⟩
 rw[←hW0] at bx⊢
 have hsW:W0.heap.size=w.heap.size+1+1:=by rw[hW0];simp
 have B0:Hid (W0.cell? ⟨w.heap.size,0,none⟩=some (.int .i64 r)):=hDD (by rw[hW0];simp[go_sem])
 have B2:Hid (W0.cell? ⟨w.heap.size,2,none⟩=some (.slice A es.length cap)):=hDD (by rw[hW0];simp[go_sem])
 have R0:Hid (W0.cell? ⟨w.heap.size+1,0,none⟩=some (.int .i64 0)):=hDD (by rw[hW0];simp[go_sem])
 have R1:Hid (W0.cell? ⟨w.heap.size+1,1,none⟩=some (.int .i64 0)):=hDD (by rw[hW0];simp[go_sem])
 have R2:Hid (W0.cell? ⟨w.heap.size+1,2,none⟩=some (.slice none 0 0)):=hDD (by rw[hW0];simp[go_sem])
 have RF:Hid (∀j,W0.frozen? ⟨w.heap.size+1,j,none⟩=false):=hDD fun j=>by rw[hW0];simp[go_sem]
 clear hW0
 rw[←hsW]
 have BX:=hDD bx
 have HSW:=hDD hsW
 have hltw:w.heap.size<W0.heap.size:=by omega
 have hltw1:w.heap.size+1<W0.heap.size:=by omega
 clear bx hsW
 intro w2 hown0 hgrow0
 have own0:OwI w2 W0.heap.size (.slice (some ⟨W0.heap.size,0,none⟩) N N) (List.replicate 0 (-1)++List.replicate (N-0) 0):=by
  refine⟨?_,fun y hy=> ?_⟩
  ·simp only[List.replicate_zero,List.nil_append,Nat.sub_zero,List.length_replicate]
   have:ints (List.replicate N 0)=List.replicate N (Value.int .i64 0):=by simp[ints]
   rw[this]
   simpa[toList_madeCells_one] using hown0
  ·simp only[List.replicate_zero,List.nil_append,Nat.sub_zero] at hy
   obtain⟨_,rfl⟩:=List.mem_replicate.1 hy
   exact⟨by decide,by decide⟩
 have HO0:=hDD own0
 have HB0:=hDD ((Below.refl W0.heap.size W0).grown hgrow0 (Nat.le_refl _) (fun k h=>by cases h))
 clear own0 hown0 hgrow0
 go_wp2
 go_loopw [17] (fun i wr=> ∃k:Nat,k≤N∧i= .int .i64 k∧OwI wr W0.heap.size (.slice (some ⟨W0.heap.size,0,none⟩) N N) (List.replicate k (-1)++List.replicate (N-k) 0)∧Below W0.heap.size W0 wr) (fun i _=>N-(intOf i).toNat)
 case atStart=>exact⟨0,Nat.zero_le _,rfl,HO0.out,HB0.out⟩
 case round=>
  obtain⟨k,hk,rfl,hown,hbel⟩:=hrel
  have HB:=hDD hbel
  have hs:=hbel.size
  have HO:=hDD hown
  by_cases hlt:k<N
  ·have hcell:=hown.cellAt k (by simp;omega)
   have hfz:=hown.free k
   have HS:=hDD (hown.set k (-1) ⟨by decide,by decide⟩)
   have HSET:=hDD (set_minus N k hlt)
   clear hown hbel
   generalize (List.replicate k (-1:Int)++List.replicate (N-k) 0)[k]'(by simp;omega)=z0 at hcell
   go_wp2
   go_roundw
   case rel=>exact⟨k+1,by omega,by go_num,by rw[←HSET.out];exact HS.out.1,HB.out.grown HS.out.2 (by omega) (fun j hj=>by cases hj;exact Nat.le_refl _)⟩
   case measure=>simp[intOf];omega
  ·obtain rfl:k=N:=by omega
   have HO1:Hid (OwI wr W0.heap.size (.slice (some ⟨W0.heap.size,0,none⟩) k k) (plc k (o.take 0) 1)):=hDD (by
    rw[List.take_zero,plc_nil]
    simpa using HO.out)
   clear hown hbel
   go_wp2
   go_loopw [26] (fun i wr=> ∃j:Nat,j≤o.length∧i= .int .i64 j∧OwI wr W0.heap.size (.slice (some ⟨W0.heap.size,0,none⟩) k k) (plc k (o.take j) 1)∧Below W0.heap.size W0 wr) (fun i _=>o.length-(intOf i).toNat)
   case atStart=>exact⟨0,Nat.zero_le _,rfl,HO1.out,HB.out⟩
   case round=>
    obtain⟨j,hj,rfl,hown,hbel⟩:=hrel
    have HB1:=hDD hbel
    have hs1:=hbel.size
    have HO2:=hDD hown
    by_cases hlt2:j<o.length
    ·obtain⟨bo,offo,rfl,hbo,hco2⟩:=(HOR.out.below (BX.out.trans (hbel.mono (by omega)))).at (by omega)
     have c0:=hco2 j hlt2
     obtain⟨u,hu,huN⟩:=HRANGE.out j hlt2
     rw[hu] at c0
     have hcur:=hown.cellAt u (by rw[plc_len];exact huN)
     have hfz:=hown.free u
     have HSET:=hDD (hown.set u (j:Int) ⟨by omega,by omega⟩)
     have HSUC:Hid ((plc k (o.take j) 1).set u (j:Int)=plc k (o.take (j+1)) 1):=hDD (by
      have:=plc_succ k o 1 j hlt2 HND.out u hu
      rwa [Int.add_sub_cancel] at this)
     generalize (plc k (o.take j) 1)[u]'(by rw[plc_len];exact huN)=z0 at hcur
     have j0:(0:Int)≤(u:Int):=by omega
     have j1:(u:Int)<(k:Int):=by omega
     clear hco2 hu hown hbel
     go_wp2
     go_roundw
     case rel=>exact⟨j+1,by omega,by go_num,by rw[←HSUC.out];exact HSET.out.1,HB1.out.grown HSET.out.2 (by omega) (fun j hj=>by cases hj;exact Nat.le_refl _)⟩
     case measure=>simp[intOf];omega
    ·obtain rfl:j=o.length:=by omega
     rw[List.take_length] at HO2
     have hP:=(HO2.out.1.lt W0.heap.size rfl).2
     have q0:=(hbel.cell (p:=⟨w.heap.size,0,none⟩) hltw).trans B0.out
     have q2:=(hbel.cell (p:=⟨w.heap.size,2,none⟩) hltw).trans B2.out
     have hlt3:w.heap.size<wr.heap.size:=by omega
     have hlt4:w.heap.size+1<wr.heap.size:=by omega
     have hA: ∀ob o',(wr.alloc ob).cell? ⟨w.heap.size,o',none⟩=wr.cell? ⟨w.heap.size,o',none⟩:=fun ob o'=>World.cell?_of_block (Below.heap_alloc wr ob (w.heap.size) hlt3)
     clear hown hbel
     go_wp2
     generalize hw5:wr=w5 at*
     clear hw5
     have HPL:Hid (∀(wl:World),w5.grownBy wl (some w5.heap.size)→ ∀u:Nat,u<k→wl.cell? ⟨W0.heap.size,u,none⟩=some (.int .i64 (plv o u-1))):=hDD fun wl hg u hu=>by
      rw[grown_cell hg hP (by omega),HO2.out.cellAt u (by rw[plc_len];exact hu),plc_get _ _ _ _ hu]
     have PLR:Hid (∀v:Int,0≤plv o v∧plv o v≤40):=hDD fun v=>by have:=plv_range o v;omega
     go_loopw [44] (fun i wl=> ∃(j:Nat) (A2:Option Addr) (cap2:Nat),j≤es.length∧i= .int .i64 j∧wl.cell? ⟨w5.heap.size,2,none⟩=some (.slice A2 (rnL (es.take j) o).length cap2)∧OwE wl (w5.heap.size+1) (.slice A2 (rnL (es.take j) o).length cap2) (rnL (es.take j) o)∧w5.grownBy wl (some w5.heap.size)∧wl.cell? ⟨w5.heap.size,0,none⟩=some (.int .i64 r)∧wl.cell? ⟨w5.heap.size,1,none⟩=some (.int .i64 o.length)∧(∀j,wl.frozen? ⟨w5.heap.size,j,none⟩=false)∧w5.heap.size<wl.heap.size) (fun i _=>es.length-(intOf i).toNat)
     case atStart=>exact⟨0,none,0,Nat.zero_le _,rfl,by show _=some (Value.slice none 0 0);simp[go_sem],OwE.nil,grown_bel ((Below.refl _ _).alloc (Nat.le_refl _) _),by simp[go_sem],by simp[go_sem],fun j=>by simp[go_sem],by simp⟩
     case round=>
      obtain⟨j,A2,cap2,hk2,rfl,hx2,hown2,hgr,hx0,hx1,hxf,hXr⟩:=hrel
      have HGW:=hDD hgr
      have hsz2:=hgr.size
      have HBw:=hDD (BX.out.trans (HB1.out.mono (show w.heap.size≤W0.heap.size by omega)))
      have HBw2:=hDD (HBw.out.grown hgr (by omega) (fun j hj=>by cases hj;omega))
      have b2:=(grown_cell (o:=2) hgr (show w.heap.size<w5.heap.size by omega) (by omega)).trans q2
      have HX2:=hDD hx2
      have HX0:=hDD hx0
      have HX1:=hDD hx1
      have HXF:=hDD hxf
      clear hx0 hx1 hxf
      have HOW2:=hDD hown2
      clear hgr hown2
      by_cases hlt3:j<es.length
      ·obtain⟨be,offe,rfl,hbe,c0,c1,c2,he64⟩:=(HE.out.below HBw2.out).at hlt3
       obtain⟨e1,e2,e3⟩:=HED.out es[j] (by simp)
       have HS:=hDD (rnL_succ es o j hlt3)
       have HSS:Hid (∀x,rnE o es[j]=some x→rnL (es.take (j+1)) o=rnL (es.take j) o++ [x]):=hDD fun x hx=>by
        rw[HS.out,hx]
        rfl
       have HSN:Hid (rnE o es[j]=none→rnL (es.take (j+1)) o=rnL (es.take j) o):=hDD fun hx=>by rw[HS.out,hx];simp
       have hlr:(rnL (es.take j) o).length≤120:=by
        have h2:=rnL_len (es.take j) o
        rw[List.length_take] at h2
        omega
       generalize es[j]=e at*
       obtain⟨f,l,t⟩:=e
       simp only at e1 e2 e3 c0 c1 c2
       obtain⟨a,rfl⟩: ∃a:Nat,f=(a:Int):=⟨f.toNat,by omega⟩
       obtain⟨c,rfl⟩: ∃c:Nat,t=(c:Int):=⟨t.toNat,by omega⟩
       have pa:=HPL.out wr HGW.out a (by omega)
       have pc:=HPL.out wr HGW.out c (by omega)
       obtain⟨ra1,ra2⟩:=PLR.out a
       obtain⟨rc1,rc2⟩:=PLR.out c
       have RN:Hid (rnE o ((a:Int),l,(c:Int))=if 0<plv o a∧0<plv o c then some (plv o a-1,l,plv o c-1) else none):=hDD rfl
       have ja:(a:Int)<(k:Int):=by omega
       have jc:(c:Int)<(k:Int):=by omega
       have ja0:(0:Int)≤(a:Int):=by omega
       have jc0:(0:Int)≤(c:Int):=by omega
       have hPr:W0.heap.size<wr.heap.size:=by omega
       have hl64:I64 l:=by unfold I64;omega
       have HL64:=hDD hl64
       generalize plv o a=pav at*
       generalize plv o c=pcv at*
       generalize hL:rnL (es.take j) o=L at*
       clear hl64 HS he64
       have bA:Below wr.heap.size wr (wr.alloc (Obj.cells #[Value.int IntKind.i64 a,Value.int IntKind.i64 l,Value.int IntKind.i64 c] 54)):=(Below.refl _ _).alloc (Nat.le_refl _) _
       by_cases t1:0≤pav-1
       ·by_cases t2:0≤pcv-1
        ·have F:=hDD (HSS.out _ (by rw[RN.out,if_pos ⟨by omega,by omega⟩]))
         go_wp2_with fail
         have sA:wr.heap.size<(wr.alloc (Obj.cells #[Value.int IntKind.i64 a,Value.int IntKind.i64 l,Value.int IntKind.i64 c] 54)).heap.size:=by simp
         have l0:(wr.alloc (Obj.cells #[Value.int IntKind.i64 a,Value.int IntKind.i64 l,Value.int IntKind.i64 c] 54)).cell? ⟨wr.heap.size,0,none⟩=some (.int .i64 a):=by simp[go_sem]
         have l1:(wr.alloc (Obj.cells #[Value.int IntKind.i64 a,Value.int IntKind.i64 l,Value.int IntKind.i64 c] 54)).cell? ⟨wr.heap.size,1,none⟩=some (.int .i64 l):=by simp[go_sem]
         have l2:(wr.alloc (Obj.cells #[Value.int IntKind.i64 a,Value.int IntKind.i64 l,Value.int IntKind.i64 c] 54)).cell? ⟨wr.heap.size,2,none⟩=some (.int .i64 c):=by simp[go_sem]
         generalize wr.alloc (Obj.cells #[Value.int IntKind.i64 a,Value.int IntKind.i64 l,Value.int IntKind.i64 c] 54)=W at bA sA l0 l1 l2⊢
         have la:=(bA.cell (p:=⟨W0.heap.size,a,none⟩) hPr).trans pa
         have lc:=(bA.cell (p:=⟨W0.heap.size,c,none⟩) hPr).trans pc
         have lx:=(bA.cell (p:=⟨w5.heap.size,2,none⟩) hXr).trans HX2.out
         have LX0:=hDD ((bA.cell (p:=⟨w5.heap.size,0,none⟩) hXr).trans HX0.out)
         have LX1:=hDD ((bA.cell (p:=⟨w5.heap.size,1,none⟩) hXr).trans HX1.out)
         have LXF:Hid (∀j,W.frozen? ⟨w5.heap.size,j,none⟩=false):=hDD fun j=>(bA.frozen (p:=⟨w5.heap.size,j,none⟩) hXr).trans (HXF.out j)
         have OW:=hDD (HOW2.out.below bA)
         have GW:=hDD (HGW.out.trans (grown_bel bA))
         have hXW:w5.heap.size<W.heap.size:=by omega
         have hPW:W0.heap.size<W.heap.size:=by omega
         have hPX:W0.heap.size≠w5.heap.size:=by omega
         clear bA pa pc hx2
         refine wp_region_T' (n:=18) (S:=fun w'=>w'.cell? ⟨w5.heap.size,2,none⟩=some (.slice A2 L.length cap2)∧w'.cell? ⟨W0.heap.size,a,none⟩=some (.int .i64 (pav-1))∧w'.cell? ⟨W0.heap.size,c,none⟩=some (.int .i64 (pcv-1))∧w'.cell? ⟨wr.heap.size,0,none⟩=some (.int .i64 a)∧w'.cell? ⟨wr.heap.size,1,none⟩=some (.int .i64 l)∧w'.cell? ⟨wr.heap.size,2,none⟩=some (.int .i64 c)) (by kernel_rfl) (by rfl) ⟨lx,la,lc,l0,l1,l2⟩ (fun hHeld=> ?_)
         (refine wpAnyT_take (n:=18) (i:=0) (v:= ?_) rfl (by kernel_rfl) rfl (by decide) (by kernel_rfl) (by kernel_rfl) (by kernel_rfl) (by kernel_rfl) (fun _ _ _ h=>h) (Or.inl ⟨by rfl,?_⟩) (by assumption) ?_;rotate_left;focus (intro ww hSw;(try dsimp only at hSw);go_simp;try with_reducible rfl);(try simp only[Act.put,List.setIfInBounds_toArray,List.set_cons_zero,List.set_cons_succ]));(refine wpAnyT_take (n:=18) (i:=1) (v:= ?_) rfl (by kernel_rfl) rfl (by decide) (by kernel_rfl) (by kernel_rfl) (by kernel_rfl) (by kernel_rfl) (fun _ _ _ h=>h) (Or.inl ⟨by rfl,?_⟩) (by assumption) ?_;rotate_left;focus (intro ww hSw;(try dsimp only at hSw);go_simp;try with_reducible rfl);(try simp only[Act.put,List.setIfInBounds_toArray,List.set_cons_zero,List.set_cons_succ]));(refine wpAnyT_take (n:=18) (i:=2) (v:= ?_) rfl (by kernel_rfl) rfl (by decide) (by kernel_rfl) (by kernel_rfl) (by kernel_rfl) (by kernel_rfl) (fun _ _ _ h=>h) (Or.inl ⟨by rfl,?_⟩) (by assumption) ?_;rotate_left;focus (intro ww hSw;(try dsimp only at hSw);go_simp;try with_reducible rfl);(try simp only[Act.put,List.setIfInBounds_toArray,List.set_cons_zero,List.set_cons_succ]));(refine wpAnyT_take (n:=18) (i:=3) (v:= ?_) rfl (by kernel_rfl) rfl (by decide) (by kernel_rfl) (by kernel_rfl) (by kernel_rfl) (by kernel_rfl) (fun _ _ _ h=>h) (Or.inl ⟨by rfl,?_⟩) (by assumption) ?_;rotate_left;focus (intro ww hSw;(try dsimp only at hSw);go_simp;try with_reducible rfl);(try simp only[Act.put,List.setIfInBounds_toArray,List.set_cons_zero,List.set_cons_succ]));(refine wpAnyT_take (n:=18) (i:=4) (v:= ?_) rfl (by kernel_rfl) rfl (by decide) (by kernel_rfl) (by kernel_rfl) (by kernel_rfl) (by kernel_rfl) (fun _ _ _ h=>h) (Or.inl ⟨by rfl,?_⟩) (by assumption) ?_;rotate_left;focus (intro ww hSw;(try dsimp only at hSw);go_simp;try with_reducible rfl);(try simp only[Act.put,List.setIfInBounds_toArray,List.set_cons_zero,List.set_cons_succ]));(refine wpAnyT_take (n:=18) (i:=5) (v:= ?_) rfl (by kernel_rfl) rfl (by decide) (by kernel_rfl) (by kernel_rfl) (by kernel_rfl) (by kernel_rfl) (fun _ _ _ h=>h) (Or.inl ⟨by rfl,?_⟩) (by assumption) ?_;rotate_left;focus (intro ww hSw;(try dsimp only at hSw);go_simp;try with_reducible rfl);(try simp only[Act.put,List.setIfInBounds_toArray,List.set_cons_zero,List.set_cons_succ]));(refine wpAnyT_take (n:=18) (i:=6) (v:= ?_) rfl (by kernel_rfl) rfl (by decide) (by kernel_rfl) (by kernel_rfl) (by kernel_rfl) (by kernel_rfl) (fun _ _ _ h=>h) (Or.inl ⟨by rfl,?_⟩) (by assumption) ?_;rotate_left;focus (intro ww hSw;(try dsimp only at hSw);go_simp;try with_reducible rfl);(try simp only[Act.put,List.setIfInBounds_toArray,List.set_cons_zero,List.set_cons_succ]));(refine wpAnyT_take (n:=18) (i:=7) (v:= ?_) rfl (by kernel_rfl) rfl (by decide) (by kernel_rfl) (by kernel_rfl) (by kernel_rfl) (by kernel_rfl) (fun _ _ _ h=>h) (Or.inl ⟨by rfl,?_⟩) (by assumption) ?_;rotate_left;focus (intro ww hSw;(try dsimp only at hSw);go_simp;try with_reducible rfl);(try simp only[Act.put,List.setIfInBounds_toArray,List.set_cons_zero,List.set_cons_succ]));(refine wpAnyT_take (n:=18) (i:=8) (v:= ?_) rfl (by kernel_rfl) rfl (by decide) (by kernel_rfl) (by kernel_rfl) (by kernel_rfl) (by kernel_rfl) (fun _ _ _ h=>h) (Or.inl ⟨by rfl,?_⟩) (by assumption) ?_;rotate_left;focus (intro ww hSw;(try dsimp only at hSw);go_simp;try with_reducible rfl);(try simp only[Act.put,List.setIfInBounds_toArray,List.set_cons_zero,List.set_cons_succ]));(refine wpAnyT_take (n:=18) (i:=9) (v:= ?_) rfl (by kernel_rfl) rfl (by decide) (by kernel_rfl) (by kernel_rfl) (by kernel_rfl) (by kernel_rfl) (fun _ _ _ h=>h) (Or.inl ⟨by rfl,?_⟩) (by assumption) ?_;rotate_left;focus (intro ww hSw;(try dsimp only at hSw);go_simp;try with_reducible rfl);(try simp only[Act.put,List.setIfInBounds_toArray,List.set_cons_zero,List.set_cons_succ]));(refine wpAnyT_take (n:=18) (i:=10) (v:= ?_) rfl (by kernel_rfl) rfl (by decide) (by kernel_rfl) (by kernel_rfl) (by kernel_rfl) (by kernel_rfl) (fun _ _ _ h=>h) (Or.inl ⟨by rfl,?_⟩) (by assumption) ?_;rotate_left;focus (intro ww hSw;(try dsimp only at hSw);go_simp;try with_reducible rfl);(try simp only[Act.put,List.setIfInBounds_toArray,List.set_cons_zero,List.set_cons_succ]));(refine wpAnyT_take (n:=18) (i:=11) (v:= ?_) rfl (by kernel_rfl) rfl (by decide) (by kernel_rfl) (by kernel_rfl) (by kernel_rfl) (by kernel_rfl) (fun _ _ _ h=>h) (Or.inl ⟨by rfl,?_⟩) (by assumption) ?_;rotate_left;focus (intro ww hSw;(try dsimp only at hSw);go_simp;try with_reducible rfl);(try simp only[Act.put,List.setIfInBounds_toArray,List.set_cons_zero,List.set_cons_succ]));(refine wpAnyT_take (n:=18) (i:=12) (v:= ?_) rfl (by kernel_rfl) rfl (by decide) (by kernel_rfl) (by kernel_rfl) (by kernel_rfl) (by kernel_rfl) (fun _ _ _ h=>h) (Or.inl ⟨by rfl,?_⟩) (by assumption) ?_;rotate_left;focus (intro ww hSw;(try dsimp only at hSw);go_simp;try with_reducible rfl);(try simp only[Act.put,List.setIfInBounds_toArray,List.set_cons_zero,List.set_cons_succ]));(refine wpAnyT_take (n:=18) (i:=13) (v:= ?_) rfl (by kernel_rfl) rfl (by decide) (by kernel_rfl) (by kernel_rfl) (by kernel_rfl) (by kernel_rfl) (fun _ _ _ h=>h) (Or.inl ⟨by rfl,?_⟩) (by assumption) ?_;rotate_left;focus (intro ww hSw;(try dsimp only at hSw);go_simp;try with_reducible rfl);(try simp only[Act.put,List.setIfInBounds_toArray,List.set_cons_zero,List.set_cons_succ]));(refine wpAnyT_take (n:=18) (i:=14) (v:= ?_) rfl (by kernel_rfl) rfl (by decide) (by kernel_rfl) (by kernel_rfl) (by kernel_rfl) (by kernel_rfl) (fun _ _ _ h=>h) (Or.inl ⟨by rfl,?_⟩) (by assumption) ?_;rotate_left;focus (intro ww hSw;(try dsimp only at hSw);go_simp;try with_reducible rfl);(try simp only[Act.put,List.setIfInBounds_toArray,List.set_cons_zero,List.set_cons_succ]))
         refine wpAnyT_step (i:=15) (by kernel_rfl) rfl fun K' hK=> ?_
         go_simp
         have hNW:W0.heap.size≠W.heap.size:=by omega
         have hNX:w5.heap.size≠W.heap.size:=by omega
         have hNe:wr.heap.size≠W.heap.size:=by omega
         have bB:Below W.heap.size W (W.alloc (Obj.cells #[Value.int IntKind.i64 (pav-1),Value.int IntKind.i64 l,Value.int IntKind.i64 (pcv-1)] 54)).drew:=(by repeat(first | exact Below.refl _ _ | (refine Below.setCell ?_ (by first | omega | (simp<;>omega)) _) | (refine bel_drewN ?_ _) | (refine Below.drew ?_) | (refine Below.alloc ?_ (by first | omega | (simp<;>omega)) _)))
         have nE: ∀j u,(edC (pav-1,l,pcv-1))[j]? =some u→(W.alloc (Obj.cells #[Value.int IntKind.i64 (pav-1),Value.int IntKind.i64 l,Value.int IntKind.i64 (pcv-1)] 54)).drew.cell? ⟨W.heap.size,j,none⟩=some u:=fun j u hj=>by
          rcases j with _ | _ | _ | j<;>simp[edC] at hj<;>subst hj<;>simp[go_sem]
         have sB:W.heap.size<(W.alloc (Obj.cells #[Value.int IntKind.i64 (pav-1),Value.int IntKind.i64 l,Value.int IntKind.i64 (pcv-1)] 54)).drew.heap.size:=by simp
         have hHeld2:(W.alloc (Obj.cells #[Value.int IntKind.i64 (pav-1),Value.int IntKind.i64 l,Value.int IntKind.i64 (pcv-1)] 54)).drew.cell? ⟨w5.heap.size,2,none⟩=some (.slice A2 L.length cap2)∧(W.alloc (Obj.cells #[Value.int IntKind.i64 (pav-1),Value.int IntKind.i64 l,Value.int IntKind.i64 (pcv-1)] 54)).drew.cell? ⟨W0.heap.size,a,none⟩=some (.int .i64 (pav-1))∧(W.alloc (Obj.cells #[Value.int IntKind.i64 (pav-1),Value.int IntKind.i64 l,Value.int IntKind.i64 (pcv-1)] 54)).drew.cell? ⟨W0.heap.size,c,none⟩=some (.int .i64 (pcv-1))∧(W.alloc (Obj.cells #[Value.int IntKind.i64 (pav-1),Value.int IntKind.i64 l,Value.int IntKind.i64 (pcv-1)] 54)).drew.cell? ⟨wr.heap.size,0,none⟩=some (.int .i64 a)∧(W.alloc (Obj.cells #[Value.int IntKind.i64 (pav-1),Value.int IntKind.i64 l,Value.int IntKind.i64 (pcv-1)] 54)).drew.cell? ⟨wr.heap.size,1,none⟩=some (.int .i64 l)∧(W.alloc (Obj.cells #[Value.int IntKind.i64 (pav-1),Value.int IntKind.i64 l,Value.int IntKind.i64 (pcv-1)] 54)).drew.cell? ⟨wr.heap.size,2,none⟩=some (.int .i64 c):=
          ⟨(bB.cell (p:=⟨w5.heap.size,2,none⟩) hXW).trans lx,(bB.cell (p:=⟨W0.heap.size,a,none⟩) hPW).trans la,(bB.cell (p:=⟨W0.heap.size,c,none⟩) hPW).trans lc,(bB.cell (p:=⟨wr.heap.size,0,none⟩) sA).trans l0,(bB.cell (p:=⟨wr.heap.size,1,none⟩) sA).trans l1,(bB.cell (p:=⟨wr.heap.size,2,none⟩) sA).trans l2⟩
         clear hHeld
         refine hK.out _ _ hHeld2 (fun _=> ?_)
         clear hK
         generalize (W.alloc (Obj.cells #[Value.int IntKind.i64 (pav-1),Value.int IntKind.i64 l,Value.int IntKind.i64 (pcv-1)] 54)).drew=V at bB nE sB hHeld2⊢
         have sV:W.heap.size<V.heap.size:=sB
         refine wpAnyT_step (i:=16) (by kernel_rfl) rfl fun K' hK=> ?_
         rw[if_pos (by rfl)]
         refine wp_push_edge (.tmp 63) (.tmp 77) rfl (w5.heap.size+1) _ L (OW.out.below bB) rfl W.heap.size (pav-1,l,pcv-1) rfl nE ⟨⟨by simp only;omega,by simp only;omega⟩,HL64.out,⟨by simp only;omega,by simp only;omega⟩⟩ (by omega) (by omega) ?_
         intro v' w' o' g' p'
         obtain⟨A9,cap9,rfl,_⟩:=OwE.form o'
         have O9:=hDD o'
         clear o'
         have hrow: ∀x,(Value.slice A2 L.length cap2).ownBlock=some x→w5.heap.size+1≤x∧x<wr.heap.size:=fun x hx=>HOW2.out.1.lt x hx
         have ne1: ∀y,y<V.heap.size→(y≤w5.heap.size∨y=wr.heap.size)→some y≠(Value.slice A2 L.length cap2).ownBlock:=fun y _ h he=>by
          have:=hrow y he.symm
          omega
         have cW: ∀y o u,y<V.heap.size→(y≤w5.heap.size∨y=wr.heap.size)→V.cell? ⟨y,o,none⟩=some u→w'.cell? ⟨y,o,none⟩=some u:=fun y o u h1 h2 h3=>(World.cell?_of_block (w:=V) (g'.block y h1 (ne1 y h1 h2))).trans h3
         obtain⟨k1,k2,k3,k4,k5,k6⟩:=hHeld2
         have hHeld3:w'.cell? ⟨w5.heap.size,2,none⟩=some (.slice A2 L.length cap2)∧w'.cell? ⟨W0.heap.size,a,none⟩=some (.int .i64 (pav-1))∧w'.cell? ⟨W0.heap.size,c,none⟩=some (.int .i64 (pcv-1))∧w'.cell? ⟨wr.heap.size,0,none⟩=some (.int .i64 a)∧w'.cell? ⟨wr.heap.size,1,none⟩=some (.int .i64 l)∧w'.cell? ⟨wr.heap.size,2,none⟩=some (.int .i64 c):=
          ⟨cW _ _ _ (by omega) (by omega) k1,cW _ _ _ (by omega) (by omega) k2,cW _ _ _ (by omega) (by omega) k3,cW _ _ _ (by omega) (by omega) k4,cW _ _ _ (by omega) (by omega) k5,cW _ _ _ (by omega) (by omega) k6⟩
         refine hK.out _ _ hHeld3 (fun _=> ?_)
         clear hK
         simp only[Act.put,List.setIfInBounds_toArray,List.set_cons_zero,List.set_cons_succ]
         (refine wpAnyT_take (n:=18) (i:=17) (v:= ?_) rfl (by kernel_rfl) rfl (by decide) (by kernel_rfl) (by kernel_rfl) (by kernel_rfl) (by kernel_rfl) (fun _ _ _ h=>h) (Or.inl ⟨by rfl,?_⟩) (by assumption) ?_;rotate_left;focus (intro ww hSw;(try dsimp only at hSw);go_simp;try with_reducible rfl);(try simp only[Act.put,List.setIfInBounds_toArray,List.set_cons_zero,List.set_cons_succ]))
         have qf:w'.frozen? ⟨w5.heap.size,2,none⟩=false:=((World.frozen?_of_block (w:=V) (g'.block w5.heap.size (by omega) (ne1 _ (by omega) (by omega)))).trans (bB.frozen (p:=⟨w5.heap.size,2,none⟩) hXW)).trans (LXF.out 2)
         have qx:=hHeld3.1
         refine wpAnyT_last (n:=18) (by kernel_rfl) rfl (by kernel_rfl) fun K' hK=> ?_
         go_simp
         refine hK.out _ _ ?_
         clear hK
         go_wp2
         go_roundw
         case rel=>
          have GV:w5.grownBy V (some w5.heap.size):=GW.out.trans (grown_bel bB)
          have hVw:=g'.size
          have G9:w5.grownBy w' (some w5.heap.size):=⟨g'.os.trans GV.os,g'.tape.trans GV.tape,g'.output.trans GV.output,by omega,fun b hb hne=>(g'.block b (by omega) (ne1 b (by omega) (by omega))).trans (GV.block b hb hne)⟩
          refine⟨j+1,A9,cap9,by omega,by go_num,by rw[F.out,List.length_append];exact World.cell?_setCell_same _ _ _ qx,?_,G9.trans (set_grown _ _ _ _),?_,?_,fun j=> ?_,by simp;omega⟩
          ·rw[F.out]
           have:=O9.out.far (p:=⟨w5.heap.size,2,none⟩) (show w5.heap.size<w5.heap.size+1 by omega) (Value.slice A9 (L.length+1) cap9)
           simpa[List.length_append] using this
          ·rw[World.cell?_setCell_other _ _ _ _ (by simp)]
           exact cW _ _ _ (by omega) (by omega) ((bB.cell (p:=⟨w5.heap.size,0,none⟩) hXW).trans LX0.out)
          ·rw[World.cell?_setCell_other _ _ _ _ (by simp)]
           exact cW _ _ _ (by omega) (by omega) ((bB.cell (p:=⟨w5.heap.size,1,none⟩) hXW).trans LX1.out)
          ·rw[World.frozen?_setCell]
           exact((World.frozen?_of_block (w:=V) (g'.block w5.heap.size (by omega) (ne1 _ (by omega) (by omega)))).trans (bB.frozen (p:=⟨w5.heap.size,j,none⟩) hXW)).trans (LXF.out j)
         case measure=>simp[intOf];omega
        ·have F:=hDD (HSN.out (by rw[RN.out,if_neg (fun h=>t2 (by omega))]))
         go_wp2
         go_roundw
         case rel=>exact⟨j+1,A2,cap2,by omega,by go_num,by rw[F.out];exact(bA.cell (p:=⟨w5.heap.size,2,none⟩) hXr).trans HX2.out,by rw[F.out];exact HOW2.out.below bA,HGW.out.trans (grown_bel bA),(bA.cell (p:=⟨w5.heap.size,0,none⟩) hXr).trans HX0.out,(bA.cell (p:=⟨w5.heap.size,1,none⟩) hXr).trans HX1.out,fun j=>(bA.frozen (p:=⟨w5.heap.size,j,none⟩) hXr).trans (HXF.out j),by simp;omega⟩
         case measure=>simp[intOf];omega
       ·have F:=hDD (HSN.out (by rw[RN.out,if_neg (fun h=>t1 (by omega))]))
        go_wp2
        go_roundw
        case rel=>exact⟨j+1,A2,cap2,by omega,by go_num,by rw[F.out];exact(bA.cell (p:=⟨w5.heap.size,2,none⟩) hXr).trans HX2.out,by rw[F.out];exact HOW2.out.below bA,HGW.out.trans (grown_bel bA),(bA.cell (p:=⟨w5.heap.size,0,none⟩) hXr).trans HX0.out,(bA.cell (p:=⟨w5.heap.size,1,none⟩) hXr).trans HX1.out,fun j=>(bA.frozen (p:=⟨w5.heap.size,j,none⟩) hXr).trans (HXF.out j),by simp;omega⟩
        case measure=>simp[intOf];omega
      ·obtain rfl:j=es.length:=by omega
       rw[List.take_length] at hx2 HOW2
       have HNDR:=hDD (rnL_nodup o HNDE.out)
       have hlr:(rnL es o).length≤120:=by
        have h2:=rnL_len es o
        omega
       have hxf2:=HXF.out 2
       go_wp2_with fail
       refine(sorted_any _ _ _ HOW2.out.arg HNDR.out (by omega)).mono ?_
       rintro e' w9 ⟨r9,rfl,o9,b9⟩
       have B9:=hDD b9
       have qx0:=(b9.cell (p:=⟨w5.heap.size,0,none⟩) hXr).trans HX0.out
       have qx1:=(b9.cell (p:=⟨w5.heap.size,1,none⟩) hXr).trans HX1.out
       have qx2:=(b9.cell (p:=⟨w5.heap.size,2,none⟩) hXr).trans hx2
       have qf2:=(b9.frozen (p:=⟨w5.heap.size,2,none⟩) hXr).trans hxf2
       obtain⟨A9,cap9,rfl,_⟩:=OwE.form o9
       have O9:=hDD o9
       have RR0:=(b9.cell (p:=⟨w.heap.size+1,0,none⟩) (by show w.heap.size+1<wr.heap.size;omega)).trans ((grown_cell (o:=0) HGW.out (show w.heap.size+1<w5.heap.size by omega) (by omega)).trans ((HB1.out.cell (p:=⟨w.heap.size+1,0,none⟩) hltw1).trans R0.out))
       have RR1:=(b9.cell (p:=⟨w.heap.size+1,1,none⟩) (by show w.heap.size+1<wr.heap.size;omega)).trans ((grown_cell (o:=1) HGW.out (show w.heap.size+1<w5.heap.size by omega) (by omega)).trans ((HB1.out.cell (p:=⟨w.heap.size+1,1,none⟩) hltw1).trans R1.out))
       have RR2:=(b9.cell (p:=⟨w.heap.size+1,2,none⟩) (by show w.heap.size+1<wr.heap.size;omega)).trans ((grown_cell (o:=2) HGW.out (show w.heap.size+1<w5.heap.size by omega) (by omega)).trans ((HB1.out.cell (p:=⟨w.heap.size+1,2,none⟩) hltw1).trans R2.out))
       have rrf: ∀j,w9.frozen? ⟨w.heap.size+1,j,none⟩=false:=fun j=>(b9.frozen (p:=⟨w.heap.size+1,j,none⟩) (by show w.heap.size+1<wr.heap.size;omega)).trans ((grown_frozen (o:=j) HGW.out (show w.heap.size+1<w5.heap.size by omega) (by omega)).trans ((HB1.out.frozen (p:=⟨w.heap.size+1,j,none⟩) hltw1).trans (RF.out j)))
       have rf0:=rrf 0
       have rf1:=rrf 1
       have rf2:=rrf 2
       have s9:=b9.size
       clear rrf b9 o9
       generalize hL:srt cmpE (rnL es o)=L at*
       have HLL:=hDD hL
       clear hL
       have nX: ¬w5.heap.size=w.heap.size+1:=by omega
       have nX': ¬w.heap.size+1=w5.heap.size:=by omega
       go_wp2
       have hRw:w.heap.size+1<w9.heap.size:=by omega
       have c0:((((w9.setCell ⟨w5.heap.size,2,none⟩ (.slice A9 L.length cap9)).setCell ⟨w.heap.size+1,0,none⟩ (.int .i64 r)).setCell ⟨w.heap.size+1,1,none⟩ (.int .i64 o.length)).setCell ⟨w.heap.size+1,2,none⟩ (.slice A9 L.length cap9)).cell? ⟨w.heap.size+1,0,none⟩=some (.int .i64 r):=by
        rw[World.cell?_setCell_other _ _ _ _ (by simp),World.cell?_setCell_other _ _ _ _ (by simp)]
        exact World.cell?_setCell_same _ _ _ ((cell_set_other _ _ _ _ _ _ (by omega)).trans RR0)
       have c1:((((w9.setCell ⟨w5.heap.size,2,none⟩ (.slice A9 L.length cap9)).setCell ⟨w.heap.size+1,0,none⟩ (.int .i64 r)).setCell ⟨w.heap.size+1,1,none⟩ (.int .i64 o.length)).setCell ⟨w.heap.size+1,2,none⟩ (.slice A9 L.length cap9)).cell? ⟨w.heap.size+1,1,none⟩=some (.int .i64 o.length):=by
        rw[World.cell?_setCell_other _ _ _ _ (by simp)]
        exact World.cell?_setCell_same _ _ _ ((World.cell?_setCell_other _ _ _ _ (by simp)).trans ((cell_set_other _ _ _ _ _ _ (by omega)).trans RR1))
       have c2:((((w9.setCell ⟨w5.heap.size,2,none⟩ (.slice A9 L.length cap9)).setCell ⟨w.heap.size+1,0,none⟩ (.int .i64 r)).setCell ⟨w.heap.size+1,1,none⟩ (.int .i64 o.length)).setCell ⟨w.heap.size+1,2,none⟩ (.slice A9 L.length cap9)).cell? ⟨w.heap.size+1,2,none⟩=some (.slice A9 L.length cap9):=
        World.cell?_setCell_same _ _ _ ((World.cell?_setCell_other _ _ _ _ (by simp)).trans ((World.cell?_setCell_other _ _ _ _ (by simp)).trans ((cell_set_other _ _ _ _ _ _ (by omega)).trans RR2)))
       have HBw9:=hDD (HBw2.out.trans (B9.out.mono (show w.heap.size≤wr.heap.size by omega)))
       have bw:Below w.heap.size w ((((w9.setCell ⟨w5.heap.size,2,none⟩ (.slice A9 L.length cap9)).setCell ⟨w.heap.size+1,0,none⟩ (.int .i64 r)).setCell ⟨w.heap.size+1,1,none⟩ (.int .i64 o.length)).setCell ⟨w.heap.size+1,2,none⟩ (.slice A9 L.length cap9)):=(by repeat(first | exact Below.refl _ _ | (refine Below.setCell ?_ (by first | omega | (simp<;>omega)) _) | (refine bel_drewN ?_ _) | (refine Below.drew ?_) | (refine Below.alloc ?_ (by first | omega | (simp<;>omega)) _) | (refine Below.trans ?_ (Below.mono (Hid.out HBw9) (by first | omega | (simp<;>omega))))))
       have ow:OwE ((((w9.setCell ⟨w5.heap.size,2,none⟩ (.slice A9 L.length cap9)).setCell ⟨w.heap.size+1,0,none⟩ (.int .i64 r)).setCell ⟨w.heap.size+1,1,none⟩ (.int .i64 o.length)).setCell ⟨w.heap.size+1,2,none⟩ (.slice A9 L.length cap9)) wr.heap.size (.slice A9 L.length cap9) L:=
        (((O9.out.far (p:=⟨w5.heap.size,2,none⟩) (by show w5.heap.size<_;omega) _).far (p:=⟨w.heap.size+1,0,none⟩) (by show w.heap.size+1<_;omega) _).far (p:=⟨w.heap.size+1,1,none⟩) (by show w.heap.size+1<_;omega) _).far (p:=⟨w.heap.size+1,2,none⟩) (by show w.heap.size+1<_;omega) _
       generalize (((w9.setCell ⟨w5.heap.size,2,none⟩ (.slice A9 L.length cap9)).setCell ⟨w.heap.size+1,0,none⟩ (.int .i64 r)).setCell ⟨w.heap.size+1,1,none⟩ (.int .i64 o.length)).setCell ⟨w.heap.size+1,2,none⟩ (.slice A9 L.length cap9)=wf at*
       refine bodyPost_ret (v:= .agg #[.int .i64 r, .int .i64 o.length, .slice A9 L.length cap9]) (by simp[results,Tryz.results102,go_sem,c0,c1,c2]) rfl ⟨_,rfl,⟨.slice A9 L.length cap9,?_,?_,?_,?_⟩,bw⟩
       ·rfl
       ·show I64 r
        unfold I64
        omega
       ·show I64 (o.length:Int)
        unfold I64
        omega
       ·show OwE wf w.heap.size (.slice A9 L.length cap9) (srt cmpE (rnL es o))
        rw[HLL.out]
        exact ow.mono (by omega)
theorem part_any (v vo:Value) (g:GrD) (o:List Int) (w:World) (h:ArgG w v g) (ho:RdI w vo o) (hg:grB g=true) (hok:OrdOk g.2.1 o):
  Calls Tryz.prog 102 #[v,vo] w fun e w'=> ∃r,e= .returned r∧OwG w' w.heap.size r (rnG g o)∧Below w.heap.size w w':=part_anyN v vo g o w h ho hg hok.toN
end Go.Proofs.YtfadnkjlilhneaaGreat
namespace Go.Proofs.YtfadnkjlilhneaaGreat
set_option maxRecDepth 20000
set_option linter.unusedVariables false
set_option linter.unusedSimpArgs false
open Go.RowKit
def bools (bs:List Bool):List Value:=bs.map Value.bool
def OwB (w:World) (base:Nat) (v:Value) (bs:List Bool):Prop:=w.ownsRow base 4 1 v bs.length (bools bs)
section
variable {w w':World} {base n g cap:Nat} {v:Value} {bs:List Bool}
theorem OwB.len (h:OwB w base (.slice (some ⟨g,0,none⟩) n cap) bs):n=bs.length:=by
 rcases h.2 with ⟨hv,_⟩ | ⟨g',cap',cur,hv,_⟩
 ·cases hv
 ·injection hv
theorem OwB.set (h:OwB w base (.slice (some ⟨g,0,none⟩) n cap) bs) (j:Nat) (z:Bool):
  OwB (w.setCell ⟨g,j,none⟩ (.bool z)) base (.slice (some ⟨g,0,none⟩) n cap) (bs.set j z)∧w.grownBy (w.setCell ⟨g,j,none⟩ (.bool z)) (some g):=by
 have hn:=h.len
 subst hn
 obtain⟨h1,h2⟩:=World.ownsRow.stored h j (.bool z)
 refine⟨?_,h2⟩
 unfold OwB
 rw[List.length_set]
 simpa[bools,List.map_set] using h1
theorem OwB.cellAt (h:OwB w base (.slice (some ⟨g,0,none⟩) n cap) bs) (j:Nat) (hj:j<bs.length):w.cell? ⟨g,j,none⟩=some (.bool bs[j]):=by
 have hn:=h.len
 subst hn
 rw[World.ownsRow.cellAt h j (by omega)]
 simp[bools,hj]
theorem OwB.free (h:OwB w base (.slice (some ⟨g,0,none⟩) n cap) bs) (j:Nat):w.frozen? ⟨g,j,none⟩=false:=by
 have hn:=h.len
 subst hn
 exact World.ownsRow.frozenAt h j
end
theorem OwB.below {w w':World} {base:Nat} {v:Value} {bs:List Bool} (h:OwB w base v bs) (hb:Below w.heap.size w w'):OwB w' base v bs:=ownsRow_below h hb
theorem OwB.mono {w:World} {base base':Nat} {v:Value} {bs:List Bool} (h:OwB w base v bs) (hb:base'≤base):OwB w base' v bs:=by
 refine⟨h.1,?_⟩
 rcases h.2 with h0 | ⟨g,cap,cur,hv,hg,r⟩
 ·exact .inl h0
 ·exact .inr ⟨g,cap,cur,hv,by omega,r⟩
def cellF (w:World) (b v:Nat):Nat:=match w.cell? ⟨b,v,none⟩ with
 | some (.bool false)=>1
 | _=>0
def mB (w:World) (b n:Nat):Nat:=((List.range n).map (cellF w b)).sum
theorem sum_count (bs:List Bool):(bs.map fun b=>if b=false then 1 else 0).sum=bs.count false:=by
 induction bs with
 | nil=>rfl
 | cons b bs ih=>cases b<;>simp[ih];omega
theorem mB_eq {w:World} {base g n cap:Nat} {bs:List Bool} (h:OwB w base (.slice (some ⟨g,0,none⟩) n cap) bs):mB w g bs.length=bs.count false:=by
 rw[←sum_count]
 unfold mB
 congr 1
 refine List.ext_getElem (by simp) fun i h1 h2=> ?_
 have hi:i<bs.length:=by simpa using h2
 simp only[List.getElem_map,List.getElem_range]
 unfold cellF
 rw[h.cellAt i hi]
 cases bs[i]<;>rfl
def JI (es:List EdD) (n:Nat) (bs:List Bool):Prop:=bs.length=n∧bs[0]? =some true∧ ∀v:Nat,bs[v]? =some true→Conn es 0 v
theorem set_true_get {bs:List Bool} {a v:Nat}:(bs.set a true)[v]? =some true↔(v=a∧a<bs.length)∨bs[v]? =some true:=by
 rw[List.getElem?_set]
 by_cases e:a=v
 ·subst e
  by_cases hl:a<bs.length
  ·simp[hl]
  ·simp[hl]
 ·rw[if_neg e]
  constructor
  ·exact .inr
  ·rintro(⟨h,_⟩ | h)
   ·exact absurd h.symm e
   ·exact h
theorem count_set_true {bs:List Bool} {a:Nat} (ha:a<bs.length):(bs.set a true).count false+(if bs[a]=false then 1 else 0)=bs.count false:=by
 induction bs generalizing a with
 | nil=>simp at ha
 | cons b bs ih=>
   cases a with
   | zero=>cases b<;>simp
   | succ a=>
     have:=ih (a:=a) (by simpa using ha)
     cases b<;>simp[List.count_cons]<;>omega
theorem JI.step {es:List EdD} {n a c:Nat} {bs:List Bool} {l:Int} (h:JI es n bs) (he:((a:Int),l,(c:Int))∈es) (ha:a<n) (hc:c<n) (hne:bs[a]? ≠bs[c]?):
  JI es n ((bs.set a true).set c true)∧((bs.set a true).set c true).count false<bs.count false:=by
 obtain⟨h1,h2,h3⟩:=h
 have hla:a<bs.length:=by omega
 have hlc:c<bs.length:=by omega
 have e1:bs[a]? =some bs[a]:=by simp[hla]
 have e2:bs[c]? =some bs[c]:=by simp[hlc]
 have hor:bs[a]? =some true∨bs[c]? =some true:=by
  rw[e1,e2] at hne⊢
  cases h:bs[a]<;>cases h':bs[c]<;>simp[h,h'] at hne⊢
 refine⟨⟨by simp[h1],?_,fun v hv=> ?_⟩,?_⟩
 ·rw[set_true_get,set_true_get]
  exact .inr (.inr h2)
 ·rw[set_true_get,set_true_get] at hv
  rcases hv with ⟨rfl,_⟩ | ⟨rfl,_⟩ | hv
  ·rcases hor with h | h
   ·exact Conn.fwd _ he (h3 _ h)
   ·exact h3 _ h
  ·rcases hor with h | h
   ·exact h3 _ h
   ·exact Conn.back _ he (h3 _ h)
  ·exact h3 _ hv
 ·have k1:=count_set_true hla
  have k2:=count_set_true (bs:=bs.set a true) (a:=c) (by simpa using hlc)
  rw[e1,e2] at hne
  have hac:a≠c:=fun e=>by subst e;exact hne rfl
  have k3:(bs.set a true)[c]'(by simpa using hlc)=bs[c]:=by rw[List.getElem_set_ne hac]
  rw[k3] at k2
  cases h:bs[a]<;>cases h':bs[c]<;>simp[h,h'] at hne k1 k2<;>omega
theorem JI.done {es:List EdD} {n:Nat} {bs:List Bool} (h:JI es n bs) (hr: ∀e∈es,0≤e.1∧0≤e.2.2) (hcl: ∀e∈es,bs[e.1.toNat]? =bs[e.2.2.toNat]?):
  ∀v (hv:v<bs.length),bs[v]=hasB (reachL es 0) v:=by
 intro v hv
 have key:bs[v]? =some true↔Conn es 0 v:=by
  refine⟨h.2.2 v,fun hc=> ?_⟩
  have:=conn_of_closed (S:=fun x=>0≤x→bs[x.toNat]? =some true) (v:=0) (fun _=>h.2.1) ?_ hc (by omega)
  ·simpa using this
  ·intro e he
   obtain⟨a,b⟩:=hr e he
   have:=hcl e he
   exact⟨fun hx _=>by rw[←this];exact hx a,fun hx _=>by rw[this];exact hx b⟩
 rw[Bool.eq_iff_iff,hasB_iff,reachL_mem,←key]
 simp[hv]
theorem heapSize_setCell' (w:World) (a:Addr) (u:Value):(w.setCell a u).heap.size=w.heap.size:=by simp
theorem bool_info:(Tryz.prog.info? 4).map (fun i=>(i.zero,i.size,i.bytes))=some (some (.bool false),1,1):=by kernel_rfl
def joinL (g:GrD):List Bool:=(List.range g.2.1.toNat).map fun v=>hasB (reachL g.2.2 0) (v:Nat)
theorem joinL_of {g:GrD} {bs:List Bool} (hl:bs.length=g.2.1.toNat) (h: ∀v (hv:v<bs.length),bs[v]=hasB (reachL g.2.2 0) v):bs=joinL g:=by
 refine List.ext_getElem (by simp[joinL,hl]) fun i h1 h2=> ?_
 rw[h i h1]
 simp[joinL]
set_option maxHeartbeats 1000000 in
theorem joined_any (v:Value) (g:GrD) (w:World) (h:ArgG w v g) (hg:grB g=true):
  Calls Tryz.prog 100 #[v, .int .i64 0] w fun e w'=> ∃r,e= .returned r∧OwB w' w.heap.size r (joinL g)∧Below w.heap.size w w':=by
 have HG:=hDD h
 obtain⟨hr13,hsz40,hl120,_⟩:=grB_parts hg
 have HED:=hDD (fun e he=>edge_of_gr hg (e:=e) he)
 have HJ:Hid (∀bs:List Bool,bs.length=g.2.1.toNat→(∀v (hv:v<bs.length),bs[v]=hasB (reachL g.2.2 0) v)→bs=joinL g):=hDD fun bs=>joinL_of
 generalize joinL g=JL at*
 clear hg h
 obtain⟨r,n,es⟩:=g
 simp only at hr13 hsz40 hl120 HG HED HJ
 obtain⟨N,rfl⟩: ∃N:Nat,n=(N:Int):=⟨n.toNat,by omega⟩
 have hN1:1≤N:=by omega
 have hN2:N≤40:=by omega
 clear hsz40 hr13
 obtain⟨A,cap,rfl,HE⟩: ∃A cap,v= .agg #[.int .i64 r, .int .i64 N, .slice A es.length cap]∧Hid (ArgE w (.slice A es.length cap) es):=by
  obtain⟨s,hv,_,_,ha⟩:=HG.out
  obtain⟨A,cap,rfl⟩:=ha.form
  exact⟨A,cap,hv,hDD ha⟩
 have hbndE:es.length≤cap∧cap≤maxLen:=by
  obtain⟨_,_,hv,h1,h2,_⟩:=HE.out
  injection hv with _ _ e3
  subst e3
  exact⟨h1,h2⟩
 obtain⟨hcap,hm⟩:=hbndE
 unfold maxLen at hm
 have bx:Below w.heap.size w (w.alloc (Obj.cells #[Value.int IntKind.i64 r,Value.int IntKind.i64 N, .slice A es.length cap] 31)):=(by repeat(first | exact Below.refl _ _ | (refine Below.setCell ?_ (by first | omega | (simp<;>omega)) _) | (refine bel_drewN ?_ _) | (refine Below.drew ?_) | (refine Below.alloc ?_ (by first | omega | (simp<;>omega)) _)))
 go_enter Tryz.func100,Tryz.ntmps100
 obtain⟨i0,hi0,hz0,hz1,hz2⟩:=info_parts bool_info
 go_wp2_with (at_make;refine wpList_make_full _ rfl _ _ 96 rfl (w.heap.size+1) 4 i0 (.bool false) 1 Tryz.underlying96 hi0 hz0 hz1 _ _ _ _ N rfl rfl rfl rfl (by rw[hz2];omega) (by unfold maxLen;omega) (by simp) ?_)
 have b1:(w.alloc (Obj.cells #[Value.int IntKind.i64 r,Value.int IntKind.i64 N, .slice A es.length cap] 31)).cell? ⟨w.heap.size,1,none⟩=some (.int .i64 N):=by simp[go_sem]
 have b2:(w.alloc (Obj.cells #[Value.int IntKind.i64 r,Value.int IntKind.i64 N, .slice A es.length cap] 31)).cell? ⟨w.heap.size,2,none⟩=some (.slice A es.length cap):=by simp[go_sem]
 have hsW:(w.alloc (Obj.cells #[Value.int IntKind.i64 r,Value.int IntKind.i64 N, .slice A es.length cap] 31)).heap.size=w.heap.size+1:=by simp
 generalize w.alloc (Obj.cells #[Value.int IntKind.i64 r,Value.int IntKind.i64 N, .slice A es.length cap] 31)=w1 at bx b1 b2 hsW⊢
 rw[←hsW]
 have hlt1:w.heap.size<w1.heap.size:=by omega
 have HSW:=hDD hsW
 clear hsW
 have B2:=hDD b2
 have BX:=hDD bx
 clear b2 bx
 intro w2 hown0 hgrow0
 have own0:OwB w2 w1.heap.size (.slice (some ⟨w1.heap.size,0,none⟩) N N) (List.replicate N false):=by
  unfold OwB
  rw[List.length_replicate]
  have:bools (List.replicate N false)=List.replicate N (Value.bool false):=by simp[bools]
  rw[this]
  simpa[toList_madeCells_one] using hown0
 have hc0:=own0.cellAt 0 (by simp;omega)
 have hf0:=own0.free 0
 have O1:=hDD (own0.set 0 true)
 have G0:=hDD hgrow0
 have hP2:w1.heap.size<w2.heap.size:=(own0.lt w1.heap.size rfl).2
 have j1:(0:Int)<(N:Int):=by omega
 clear hown0 own0 hgrow0
 simp only[List.getElem_replicate] at hc0
 have JI0:Hid (JI es N ((List.replicate N false).set 0 true)):=hDD (by
  refine⟨by simp,?_,fun v hv=> ?_⟩
  ·rw[set_true_get];left;exact⟨rfl,by simp;omega⟩
  ·rw[set_true_get] at hv
   rcases hv with ⟨rfl,_⟩ | hv
   ·exact Conn.base
   ·rw[List.getElem?_replicate] at hv
    split at hv
    ·injection hv with hv;cases hv
    ·cases hv)
 have HR0:Hid (∀e∈es,0≤e.1∧0≤e.2.2):=hDD fun e he=>by have:=HED.out e he;omega
 go_wp2
 go_loopw [6] (fun a wr=> ∃(ag:Bool) (bs:List Bool),a= .bool ag∧JI es N bs∧OwB wr w1.heap.size (.slice (some ⟨w1.heap.size,0,none⟩) N N) bs∧Below w1.heap.size w1 wr∧(ag=false→ ∀e∈es,bs[e.1.toNat]? =bs[e.2.2.toNat]?)) (fun a wr=>2*mB wr w1.heap.size N+(match a with | .bool true=>1 | _=>0))
 case atStart=>exact⟨true,_,rfl,JI0.out,O1.out.1,((Below.refl _ _).grown G0.out (Nat.le_refl _) (fun k h=>by cases h)).grown O1.out.2 (by omega) (fun k h=>by cases h;omega),fun h=>by cases h⟩
 case round=>
  obtain⟨ag,bs,rfl,hji,hown,hbel,hcl⟩:=hrel
  have HJI:=hDD hji
  have HO:=hDD hown
  have HB:=hDD hbel
  have HCL:=hDD hcl
  have hbl:=hji.1
  have hm0:=mB_eq hown
  rw[hbl] at hm0
  have HM:=hDD hm0
  clear hm0
  clear hji hown hcl
  cases ag with
  | false=>
    have HF:Hid (bs=JL):=hDD (HJ.out bs (by simpa using hbl) (HJI.out.done HR0.out (HCL.out rfl)))
    have BB:Hid (Below w.heap.size w wr):=hDD (BX.out.trans (hbel.mono (by omega)))
    have hbase:w.heap.size≤w1.heap.size:=by omega
    clear hbel
    have HOJ:Hid (OwB wr w.heap.size (.slice (some ⟨w1.heap.size,0,none⟩) N N) JL):=hDD (by rw[←HF.out];exact HO.out.mono hbase)
    go_wp2
    exact bodyPost_ret (v:= .slice (some ⟨w1.heap.size,0,none⟩) N N) (by simp[results,Tryz.results100]) rfl ⟨_,rfl,HOJ.out,BB.out⟩
  | true=>
    have q2:=(hbel.cell (p:=⟨w.heap.size,2,none⟩) (show w.heap.size<w1.heap.size from hlt1)).trans B2.out
    clear hbel hbl
    obtain⟨wo,hwo⟩: ∃wo:World,wo=wr:=⟨_,rfl⟩
    have HWO:=hDD hwo
    clear hwo
    go_wp2
    go_loopw [6,19] (fun a i wr=> ∃(k:Nat) (ag:Bool) (b2:List Bool),k≤es.length∧i= .int .i64 k∧a= .bool ag∧JI es N b2∧OwB wr w1.heap.size (.slice (some ⟨w1.heap.size,0,none⟩) N N) b2∧Below w1.heap.size w1 wr∧b2.count false≤bs.count false∧(ag=true→b2.count false<bs.count false)∧(ag=false→ ∀j (hj:j<es.length),j<k→b2[es[j].1.toNat]? =b2[es[j].2.2.toNat]?)) (fun _ i _=>es.length-(intOf i).toNat)
    case atStart=>exact⟨0,false,bs,Nat.zero_le _,rfl,rfl,HJI.out,HO.out,HB.out,Nat.le_refl _,(fun h=>by cases h),fun _ j hj h=>absurd h (by omega)⟩
    case round=>
     obtain⟨k,ag,b2,hk,rfl,rfl,hji2,hown2,hbel2,hle2,hlt2,hcl2⟩:=hrel
     have HJ2:=hDD hji2
     have HO2:=hDD hown2
     have HB2:=hDD hbel2
     have HLE:=hDD hle2
     have HLT:=hDD hlt2
     have HC2:=hDD hcl2
     have hbl2:=hji2.1
     have hP:=(hown2.lt w1.heap.size rfl).2
     have s12:=hbel2.size
     clear hji2 hle2 hlt2 hcl2
     by_cases hlt:k<es.length
     ·obtain⟨be,offe,rfl,hbe,c0,c1,c2,he64⟩:=(HE.out.below (BX.out.trans (hbel2.mono (by omega)))).at hlt
      obtain⟨e1,e2,e3⟩:=HED.out es[k] (by simp)
      have hmem:es[k]∈es:=by simp
      have HX:Hid (∃x,es[k]=x):=hDD ⟨_,rfl⟩
      generalize hx:es[k]=e at c0 c1 c2 he64 e1 e2 e3 hmem
      have HX:=hDD hx
      clear hx
      obtain⟨f,l,t⟩:=e
      simp only at e1 e2 e3 c0 c1 c2
      obtain⟨a,rfl⟩: ∃a:Nat,f=(a:Int):=⟨f.toNat,by omega⟩
      obtain⟨c,rfl⟩: ∃c:Nat,t=(c:Int):=⟨t.toNat,by omega⟩
      have ha:a<b2.length:=by omega
      have hc:c<b2.length:=by omega
      have ca:=hown2.cellAt a ha
      have cc:=hown2.cellAt c hc
      have ga:b2[a]? =some b2[a]:=by simp[ha]
      have gc:b2[c]? =some b2[c]:=by simp[hc]
      have GA:=hDD ga
      have GC:=hDD gc
      have ja:(a:Int)<(N:Int):=by omega
      have jc:(c:Int)<(N:Int):=by omega
      have ja0:(0:Int)≤(a:Int):=by omega
      have jc0:(0:Int)≤(c:Int):=by omega
      have hfa:=hown2.free a
      have hfc:=hown2.free c
      have HSTEP:Hid (b2[a]? ≠b2[c]? →JI es N ((b2.set a true).set c true)∧((b2.set a true).set c true).count false<b2.count false):=hDD fun h=>HJ2.out.step hmem (by omega) (by omega) h
      have HMEM:=hDD hmem
      have bA:Below wr.heap.size wr (wr.alloc (Obj.cells #[Value.int IntKind.i64 a,Value.int IntKind.i64 l,Value.int IntKind.i64 c] 54)):=(Below.refl _ _).alloc (Nat.le_refl _) _
      have BA:=hDD bA
      generalize b2[a]=ba at*
      generalize b2[c]=bc at*
      clear ga gc he64 hown2 hbel2 hmem bA ha hc hbl2
      go_wp2_with fail
      have l0:(wr.alloc (Obj.cells #[Value.int IntKind.i64 a,Value.int IntKind.i64 l,Value.int IntKind.i64 c] 54)).cell? ⟨wr.heap.size,0,none⟩=some (.int .i64 a):=by simp[go_sem]
      have l2:(wr.alloc (Obj.cells #[Value.int IntKind.i64 a,Value.int IntKind.i64 l,Value.int IntKind.i64 c] 54)).cell? ⟨wr.heap.size,2,none⟩=some (.int .i64 c):=by simp[go_sem]
      have la:=(BA.out.cell (p:=⟨w1.heap.size,a,none⟩) hP).trans ca
      have lc:=(BA.out.cell (p:=⟨w1.heap.size,c,none⟩) hP).trans cc
      have lfa:=(BA.out.frozen (p:=⟨w1.heap.size,a,none⟩) hP).trans hfa
      have lfc:=(BA.out.frozen (p:=⟨w1.heap.size,c,none⟩) hP).trans hfc
      have hsA:wr.heap.size<(wr.alloc (Obj.cells #[Value.int IntKind.i64 a,Value.int IntKind.i64 l,Value.int IntKind.i64 c] 54)).heap.size:=by simp
      clear ca cc hfa hfc c0 c1 c2
      generalize wr.alloc (Obj.cells #[Value.int IntKind.i64 a,Value.int IntKind.i64 l,Value.int IntKind.i64 c] 54)=W at BA l0 l2 la lc lfa lfc hsA⊢
      have hPW:w1.heap.size<W.heap.size:=by omega
      have hne1:wr.heap.size≠w1.heap.size:=by omega
      cases ba<;>cases bc
      ·have CLX:Hid (b2[a]? =b2[c]?):=hDD (by rw[GA.out,GC.out])
       go_quiet (fail)
       go_wp2
       go_roundw
       case rel=>
        refine⟨k+1,ag,b2,by omega,by go_num,rfl,HJ2.out,HO2.out.below (bel_drewN BA.out _),HB2.out.trans ((bel_drewN BA.out _).mono (by omega)),HLE.out,HLT.out,fun h j hj hjk=> ?_⟩
        rcases Nat.lt_or_eq_of_le (Nat.le_of_lt_succ hjk) with h2 | rfl
        ·exact HC2.out h j hj h2
        ·rw[HX.out];simpa using CLX.out
       case measure=>simp[intOf];omega
      ·have STP:=hDD (HSTEP.out (by rw[GA.out,GC.out];simp))
       go_quiet (fail)
       have O3:=hDD ((HO2.out.below (bel_drewN BA.out nq)).set a true)
       have O4:=hDD (O3.out.1.set c true)
       have l9:=O3.out.1.cellAt c (by rw[List.length_set];have:=HJ2.out.1;omega)
       have f9:=O3.out.1.free c
       generalize (b2.set a true)[c]'(by rw[List.length_set];have:=HJ2.out.1;omega)=z9 at l9
       go_wp2
       go_roundw
       case rel=>
        refine⟨k+1,true,_,by omega,by go_num,rfl,STP.out.1,O4.out.1,?_,?_,fun _=> ?_,fun h=>by cases h⟩
        ·have b5:=HB2.out.trans ((bel_drewN BA.out nq).mono (by omega))
         exact(b5.grown O3.out.2 (show w1.heap.size≤W.heap.size by omega) (fun j hj=>by cases hj;exact Nat.le_refl _)).grown O4.out.2 (by rw[heapSize_setCell'];exact Nat.le_of_lt hPW) (fun j hj=>by cases hj;exact Nat.le_refl _)
        ·have:=STP.out.2;have:=HLE.out;omega
        ·have:=STP.out.2;have:=HLE.out;omega
       case measure=>simp[intOf];omega
      ·have STP:=hDD (HSTEP.out (by rw[GA.out,GC.out];simp))
       go_quiet (fail)
       have O3:=hDD ((HO2.out.below (bel_drewN BA.out nq)).set a true)
       have O4:=hDD (O3.out.1.set c true)
       have l9:=O3.out.1.cellAt c (by rw[List.length_set];have:=HJ2.out.1;omega)
       have f9:=O3.out.1.free c
       generalize (b2.set a true)[c]'(by rw[List.length_set];have:=HJ2.out.1;omega)=z9 at l9
       go_wp2
       go_roundw
       case rel=>
        refine⟨k+1,true,_,by omega,by go_num,rfl,STP.out.1,O4.out.1,?_,?_,fun _=> ?_,fun h=>by cases h⟩
        ·have b5:=HB2.out.trans ((bel_drewN BA.out nq).mono (by omega))
         exact(b5.grown O3.out.2 (show w1.heap.size≤W.heap.size by omega) (fun j hj=>by cases hj;exact Nat.le_refl _)).grown O4.out.2 (by rw[heapSize_setCell'];exact Nat.le_of_lt hPW) (fun j hj=>by cases hj;exact Nat.le_refl _)
        ·have:=STP.out.2;have:=HLE.out;omega
        ·have:=STP.out.2;have:=HLE.out;omega
       case measure=>simp[intOf];omega
      ·have CLX:Hid (b2[a]? =b2[c]?):=hDD (by rw[GA.out,GC.out])
       go_quiet (fail)
       go_wp2
       go_roundw
       case rel=>
        refine⟨k+1,ag,b2,by omega,by go_num,rfl,HJ2.out,HO2.out.below (bel_drewN BA.out _),HB2.out.trans ((bel_drewN BA.out _).mono (by omega)),HLE.out,HLT.out,fun h j hj hjk=> ?_⟩
        rcases Nat.lt_or_eq_of_le (Nat.le_of_lt_succ hjk) with h2 | rfl
        ·exact HC2.out h j hj h2
        ·rw[HX.out];simpa using CLX.out
       case measure=>simp[intOf];omega
     ·obtain rfl:k=es.length:=by omega
      have hm2:=mB_eq hown2
      rw[hbl2] at hm2
      have HM2:=hDD hm2
      clear hm2 hown2 hbel2
      go_wp2
      go_roundw
      case rel=>exact⟨ag,b2,rfl,HJ2.out,HO2.out,HB2.out,fun h e he=>by obtain⟨j,hj,rfl⟩:=List.getElem_of_mem he;exact HC2.out h j hj hj⟩
      case measure=>
       rw[HM.out,HM2.out]
       cases ag with
       | false=>
         have:=HLE.out
         show 2*_+0<2*_+1
         omega
       | true=>
         have:=HLT.out rfl
         show 2*_+1<2*_+1
         omega
theorem delO_len2 (x:Int): ∀n:Nat,(delO n x).length=if 0≤x∧x<n then n-1 else n
 | 0=>by
   rw[if_neg (by omega)]
   rfl
 | n+1=>by
   rw[delO_succ]
   have ih:=delO_len2 x n
   by_cases h:(n:Int)≠x
   ·rw[if_pos h,List.length_append,ih]
    by_cases h2:0≤x∧x<n
    ·rw[if_pos h2,if_pos (by omega)]
     simp
     omega
    ·rw[if_neg h2,if_neg (by omega)]
     rfl
   ·rw[if_neg h,ih,if_neg (by omega),if_pos (by omega)]
    omega
def trimF:Nat→GrD→List Int→GrD×List Int
 | 0,g,l=>(g,l)
 | f+1,g,l=>if leafV g.2.2 g.2.1.toNat<0 then(g,l) else trimF f (rnG g (delO g.2.1.toNat (leafV g.2.2 g.2.1.toNat))) (l.take (leafV g.2.2 g.2.1.toNat).toNat++l.drop ((leafV g.2.2 g.2.1.toNat).toNat+1))
theorem trimF_stop {g:GrD} (l:List Int) (h:leafV g.2.2 g.2.1.toNat<0): ∀f,trimF f g l=(g,l)
 | 0=>rfl
 | f+1=>by unfold trimF;rw[if_pos h]
theorem rnG_size (g:GrD) (o:List Int):(rnG g o).2.1=(o.length:Int):=rfl
theorem trimF_step {g:GrD} (l:List Int) {u:Nat} (hu:leafV g.2.2 g.2.1.toNat=(u:Int)) (hn:u<g.2.1.toNat):
  trimF g.2.1.toNat g l=trimF (rnG g (delO g.2.1.toNat u)).2.1.toNat (rnG g (delO g.2.1.toNat u)) (l.take u++l.drop (u+1)):=by
 rw[rnG_size,delO_len2,if_pos (by omega)]
 obtain⟨f,hf⟩: ∃f,g.2.1.toNat=f+1:=⟨g.2.1.toNat-1,by omega⟩
 have e:((g.2.1.toNat-1:Nat):Int).toNat=f:=by omega
 rw[e]
 have e2:trimF (f+1) g l=if leafV g.2.2 g.2.1.toNat<0 then(g,l) else trimF f (rnG g (delO g.2.1.toNat (leafV g.2.2 g.2.1.toNat))) (l.take (leafV g.2.2 g.2.1.toNat).toNat++l.drop ((leafV g.2.2 g.2.1.toNat).toNat+1)):=rfl
 rw[show trimF g.2.1.toNat g l=trimF (f+1) g l by rw[hf],e2,hu,if_neg (by omega)]
 simp
theorem trimF_le: ∀(f:Nat) (g:GrD) (l:List Int),grB g=true→(trimF f g l).1.2.1≤g.2.1:=by
 intro f
 induction f with
 | zero=>intro g l _;exact Int.le_refl _
 | succ f ih=>
   intro g l hg
   unfold trimF
   obtain⟨_,hsz,_,_⟩:=grB_parts hg
   rcases leafV_range g.2.2 g.2.1.toNat with h | ⟨h1,h2⟩
   ·rw[if_pos (by omega)]
    exact Int.le_refl _
   ·rw[if_neg (by omega)]
    have hd:=delO_len2 (leafV g.2.2 g.2.1.toNat) g.2.1.toNat
    rw[if_pos (by omega)] at hd
    have hok:=delO_ok (n:=g.2.1.toNat) (by omega) h1
    rw[show((g.2.1.toNat:Nat):Int)=g.2.1 by omega] at hok
    have:=ih (rnG g (delO g.2.1.toNat (leafV g.2.2 g.2.1.toNat))) (l.take (leafV g.2.2 g.2.1.toNat).toNat++l.drop ((leafV g.2.2 g.2.1.toNat).toNat+1)) (grB_rnG hg hok)
    rw[rnG_size,hd] at this
    omega
def trimG (g:GrD):GrD×List Int:=trimF g.2.1.toNat g ((List.range g.2.1.toNat).map fun v=>((v:Nat):Int))
theorem trimG_size {g:GrD} (hg:grB g=true):decide ((trimG g).1.2.1=g.2.1)=decide (leafV g.2.2 g.2.1.toNat<0):=by
 obtain⟨_,hsz,_,_⟩:=grB_parts hg
 unfold trimG
 rcases leafV_range g.2.2 g.2.1.toNat with h | ⟨h1,h2⟩
 ·rw[trimF_stop _ (by omega)]
  simp[h]
 ·obtain⟨u,hu⟩: ∃u:Nat,leafV g.2.2 g.2.1.toNat=(u:Int):=⟨(leafV g.2.2 g.2.1.toNat).toNat,by omega⟩
  rw[trimF_step _ hu (by omega)]
  have hok:=delO_ok (n:=g.2.1.toNat) (x:=(u:Int)) (by omega) (by omega)
  rw[show((g.2.1.toNat:Nat):Int)=g.2.1 by omega] at hok
  have hd:=delO_len2 (u:Int) g.2.1.toNat
  rw[if_pos (by omega)] at hd
  have:=trimF_le (rnG g (delO g.2.1.toNat u)).2.1.toNat (rnG g (delO g.2.1.toNat u)) (((List.range g.2.1.toNat).map fun v=>((v:Nat):Int)).take u++((List.range g.2.1.toNat).map fun v=>((v:Nat):Int)).drop (u+1)) (grB_rnG hg hok)
  rw[rnG_size g,hd] at this
  have e1:decide (leafV g.2.2 g.2.1.toNat<0)=false:=by rw[hu];simp
  rw[e1]
  rw[decide_eq_false_iff_not]
  rw[rnG_size,hd]
  omega
def slN:Value→Nat
 | .slice _ n _=>n
 | _=>0
def rng (n:Nat):List Int:=(List.range n).map fun v=>((v:Nat):Int)
theorem rng_succ (n:Nat):rng (n+1)=rng n++ [(n:Int)]:=by simp[rng,List.range_succ]
theorem rng_len (n:Nat):(rng n).length=n:=by simp[rng]
theorem joinL_get {g:GrD} (k:Nat) (h:k<g.2.1.toNat):(joinL g)[k]'(by simpa[joinL] using h)=hasB (reachL g.2.2 0) k:=by simp[joinL]
theorem joinL_len (g:GrD):(joinL g).length=g.2.1.toNat:=by simp[joinL]
set_option maxHeartbeats 2000000 in
theorem trimGraph_any (v:Value) (g:GrD) (w:World) (h:ArgG w v g) (hg:grB g=true):
  Calls Tryz.prog 63 #[v] w fun e w'=> ∃r l,e= .returned (.tuple #[r,l])∧OwG w' w.heap.size r (trimG g).1∧OwI w' w.heap.size l (trimG g).2∧Below w.heap.size w w':=by
 have HG:=hDD h
 have HGR:=hDD hg
 obtain⟨hr13,hsz40,hl120,_⟩:=grB_parts hg
 have HT:Hid (trimG g=trimF g.2.1.toNat g (rng g.2.1.toNat)):=hDD rfl
 generalize trimG g=R at*
 clear hg h
 obtain⟨r,n,es⟩:=g
 simp only at hr13 hsz40 hl120 HG HT
 obtain⟨N,rfl⟩: ∃N:Nat,n=(N:Int):=⟨n.toNat,by omega⟩
 simp only[Int.toNat_natCast] at HT
 have hN1:1≤N:=by omega
 have hN2:N≤40:=by omega
 clear hsz40
 obtain⟨A,cap,rfl⟩: ∃A cap,v= .agg #[.int .i64 r, .int .i64 N, .slice A es.length cap]:=by
  obtain⟨s,hv,_,_,ha⟩:=HG.out
  obtain⟨A,cap,rfl⟩:=ha.form
  exact⟨A,cap,hv⟩
 have bx:Below w.heap.size w ((w.alloc (Obj.cells #[Value.int IntKind.i64 r,Value.int IntKind.i64 N, .slice A es.length cap] 31)).alloc (Obj.cells #[Value.int IntKind.i64 0,Value.int IntKind.i64 0, .slice none 0 0] 31)):=(by repeat(first | exact Below.refl _ _ | (refine Below.setCell ?_ (by first | omega | (simp<;>omega)) _) | (refine bel_drewN ?_ _) | (refine Below.drew ?_) | (refine Below.alloc ?_ (by first | omega | (simp<;>omega)) _)))
 go_enter Tryz.func63,Tryz.ntmps63
 go_wp2_with fail
 obtain⟨W0,hW0⟩: ∃W,W=(w.alloc (Obj.cells #[Value.int IntKind.i64 r,Value.int IntKind.i64 N, .slice A es.length cap] 31)).alloc (Obj.cells #[Value.int IntKind.i64 0,Value.int IntKind.i64 0, .slice none 0 0] 31):=⟨_,rfl⟩
 rw[←hW0] at bx⊢
 have hsW:W0.heap.size=w.heap.size+1+1:=by rw[hW0];simp
 have B0:Hid (W0.cell? ⟨w.heap.size,0,none⟩=some (.int .i64 r)):=hDD (by rw[hW0];simp[go_sem])
 have B1:Hid (W0.cell? ⟨w.heap.size,1,none⟩=some (.int .i64 N)):=hDD (by rw[hW0];simp[go_sem])
 have B2:Hid (W0.cell? ⟨w.heap.size,2,none⟩=some (.slice A es.length cap)):=hDD (by rw[hW0];simp[go_sem])
 have R0:Hid (W0.cell? ⟨w.heap.size+1,0,none⟩=some (.int .i64 0)):=hDD (by rw[hW0];simp[go_sem])
 have R1:Hid (W0.cell? ⟨w.heap.size+1,1,none⟩=some (.int .i64 0)):=hDD (by rw[hW0];simp[go_sem])
 have R2:Hid (W0.cell? ⟨w.heap.size+1,2,none⟩=some (.slice none 0 0)):=hDD (by rw[hW0];simp[go_sem])
 have RF:Hid (∀j,W0.frozen? ⟨w.heap.size+1,j,none⟩=false):=hDD fun j=>by rw[hW0];simp[go_sem]
 clear hW0
 have BX:=hDD bx
 have HSW:=hDD hsW
 have hltw:w.heap.size<W0.heap.size:=by omega
 have hltw1:w.heap.size+1<W0.heap.size:=by omega
 refine(copyGraph_any _ (r,(N:Int),es) W0 (HG.out.below bx) (by simp only;omega)).mono ?_
 clear bx hsW
 rintro e w1 ⟨r1,rfl,o1,b1⟩
 obtain⟨s1,rfl,hi1,hi2,oe⟩:=o1
 simp only at hi1 hi2 oe⊢
 obtain⟨A1,cap1,rfl,hcap1,hm1,_⟩:=OwE.form oe
 have OE:=hDD oe
 have hlt1: ∀b,(Value.slice A1 es.length cap1).ownBlock=some b→b<w1.heap.size:=fun b hb=>(oe.1.lt b hb).2
 have q0:=(b1.cell (p:=⟨w.heap.size,0,none⟩) hltw).trans B0.out
 have q1:=(b1.cell (p:=⟨w.heap.size,1,none⟩) hltw).trans B1.out
 have q2:=(b1.cell (p:=⟨w.heap.size,2,none⟩) hltw).trans B2.out
 have RQ0:=hDD ((b1.cell (p:=⟨w.heap.size+1,0,none⟩) hltw1).trans R0.out)
 have RQ1:=hDD ((b1.cell (p:=⟨w.heap.size+1,1,none⟩) hltw1).trans R1.out)
 have RQ2:=hDD ((b1.cell (p:=⟨w.heap.size+1,2,none⟩) hltw1).trans R2.out)
 have RQF:Hid (∀j,w1.frozen? ⟨w.heap.size+1,j,none⟩=false):=hDD fun j=>(b1.frozen (p:=⟨w.heap.size+1,j,none⟩) hltw1).trans (RF.out j)
 have HB1:Hid (Below w.heap.size w w1):=hDD (BX.out.trans (b1.mono (by omega)))
 have s1:=b1.size
 have HLT1:=hDD hlt1
 clear oe hlt1 b1 B0 B1 B2 R0 R1 R2 RF
 have hw1:w.heap.size<w1.heap.size:=by omega
 have hw11:w.heap.size+1<w1.heap.size:=by omega
 go_wp2_with fail
 have bA:Below w1.heap.size w1 ((w1.alloc (Obj.cells #[Value.int IntKind.i64 r,Value.int IntKind.i64 N, .slice A1 es.length cap1] 31)).alloc (Obj.cells #[] 3)):=(by repeat(first | exact Below.refl _ _ | (refine Below.setCell ?_ (by first | omega | (simp<;>omega)) _) | (refine bel_drewN ?_ _) | (refine Below.drew ?_) | (refine Below.alloc ?_ (by first | omega | (simp<;>omega)) _)))
 obtain⟨W2,hW2⟩: ∃W,W=(w1.alloc (Obj.cells #[Value.int IntKind.i64 r,Value.int IntKind.i64 N, .slice A1 es.length cap1] 31)).alloc (Obj.cells #[] 3):=⟨_,rfl⟩
 have o0:OwI W2 (w1.heap.size+1) (.slice (some ⟨w1.heap.size+1,0,none⟩) 0 0) (rng 0):=by
  rw[hW2]
  exact OwI_litN _ [] (w1.heap.size+1) (by simp) (fun _ h=>by cases h) (by simp) (Nat.le_refl _)
 have G0:Hid (W2.cell? ⟨w1.heap.size,0,none⟩=some (.int .i64 r)):=hDD (by rw[hW2];simp[go_sem])
 have G1:Hid (W2.cell? ⟨w1.heap.size,1,none⟩=some (.int .i64 N)):=hDD (by rw[hW2];simp[go_sem])
 have G2:Hid (W2.cell? ⟨w1.heap.size,2,none⟩=some (.slice A1 es.length cap1)):=hDD (by rw[hW2];simp[go_sem])
 have GF:Hid (∀j,W2.frozen? ⟨w1.heap.size,j,none⟩=false):=hDD fun j=>by rw[hW2];simp[go_sem]
 have hs2:W2.heap.size=w1.heap.size+1+1:=by rw[hW2];simp
 rw[←hW2] at bA⊢
 clear hW2
 have hig:=implIsGraph_any _ (r,(N:Int),es) W2 ((HG.out.below HB1.out).below bA)
 rw[HGR.out] at hig
 have HIG:=hDD hig
 clear hig
 refine HIG.out.mono ?_
 rintro e w3 ⟨rfl,b3⟩
 have s3:=b3.size
 have hg03:w1.heap.size<W2.heap.size:=by omega
 have bA3:=bA.trans (b3.mono (by omega))
 have BA3:=hDD bA3
 have B3:=hDD b3
 have OE3:=hDD (OE.out.below bA3)
 have O03:=hDD (o0.below b3)
 have QN:=hDD ((bA3.cell (p:=⟨w.heap.size,1,none⟩) hw1).trans q1)
 have G03:=hDD ((b3.cell (p:=⟨w1.heap.size,0,none⟩) hg03).trans G0.out)
 have G13:=hDD ((b3.cell (p:=⟨w1.heap.size,1,none⟩) hg03).trans G1.out)
 have G23:=hDD ((b3.cell (p:=⟨w1.heap.size,2,none⟩) hg03).trans G2.out)
 have GF3:Hid (∀j,w3.frozen? ⟨w1.heap.size,j,none⟩=false):=hDD fun j=>(b3.frozen (p:=⟨w1.heap.size,j,none⟩) hg03).trans (GF.out j)
 clear bA b3 bA3 o0 q0 q1 q2 G0 G1 G2 GF HIG
 go_wp2
 go_loopw [5,6] (fun l i wr=> ∃k:Nat,k≤N∧i= .int .i64 k∧OwI wr (w1.heap.size+1) l (rng k)∧Below (w1.heap.size+1) w3 wr) (fun _ i _=>N-(intOf i).toNat)
 case atStart=>exact⟨0,Nat.zero_le _,rfl,O03.out,Below.refl _ _⟩
 case round=>
  obtain⟨k,hk,rfl,hown,hbel⟩:=hrel
  have HO:=hDD hown
  have HB:=hDD hbel
  have hs:=hbel.size
  have qn:=(hbel.cell (p:=⟨w.heap.size,1,none⟩) (by show w.heap.size<w1.heap.size+1;omega)).trans QN.out
  have hlk:=rng_len k
  obtain⟨Al,capl,rfl,_⟩:=OwI.form hown
  clear hown hbel
  by_cases hlt:k<N
  ·have HK:Hid (I64 (k:Int)):=hDD ⟨by omega,by omega⟩
   have HRS:=hDD (rng_succ k)
   go_wp2_with (at_builtin;refine push_int rfl (.tmp 26) (.tmp 28) rfl _ _ _ (OwI.alloc HO.out _) rfl _ _ rfl (cell_new1 _ _ _) HK.out (by first | omega | (simp<;>omega)) (by first | omega | (simp<;>omega)) ?_;intro v9 wv9 o9 g9 p9)
   go_roundw
   case rel=>exact⟨k+1,by omega,by go_num,by rw[HRS.out];exact o9,bel_push HB.out (by omega) HO.out.1 (Nat.le_refl _) g9⟩
   case measure=>simp[intOf];omega
  ·obtain rfl:k=N:=by omega
   have GE:Hid (OwE wr W0.heap.size (.slice A1 es.length cap1) es):=hDD (OE3.out.keep fun b hb=>HB.out.block b (by have:=HLT1.out b hb;omega))
   have GC0:=hDD ((HB.out.cell (p:=⟨w1.heap.size,0,none⟩) (by show w1.heap.size<w1.heap.size+1;omega)).trans G03.out)
   have GC1:=hDD ((HB.out.cell (p:=⟨w1.heap.size,1,none⟩) (by show w1.heap.size<w1.heap.size+1;omega)).trans G13.out)
   have GC2:=hDD ((HB.out.cell (p:=⟨w1.heap.size,2,none⟩) (by show w1.heap.size<w1.heap.size+1;omega)).trans G23.out)
   have GCF:Hid (∀j,wr.frozen? ⟨w1.heap.size,j,none⟩=false):=hDD fun j=>(HB.out.frozen (p:=⟨w1.heap.size,j,none⟩) (by show w1.heap.size<w1.heap.size+1;omega)).trans (GF3.out j)
   have BB:Hid (Below w1.heap.size w1 wr):=hDD (BA3.out.trans (HB.out.mono (by omega)))
   have hwlt:w1.heap.size<wr.heap.size:=by omega
   clear G03 G13 G23 GF3 O03 OE3 BA3 B3 QN
   go_wp2
   go_loopw [5] (fun l wr=> ∃(gg:GrD) (xs:List Int) (A':Option Addr) (cap':Nat),grB gg=true∧R=trimF gg.2.1.toNat gg xs∧xs.length=gg.2.1.toNat∧OwI wr (w1.heap.size+1) l xs∧wr.cell? ⟨w1.heap.size,0,none⟩=some (.int .i64 gg.1)∧wr.cell? ⟨w1.heap.size,1,none⟩=some (.int .i64 gg.2.1)∧wr.cell? ⟨w1.heap.size,2,none⟩=some (.slice A' gg.2.2.length cap')∧(∀j,wr.frozen? ⟨w1.heap.size,j,none⟩=false)∧OwE wr W0.heap.size (.slice A' gg.2.2.length cap') gg.2.2∧(∀b,(Value.slice A' gg.2.2.length cap').ownBlock=some b→l.ownBlock≠some b)∧Below w1.heap.size w1 wr∧w1.heap.size<wr.heap.size) (fun l _=>slN l)
   case atStart=>exact⟨(r,(k:Int),es),rng k,A1,cap1,HGR.out,HT.out,hlk,HO.out,GC0.out,GC1.out,GC2.out,GCF.out,GE.out,fun b hb he=>by have h1:=HLT1.out b hb;have h2:=HO.out.1.lt b he;omega,BB.out,hwlt⟩
   case round=>
    clear HT HO GC0 GC1 GC2 GCF GE BB HLT1
    obtain⟨gg,xs,A',cap',hgg,hR,hxl,hown,hc0,hc1,hc2,hcf,hoe,hne,hbel,hlw⟩:=hrel
    obtain⟨wq,rfl⟩: ∃wq:World,wq=wr:=⟨_,rfl⟩
    obtain⟨hr2,hsz2,hle2,_⟩:=grB_parts hgg
    obtain⟨r2,n2,es2⟩:=gg
    simp only at hR hxl hc0 hc1 hc2 hoe hne hsz2 hle2 hr2
    obtain⟨M,rfl⟩: ∃M:Nat,n2=(M:Int):=⟨n2.toNat,by omega⟩
    simp only[Int.toNat_natCast] at hxl hR
    have hM1:1≤M:=by omega
    have hM2:M≤40:=by omega
    clear hsz2
    have HGG:=hDD hgg
    have HR:=hDD hR
    have HO:=hDD hown
    have HOE:=hDD hoe
    have HNE:=hDD hne
    have HCF:=hDD hcf
    have HBEL:=hDD hbel
    have hs:=hbel.size
    obtain⟨Al,capl,rfl,hlc,hml,_,hf⟩:=OwI.form hown
    obtain⟨gl,rfl,hgl1,hgl2⟩:=hf (by omega)
    have hcapE:es2.length≤cap':=by obtain⟨_,_,e,h1,_⟩:=OwE.form hoe;injection e with _ _ e3;subst e3;exact h1
    have HA:Hid (∀w',Below wq.heap.size wq w'→ArgG w' (.agg #[.int .i64 r2, .int .i64 M, .slice A' es2.length cap']) (r2,(M:Int),es2)):=hDD fun w' hb=>⟨_,rfl,by show I64 r2;unfold I64;omega,by show I64 (M:Int);unfold I64;omega,(HOE.out.below hb).arg⟩
    clear hgg hR hown hoe hne hcf hbel hf
    go_wp2_with fail
    refine(joined_any _ (r2,(M:Int),es2) wq (HA.out _ (Below.refl _ _)) HGG.out).mono ?_
    rintro e wj ⟨rj,rfl,oj,bj⟩
    obtain⟨Aj,capj,rfl,hjc,_,_,hfj⟩:=owns_form oj
    rw[joinL_len] at hfj hjc⊢
    simp only[Int.toNat_natCast] at hfj hjc⊢
    obtain⟨gj,rfl,hgj1,hgj2⟩:=hfj (by omega)
    have sj:=bj.size
    have HJC:Hid (∀k:Nat,k<M→wj.cell? ⟨gj,k,none⟩=some (.bool (hasB (reachL es2 0) k))):=hDD fun k hk=>by
     have h1:=OwB.cellAt oj k (by rw[joinL_len];simpa using hk)
     rw[joinL_get k (by simpa using hk)] at h1
     exact h1
    have HBJ:=hDD bj
    have d0:=hDD ((bj.cell (p:=⟨w1.heap.size,0,none⟩) hlw).trans hc0)
    have d1:=hDD ((bj.cell (p:=⟨w1.heap.size,1,none⟩) hlw).trans hc1)
    have d2:=hDD ((bj.cell (p:=⟨w1.heap.size,2,none⟩) hlw).trans hc2)
    have dF:Hid (∀j,wj.frozen? ⟨w1.heap.size,j,none⟩=false):=hDD fun j=>(bj.frozen (p:=⟨w1.heap.size,j,none⟩) hlw).trans (HCF.out j)
    have hlj:w1.heap.size<wj.heap.size:=by omega
    clear oj bj hfj hc0 hc1 hc2 HCF
    obtain⟨U,hU⟩: ∃U,U=leafV es2 M:=⟨_,rfl⟩
    have HU:=hDD hU
    have HLB:Hid (∀k:Nat,leafB es2 k=(decide (degL es2 k<2)|| !hasB (reachL es2 0) k)):=hDD fun k=>rfl
    clear hU
    go_wp2
    go_loopw [8,9] (fun a i wg=> ∃k:Nat,i= .int .i64 k∧1≤k∧k≤M∧((a= .int .i64 0∧leafFrom es2 M (M-k) k=U)∨(∃u:Nat,a= .int .i64 u∧U=(u:Int)∧1≤u∧u<M∧k=u+1))∧Below wj.heap.size wj wg) (fun _ i _=>M+1-(intOf i).toNat)
    case atStart=>exact⟨1,rfl,Nat.le_refl _,hM1, .inl ⟨rfl,by rw[HU.out];rfl⟩,Below.refl _ _⟩
    case round=>
     obtain⟨k,rfl,hk1,hk,hcase,hbg⟩:=hrel
     have HBG:=hDD hbg
     have hsg:=hbg.size
     have e0:=(hbg.cell (p:=⟨w1.heap.size,0,none⟩) hlj).trans d0.out
     have e1:=(hbg.cell (p:=⟨w1.heap.size,1,none⟩) hlj).trans d1.out
     have e2:=(hbg.cell (p:=⟨w1.heap.size,2,none⟩) hlj).trans d2.out
     clear hbg
     rcases hcase with ⟨rfl,hlf⟩ | ⟨u,rfl,hUu,hu1,huM,rfl⟩
     ·have HLF:=hDD hlf
      clear hlf
      by_cases hlt:k<M
      ·have hj0:=(HBG.out.cell (p:=⟨gj,k,none⟩) hgj2).trans (HJC.out k hlt)
       have LB:=hDD (HLB.out k)
       have hki:(k:Int)<(M:Int):=by omega
       have hdle:degL es2 k≤240:=by have:=degL_le es2 k es2.length;rw[List.take_length] at this;omega
       go_wp2_with fail
       refine(implDegreeOf_any _ (r2,(M:Int),es2) k _ (HA.out _ (HBJ.out.trans (HBG.out.mono sj))) (by simp only;omega)).mono ?_
       rintro e w7 ⟨rfl,b7⟩
       have B7:=hDD b7
       have s7:=b7.size
       have hj7:=(b7.cell (p:=⟨gj,k,none⟩) (by show gj<wr.heap.size;omega)).trans hj0
       clear b7 hj0
       simp only
       generalize degL es2 k=d at*
       by_cases hd:d<2
       ·have hdi:(d:Int)<2:=by omega
        have F:=hDD (leafFrom_hit hlt (by rw[LB.out];simp[hd]))
        go_wp2
        go_roundw
        case rel=>exact⟨k+1,by go_num,by omega,by omega, .inr ⟨k,rfl,by rw[←HLF.out,F.out],hk1,hlt,rfl⟩,HBG.out.trans (B7.out.mono hsg)⟩
        case measure=>simp[intOf];omega
       ·have hdi: ¬(d:Int)<2:=by omega
        rcases h1:hasB (reachL es2 0) k with _ | _
        ·have F:=hDD (leafFrom_hit hlt (by rw[LB.out,h1];simp))
         rw[h1] at hj7
         go_wp2
         go_roundw
         case rel=>exact⟨k+1,by go_num,by omega,by omega, .inr ⟨k,rfl,by rw[←HLF.out,F.out],hk1,hlt,rfl⟩,HBG.out.trans (B7.out.mono hsg)⟩
         case measure=>simp[intOf];omega
        ·have F:=hDD (leafFrom_miss hlt (by rw[LB.out,h1];simp[hd]))
         rw[h1] at hj7
         go_wp2
         go_roundw
         case rel=>exact⟨k+1,by go_num,by omega,by omega, .inl ⟨rfl,by rw[←F.out,HLF.out]⟩,HBG.out.trans (B7.out.mono hsg)⟩
         case measure=>simp[intOf];omega
      ·obtain rfl:k=M:=by omega
       have hUn:U= -1:=by rw[←HLF.out,leafFrom_end]
       have HE:Hid (R=((r2,(k:Int),es2),xs)):=hDD (by rw[HR.out];exact trimF_stop _ (show leafV es2 ((k:Int)).toNat<0 by rw[Int.toNat_natCast,←HU.out,hUn];decide) _)
       have bb:Hid (Below w1.heap.size w1 wr):=hDD (HBEL.out.trans ((HBJ.out.trans (HBG.out.mono sj)).mono (by omega)))
       have rq0:=(bb.out.cell (p:=⟨w.heap.size+1,0,none⟩) hw11).trans RQ0.out
       have rq1:=(bb.out.cell (p:=⟨w.heap.size+1,1,none⟩) hw11).trans RQ1.out
       have rq2:=(bb.out.cell (p:=⟨w.heap.size+1,2,none⟩) hw11).trans RQ2.out
       have rf0:=(bb.out.frozen (p:=⟨w.heap.size+1,0,none⟩) hw11).trans (RQF.out 0)
       have rf1:=(bb.out.frozen (p:=⟨w.heap.size+1,1,none⟩) hw11).trans (RQF.out 1)
       have rf2:=(bb.out.frozen (p:=⟨w.heap.size+1,2,none⟩) hw11).trans (RQF.out 2)
       have ow:=HOE.out.below (HBJ.out.trans (HBG.out.mono sj))
       have ol:=HO.out.below (HBJ.out.trans (HBG.out.mono sj))
       have OW:Hid (OwE (((wr.setCell ⟨w.heap.size+1,0,none⟩ (.int .i64 r2)).setCell ⟨w.heap.size+1,1,none⟩ (.int .i64 k)).setCell ⟨w.heap.size+1,2,none⟩ (.slice A' es2.length cap')) W0.heap.size (.slice A' es2.length cap') es2):=hDD
        (((ow.far (p:=⟨w.heap.size+1,0,none⟩) (by show w.heap.size+1<_;omega) _).far (p:=⟨w.heap.size+1,1,none⟩) (by show w.heap.size+1<_;omega) _).far (p:=⟨w.heap.size+1,2,none⟩) (by show w.heap.size+1<_;omega) _)
       have OL:Hid (OwI (((wr.setCell ⟨w.heap.size+1,0,none⟩ (.int .i64 r2)).setCell ⟨w.heap.size+1,1,none⟩ (.int .i64 k)).setCell ⟨w.heap.size+1,2,none⟩ (.slice A' es2.length cap')) (w1.heap.size+1) (.slice (some ⟨gl,0,none⟩) xs.length capl) xs):=hDD
        (((ol.far (p:=⟨w.heap.size+1,0,none⟩) (by show w.heap.size+1<_;omega) _).far (p:=⟨w.heap.size+1,1,none⟩) (by show w.heap.size+1<_;omega) _).far (p:=⟨w.heap.size+1,2,none⟩) (by show w.heap.size+1<_;omega) _)
       have BBW:=hDD (HB1.out.trans (bb.out.mono (show w.heap.size≤w1.heap.size by omega)))
       clear ow ol
       go_wp2
       obtain⟨c0,c1,c2⟩:=set3_cells wr (w.heap.size+1) (.int .i64 r2) (.int .i64 k) (.slice A' es2.length cap') rq0 rq1 rq2
       have bw:Below w.heap.size w (((wr.setCell ⟨w.heap.size+1,0,none⟩ (.int .i64 r2)).setCell ⟨w.heap.size+1,1,none⟩ (.int .i64 k)).setCell ⟨w.heap.size+1,2,none⟩ (.slice A' es2.length cap')):=(by repeat(first | exact Below.refl _ _ | (refine Below.setCell ?_ (by first | omega | (simp<;>omega)) _) | (refine bel_drewN ?_ _) | (refine Below.drew ?_) | (refine Below.alloc ?_ (by first | omega | (simp<;>omega)) _) | (refine Below.trans ?_ (Below.mono (Hid.out BBW) (by first | omega | (simp<;>omega))))))
       generalize ((wr.setCell ⟨w.heap.size+1,0,none⟩ (.int .i64 r2)).setCell ⟨w.heap.size+1,1,none⟩ (.int .i64 k)).setCell ⟨w.heap.size+1,2,none⟩ (.slice A' es2.length cap')=wf at*
       refine bodyPost_ret (v:= .tuple #[.agg #[.int .i64 r2, .int .i64 k, .slice A' es2.length cap'], .slice (some ⟨gl,0,none⟩) xs.length capl]) (by simp[results,Tryz.results63,go_sem,c0,c1,c2,hxl]) rfl ⟨_,_,rfl,?_,?_,bw⟩
       ·rw[HE.out]
        refine⟨.slice A' es2.length cap',rfl,?_,?_,OW.out.mono (by omega)⟩
        ·show I64 r2
         unfold I64
         omega
        ·show I64 (k:Int)
         unfold I64
         omega
       ·rw[HE.out]
        exact OL.out.mono (by omega)
     ·obtain⟨wg,rfl⟩: ∃wg:World,wg=wr:=⟨_,rfl⟩
      have HUu:Hid (leafV es2 M=(u:Int)):=hDD (by rw[←HU.out,hUu])
      have hok:OrdOk (M:Int) (delO M u):=delO_ok hM1 (by omega)
      have HOK:=hDD hok
      have hdl:(delO M u).length=M-1:=by rw[delO_len2,if_pos (by omega)]
      have HRN:Hid (rnG (r2,(M:Int),es2) (delO M u)=(r2,((M-1:Nat):Int),srt cmpE (rnL es2 (delO M u)))):=hDD (by rw[←hdl];rfl)
      have HR2:Hid (R=trimF (M-1) (r2,((M-1:Nat):Int),srt cmpE (rnL es2 (delO M u))) (xs.take u++xs.drop (u+1))):=hDD (by
       have h1:=trimF_step (g:=(r2,(M:Int),es2)) (u:=u) xs (by simpa using HUu.out) (by simpa using huM)
       simp only[Int.toNat_natCast] at h1
       rw[HRN.out] at h1
       simp only[Int.toNat_natCast] at h1
       rw[HR.out,h1])
      have HGB:Hid (grB (r2,((M-1:Nat):Int),srt cmpE (rnL es2 (delO M u)))=true):=hDD (by rw[←HRN.out];exact grB_rnG HGG.out hok)
      have hw5:(wg.alloc (Obj.cells #[] 3)).heap.size=wg.heap.size+1:=by simp
      have o5:OwI (wg.alloc (Obj.cells #[] 3)) wg.heap.size (.slice (some ⟨wg.heap.size,0,none⟩) 0 0) (delO 0 u):=OwI_lit wg [] (fun _ h=>by cases h) (by simp) (Nat.le_refl _)
      have O5:=hDD o5
      have B5:Hid (Below wg.heap.size wg (wg.alloc (Obj.cells #[] 3))):=hDD (by repeat(first | exact Below.refl _ _ | (refine Below.setCell ?_ (by first | omega | (simp<;>omega)) _) | (refine bel_drewN ?_ _) | (refine Below.drew ?_) | (refine Below.alloc ?_ (by first | omega | (simp<;>omega)) _)))
      have HW5:=hDD hw5
      have E0:=hDD e0
      have E1:=hDD e1
      have E2:=hDD e2
      have EF:Hid (∀j,wg.frozen? ⟨w1.heap.size,j,none⟩=false):=hDD fun j=>(HBG.out.frozen (p:=⟨w1.heap.size,j,none⟩) hlj).trans (dF.out j)
      have hlg:w1.heap.size<wg.heap.size:=by omega
      have g0:((u:Int)==0)=false:=by rw[beq_eq_false_iff_ne];omega
      clear hok o5 hw5 hUu hdl
      obtain⟨kk,hkk⟩: ∃kk:Int,((u+1:Nat):Int)=kk:=⟨_,rfl⟩
      rw[hkk]
      have hqc:kk<(M:Int)∨ ¬kk<(M:Int):=by omega
      clear hk hk1 hkk
      rcases hqc with hq | hq
      all_goals
       go_wp2
       generalize wg.alloc (Obj.cells #[] 3)=W5 at O5 B5 HW5⊢
       go_loopw [10,11] (fun o i wo=> ∃k:Nat,k≤M∧i= .int .i64 k∧OwI wo wg.heap.size o (delO k u)∧Below wg.heap.size wg wo) (fun _ i _=>M-(intOf i).toNat)
       case atStart=>exact⟨0,Nat.zero_le _,rfl,O5.out,B5.out⟩
       case round=>
        obtain⟨k,hk,rfl,hown,hbo⟩:=hrel
        have HOO:=hDD hown
        have HBO:=hDD hbo
        have hso:=hbo.size
        have e1':=(hbo.cell (p:=⟨w1.heap.size,1,none⟩) hlg).trans E1.out
        have e0':=(hbo.cell (p:=⟨w1.heap.size,0,none⟩) hlg).trans E0.out
        have e2':=(hbo.cell (p:=⟨w1.heap.size,2,none⟩) hlg).trans E2.out
        obtain⟨Ao,capo,rfl,_⟩:=OwI.form hown
        clear hown hbo
        by_cases hlt:k<M
        ·by_cases hku:k=u
         ·subst hku
          have F:Hid (delO (k+1) (k:Int)=delO k (k:Int)):=hDD (by rw[delO_succ];simp)
          go_wp2
          go_roundw
          case rel=>exact⟨k+1,by omega,by go_num,by rw[F.out];exact HOO.out,HBO.out⟩
          case measure=>simp[intOf];omega
         ·have hne1: ¬(k:Int)=(u:Int):=by omega
          have F:Hid (delO (k+1) (u:Int)=delO k (u:Int)++ [(k:Int)]):=hDD (by rw[delO_succ,if_pos hne1])
          have HK:Hid (I64 (k:Int)):=hDD ⟨by omega,by omega⟩
          have hdk:(delO k (u:Int)).length≤40:=by rw[delO_len2];split<;>omega
          go_wp2_with (at_builtin;refine push_int rfl (.tmp 68) (.tmp 70) rfl _ _ _ (OwI.alloc HOO.out _) rfl _ _ rfl (cell_new1 _ _ _) HK.out (by first | omega | (simp<;>omega)) (by first | omega | (simp<;>omega)) ?_;intro v9 wv9 o9 g9 p9)
          go_roundw
          case rel=>exact⟨k+1,by omega,by go_num,by rw[F.out];exact o9,bel_push HBO.out (by omega) HOO.out.1 (Nat.le_refl _) g9⟩
          case measure=>simp[intOf];omega
        ·obtain rfl:k=M:=by omega
         go_wp2_with fail
         refine(part_any _ _ (r2,(k:Int),es2) (delO k u) _ (HA.out _ ((HBJ.out.trans (HBG.out.mono sj)).trans (HBO.out.mono (by omega)))) HOO.out.rd HGG.out HOK.out).mono ?_
         rintro e w6 ⟨r6,rfl,o6,b6⟩
         rw[HRN.out] at o6
         obtain⟨s6,rfl,_,_,oe6⟩:=o6
         simp only at oe6⊢
         generalize srt cmpE (rnL es2 (delO k (u:Int)))=es6 at*
         generalize hm:k-1=m at*
         have HM:=hDD hm
         clear hm
         have B6:=hDD b6
         have s6':=b6.size
         have OE6:=hDD oe6
         obtain⟨A6,cap6,rfl,hcap6,hm6,_⟩:=OwE.form oe6
         have hE6: ∀b,(Value.slice A6 es6.length cap6).ownBlock=some b→wr.heap.size≤b∧b<w6.heap.size:=fun b hb=>oe6.1.lt b hb
         have HE6:=hDD hE6
         have f0:=(b6.cell (p:=⟨w1.heap.size,0,none⟩) (by show w1.heap.size<wr.heap.size;omega)).trans e0'
         have f1:=(b6.cell (p:=⟨w1.heap.size,1,none⟩) (by show w1.heap.size<wr.heap.size;omega)).trans e1'
         have f2:=(b6.cell (p:=⟨w1.heap.size,2,none⟩) (by show w1.heap.size<wr.heap.size;omega)).trans e2'
         have FF:Hid (∀j,w6.frozen? ⟨w1.heap.size,j,none⟩=false):=hDD fun j=>(b6.frozen (p:=⟨w1.heap.size,j,none⟩) (by show w1.heap.size<wr.heap.size;omega)).trans ((HBO.out.frozen (p:=⟨w1.heap.size,j,none⟩) hlg).trans (EF.out j))
         have ff0:=FF.out 0
         have ff1:=FF.out 1
         have ff2:=FF.out 2
         clear oe6 b6 hE6 e0' e1' e2'
         go_wp2
         obtain⟨c0,c1,c2⟩:=set3_cells w6 w1.heap.size (.int .i64 r2) (.int .i64 m) (.slice A6 es6.length cap6) f0 f1 f2
         have hB6:Hid (Below wq.heap.size wq w6):=hDD ((HBJ.out.trans (HBG.out.mono sj)).trans (((HBO.out.trans (B6.out.mono (by omega)))).mono (by omega)))
         have ol7:OwI (((w6.setCell ⟨w1.heap.size,0,none⟩ (.int .i64 r2)).setCell ⟨w1.heap.size,1,none⟩ (.int .i64 m)).setCell ⟨w1.heap.size,2,none⟩ (.slice A6 es6.length cap6)) (w1.heap.size+1) (.slice (some ⟨gl,0,none⟩) xs.length capl) xs:=
          ((((HO.out.below hB6.out).far (p:=⟨w1.heap.size,0,none⟩) (by show w1.heap.size<_;omega) _).far (p:=⟨w1.heap.size,1,none⟩) (by show w1.heap.size<_;omega) _).far (p:=⟨w1.heap.size,2,none⟩) (by show w1.heap.size<_;omega) _)
         have oe7:OwE (((w6.setCell ⟨w1.heap.size,0,none⟩ (.int .i64 r2)).setCell ⟨w1.heap.size,1,none⟩ (.int .i64 m)).setCell ⟨w1.heap.size,2,none⟩ (.slice A6 es6.length cap6)) wr.heap.size (.slice A6 es6.length cap6) es6:=
          (((OE6.out.far (p:=⟨w1.heap.size,0,none⟩) (by show w1.heap.size<_;omega) _).far (p:=⟨w1.heap.size,1,none⟩) (by show w1.heap.size<_;omega) _).far (p:=⟨w1.heap.size,2,none⟩) (by show w1.heap.size<_;omega) _)
         have hb7:Below w1.heap.size w1 (((w6.setCell ⟨w1.heap.size,0,none⟩ (.int .i64 r2)).setCell ⟨w1.heap.size,1,none⟩ (.int .i64 m)).setCell ⟨w1.heap.size,2,none⟩ (.slice A6 es6.length cap6)):=
          (((HBEL.out.trans (hB6.out.mono (by omega))).setCell (p:=⟨w1.heap.size,0,none⟩) (by show w1.heap.size≤_;exact Nat.le_refl _) _).setCell (p:=⟨w1.heap.size,1,none⟩) (by show w1.heap.size≤_;exact Nat.le_refl _) _).setCell (p:=⟨w1.heap.size,2,none⟩) (by show w1.heap.size≤_;exact Nat.le_refl _) _
         have fz7: ∀j,(((w6.setCell ⟨w1.heap.size,0,none⟩ (.int .i64 r2)).setCell ⟨w1.heap.size,1,none⟩ (.int .i64 m)).setCell ⟨w1.heap.size,2,none⟩ (.slice A6 es6.length cap6)).frozen? ⟨w1.heap.size,j,none⟩=false:=fun j=>by
          rw[World.frozen?_setCell,World.frozen?_setCell,World.frozen?_setCell];exact FF.out j
         have sz7:(((w6.setCell ⟨w1.heap.size,0,none⟩ (.int .i64 r2)).setCell ⟨w1.heap.size,1,none⟩ (.int .i64 m)).setCell ⟨w1.heap.size,2,none⟩ (.slice A6 es6.length cap6)).heap.size=w6.heap.size:=by simp
         generalize ((w6.setCell ⟨w1.heap.size,0,none⟩ (.int .i64 r2)).setCell ⟨w1.heap.size,1,none⟩ (.int .i64 m)).setCell ⟨w1.heap.size,2,none⟩ (.slice A6 es6.length cap6)=w7 at*
         have OL7:=hDD ol7
         have OE7:=hDD oe7
         have HB7:=hDD hb7
         have FZ7:=hDD fz7
         have C0:=hDD c0
         have C1:=hDD c1
         have C2:=hDD c2
         have hx1:u≤xs.length:=by omega
         have hx2:u+1≤xs.length:=by omega
         have OC:=hDD (owI_cut ol7 hx1)
         have RC:=hDD (RdI.cut (k:=u+1) (A:=some ⟨gl,0,none⟩) (cap:=capl) ol7.rd rfl hx2)
         clear ol7 oe7 hb7 fz7 c0 c1 c2 f0 f1 f2 ff0 ff1 ff2 FF
         have z1:(0:Int)≤(u:Int):=by omega
         have z2:(u:Int)≤(capl:Int):=by omega
         have z3:(u:Int)+1≤(k:Int):=by omega
         have z4:(k:Int)≤(capl:Int):=by omega
         have z5:(0:Int)≤(u:Int)+1:=by omega
         have z6:(u:Int)+1≤(capl:Int):=by omega
         have zw:IntKind.i64.wrap ((u:Int)+1)=(u:Int)+1:=by rw[IntKind.wrap_i64];omega
         have HC:Hid (∀(v9:Value) (w9:World),OwI w9 (w1.heap.size+1) v9 (xs.take u++xs.drop (u+1))→w7.drew.grownBy w9 (Value.slice (some ⟨gl,0,none⟩) u capl).ownBlock→(v9.ownBlock=(Value.slice (some ⟨gl,0,none⟩) u capl).ownBlock∨v9.ownBlock=some w7.drew.heap.size)→
           (∃(gg:GrD) (xs:List Int) (A':Option Addr) (cap':Nat),grB gg=true∧R=trimF gg.2.1.toNat gg xs∧xs.length=gg.2.1.toNat∧OwI w9 (w1.heap.size+1) v9 xs∧w9.cell? ⟨w1.heap.size,0,none⟩=some (.int .i64 gg.1)∧w9.cell? ⟨w1.heap.size,1,none⟩=some (.int .i64 gg.2.1)∧w9.cell? ⟨w1.heap.size,2,none⟩=some (.slice A' gg.2.2.length cap')∧(∀j,w9.frozen? ⟨w1.heap.size,j,none⟩=false)∧OwE w9 W0.heap.size (.slice A' gg.2.2.length cap') gg.2.2∧(∀b,(Value.slice A' gg.2.2.length cap').ownBlock=some b→v9.ownBlock≠some b)∧Below w1.heap.size w1 w9∧w1.heap.size<w9.heap.size)∧slN v9<k):=hDD (by
          intro v9 w9 o9 g9 p9
          have g9b: ∀b,b<w7.heap.size→b≠gl→w9.heap[b]? =w7.heap[b]? :=fun b hb hne=>g9.block b hb fun e=>hne (by simpa[Value.ownBlock] using e)
          have hs9:w7.heap.size≤w9.heap.size:=g9.size
          have hln:(xs.take u++xs.drop (u+1)).length=m:=by
           have:=HM.out
           rw[List.length_append,List.length_take,List.length_drop]
           omega
          have hb9:Below w1.heap.size w1 w9:=(HB7.out.drew).grown g9 (by show w1.heap.size≤w7.heap.size;omega) fun x hx=>by simp[Value.ownBlock] at hx;omega
          have cc: ∀o,w9.cell? ⟨w1.heap.size,o,none⟩=w7.cell? ⟨w1.heap.size,o,none⟩:=fun o=>World.cell?_of_block (g9b w1.heap.size (by omega) (by omega))
          have cf: ∀o,w9.frozen? ⟨w1.heap.size,o,none⟩=w7.frozen? ⟨w1.heap.size,o,none⟩:=fun o=>World.frozen?_of_block (g9b w1.heap.size (by omega) (by omega))
          obtain⟨A9,cap9,hv9,_⟩:=OwI.form o9
          refine⟨⟨(r2,(m:Int),es6),xs.take u++xs.drop (u+1),A6,cap6,HGB.out,by rw[HR2.out];simp,by rw[hln];simp,o9,(cc 0).trans C0.out,(cc 1).trans C1.out,(cc 2).trans C2.out,fun j=>(cf j).trans (FZ7.out j),(OE7.out.keep fun b hb=>g9b b (by have:=HE6.out b hb;omega) (by have:=HE6.out b hb;omega)).mono (by omega),fun b hb he=> ?_,hb9,by omega⟩,?_⟩
          ·have h1:=HE6.out b hb
           rcases p9 with p9 | p9
           ·rw[p9] at he
            simp[Value.ownBlock] at he
            omega
           ·rw[p9] at he
            have h2:w7.heap.size=b:=by simpa using he
            omega
          ·rw[hv9,hln]
           show m<k
           have:=HM.out
           omega)
         by_cases hcu:capl=u+1
         ·have RC':Hid (RdI w7 (.slice (some ⟨gl,0,none⟩) (k-(u+1)) 0) (xs.drop (u+1))):=hDD (by
           have h1:=RC.out
           rw[if_pos hcu,hxl,show capl-(u+1)=0 by omega] at h1
           exact h1)
          clear RC
          subst hcu
          have y1:(u:Int)≤(u:Int)+1:=by omega
          have y2:(k:Int)≤(u:Int)+1:=by omega
          clear z2 z4 z6
          go_region_held3 (fun w'=>True) (trivial)
           (first | (refine step_append_ints rfl (.tmp 77) (.tmp 81) rfl (w1.heap.size+1) _ (xs.take u) (OwI.drew OC.out) (by rfl) _ (xs.drop (u+1)) ?_ (by rfl) (by simp only[List.length_take,List.length_drop];omega) (by show _≤w7.heap.size;omega) ?_;(exact RC'.out.drew);intro v9 w9 o9 g9 p9;have X9:=hDD (HC.out v9 w9 o9 g9 p9);clear o9 g9 p9))
          clear HC
          obtain⟨X1,X2⟩:=X9.out
          clear X9
          have HX1:=hDD X1
          clear X1
          go_wp2
          go_roundw
          case rel=>exact HX1.out
          case measure=>(show slN v9<xs.length;omega)
         ·have RC':Hid (RdI w7 (.slice (some ⟨gl,u+1,none⟩) (k-(u+1)) (capl-(u+1))) (xs.drop (u+1))):=hDD (by
           have h1:=RC.out
           rw[if_neg hcu,hxl] at h1
           simpa[Addr.add] using h1)
          go_region_held3 (fun w'=>True) (trivial)
           (first | (refine step_append_ints rfl (.tmp 77) (.tmp 81) rfl (w1.heap.size+1) _ (xs.take u) (OwI.drew OC.out) (by rfl) _ (xs.drop (u+1)) ?_ (by rfl) (by simp only[List.length_take,List.length_drop];omega) (by show _≤w7.heap.size;omega) ?_;(exact RC'.out.drew);intro v9 w9 o9 g9 p9;have X9:=hDD (HC.out v9 w9 o9 g9 p9);clear o9 g9 p9))
          clear HC
          obtain⟨X1,X2⟩:=X9.out
          clear X9
          have HX1:=hDD X1
          clear X1
          go_wp2
          go_roundw
          case rel=>exact HX1.out
          case measure=>(show slN v9<xs.length;omega)
end Go.Proofs.YtfadnkjlilhneaaGreat
namespace Go.Proofs.YtfadnkjlilhneaaGreat
set_option maxRecDepth 20000
set_option linter.unusedVariables false
set_option linter.unusedSimpArgs false
open Go.RowKit
theorem letters_mem {r:Nat} {x:Int}:x∈lettersL r↔(1≤x∧x≤r)∨(-(r:Int)≤x∧x≤ -1):=by
 induction r with
 | zero=>simp[lettersL];omega
 | succ n ih=>
   unfold lettersL
   rw[List.mem_append,ih]
   simp
   omega
theorem nextV_mem {es:List EdD} {v x:Int} (h:0≤nextV es v x): ∃e∈es,mt v x e=some (nextV es v x):=by
 unfold nextV at*
 cases hs:stepsL es v x with
 | nil=>rw[hs] at h;simp at h
 | cons y l=>
   have hy:y∈stepsL es v x:=by rw[hs];simp
   unfold stepsL at hy
   obtain⟨e,he,hm⟩:=List.mem_filterMap.1 hy
   exact⟨e,he,by simpa using hm⟩
theorem nextV_of {es:List EdD} (hf:Fol es) {v x y:Int} {e:EdD} (he:e∈es) (hm:mt v x e=some y):nextV es v x=y:=by
 have hy:y∈stepsL es v x:=List.mem_filterMap.2 ⟨e,he,hm⟩
 have h1:=steps_one hf v x
 unfold nextV
 cases hs:stepsL es v x with
 | nil=>rw[hs] at hy;simp at hy
 | cons z l=>
   rw[hs] at h1 hy
   have:l= []:=by simpa using h1
   subst this
   simp at hy
   simp[hy]
theorem nextV_back {g:GrD} (hg:grB g=true) (hf:Fol g.2.2) {v x:Int} (hx: -3≤x∧x≤3) (h:0≤nextV g.2.2 v x):nextV g.2.2 (nextV g.2.2 v x) (-x)=v:=by
 obtain⟨e,he,hm⟩:=nextV_mem h
 refine nextV_of hf he ?_
 generalize nextV g.2.2 v x=y at*
 have hw1:wrap64 (-x)= -x:=IntWalk.wrap64_in _ ⟨by omega,by omega⟩
 have hw2:wrap64 (- -x)=x:=by rw[Int.neg_neg];exact IntWalk.wrap64_in _ ⟨by omega,by omega⟩
 unfold mt at hm⊢
 by_cases hp:0<x
 ·rw[if_pos hp] at hm
  split at hm
  ·rename_i a
   injection hm with hm
   rw[if_neg (by omega),if_pos (by omega),hw2,if_pos ⟨a.1,hm⟩,a.2]
  ·cases hm
 ·rw[if_neg hp] at hm
  by_cases hn:x<0
  ·rw[if_pos hn,hw1] at hm
   split at hm
   ·rename_i a
    injection hm with hm
    rw[if_pos (by omega),if_pos ⟨a.1,hm⟩,a.2]
   ·cases hm
  ·rw[if_neg hn] at hm;cases hm
def walkF (es:List EdD):Int→List Int→Int
 | v,[]=>v
 | v,x::w=>if nextV es v x<0 then-1 else walkF es (nextV es v x) w
end Go.Proofs.YtfadnkjlilhneaaGreat
namespace Go.Proofs.YtfadnkjlilhneaaGreat
set_option maxRecDepth 20000
set_option linter.unusedVariables false
set_option linter.unusedSimpArgs false
open Go.RowKit
theorem walkF_cons (es:List EdD) (v x:Int) (w:List Int):walkF es v (x::w)=if nextV es v x<0 then-1 else walkF es (nextV es v x) w:=rfl
def wst (es:List EdD) (u:Int) (wu:List Int) (tw:List (Int×List Int)) (x:Int):List (Int×List Int):=
 if 0≤nextV es u x then(if hasB (tw.map (·.1)) (nextV es u x) then tw else tw++ [(nextV es u x,wu++ [x])]) else tw
def wcF (es:List EdD) (ls:List Int):Nat→Nat→List (Int×List Int)→List (Int×List Int)
 | 0,_,tw=>tw
 | f+1,i,tw=>match tw[i]? with
   | none=>tw
   | some p=>wcF es ls f (i+1) (ls.foldl (wst es p.1 p.2) tw)
def wcO (g:GrD):List (Int×List Int):=wcF g.2.2 (lettersL g.1.toNat) 41 0 [(0,[])]
theorem wst_map (es:List EdD) (u:Int) (wu:List Int) (tw:List (Int×List Int)) (x:Int):(wst es u wu tw x).map (·.1)=cstep es u (tw.map (·.1)) x:=by
 unfold wst cstep
 by_cases h0:0≤nextV es u x
 ·rw[if_pos h0,if_pos h0]
  by_cases h1:hasB (tw.map (·.1)) (nextV es u x)=true
  ·rw[if_pos h1,if_pos h1]
  ·rw[if_neg h1,if_neg h1];simp
 ·rw[if_neg h0,if_neg h0]
theorem wfold_map (es:List EdD) (u:Int) (wu:List Int): ∀(ls:List Int) (tw:List (Int×List Int)),(ls.foldl (wst es u wu) tw).map (·.1)=ls.foldl (cstep es u) (tw.map (·.1))
 | [],_=>rfl
 | x::ls,tw=>by rw[List.foldl_cons,List.foldl_cons,wfold_map es u wu ls,wst_map]
theorem wcF_map (es:List EdD) (ls:List Int): ∀(f i:Nat) (tw:List (Int×List Int)),(wcF es ls f i tw).map (·.1)=canF es ls f i (tw.map (·.1))
 | 0,_,_=>rfl
 | f+1,i,tw=>by
   rw[wcF,canF,List.getElem?_map]
   cases tw[i]? with
   | none=>rfl
   | some p=>simp only[Option.map_some];rw[wcF_map es ls f,wfold_map]
theorem wcO_map (g:GrD):(wcO g).map (·.1)=canO g:=by unfold wcO canO;rw[wcF_map];rfl
theorem wcF_step (es:List EdD) (ls:List Int) (f i:Nat) (o:List (Int×List Int)) (h:i<o.length):wcF es ls (f+1) i o=wcF es ls f (i+1) (ls.foldl (wst es o[i].1 o[i].2) o):=by
 rw[wcF,List.getElem?_eq_getElem h]
theorem wst_prefix (es:List EdD) (u:Int) (wu:List Int) (x:Int) (o:List (Int×List Int)) (i:Nat) (y:Int×List Int) (h:o[i]? =some y):(wst es u wu o x)[i]? =some y:=by
 unfold wst
 split
 ·split
  ·exact h
  ·rw[List.getElem?_append_left (List.getElem?_eq_some_iff.1 h).1];exact h
 ·exact h
theorem wfold_prefix (es:List EdD) (u:Int) (wu:List Int): ∀(ls:List Int) (o:List (Int×List Int)) (i:Nat) (y:Int×List Int),o[i]? =some y→(ls.foldl (wst es u wu) o)[i]? =some y
 | [],_,_,_,h=>h
 | x::ls,o,i,y,h=>wfold_prefix es u wu ls _ i y (wst_prefix es u wu x o i y h)
theorem wfold_succ (es:List EdD) (u:Int) (wu:List Int) (ls:List Int) (o:List (Int×List Int)) (k:Nat) (h:k<ls.length):(ls.take (k+1)).foldl (wst es u wu) o=wst es u wu ((ls.take k).foldl (wst es u wu) o) ls[k]:=by
 rw[List.take_succ_eq_append_getElem h,List.foldl_append]
 rfl
theorem wcF_prefix (es:List EdD) (ls:List Int): ∀(f i:Nat) (o:List (Int×List Int)) (j:Nat) (y:Int×List Int),o[j]? =some y→(wcF es ls f i o)[j]? =some y
 | 0,_,_,_,_,h=>h
 | f+1,i,o,j,y,h=>by
   rw[wcF]
   cases o[i]? with
   | none=>exact h
   | some p=>exact wcF_prefix es ls f _ _ j y (wfold_prefix es _ _ ls o j y h)
structure TwI (es:List EdD) (ls:List Int) (tw:List (Int×List Int)):Prop where
 root:tw[0]? =some (0,[])
 par: ∀p∈tw,p=(0,[])∨ ∃q∈tw,∃x∈ls,p.2=q.2++ [x]∧nextV es q.1 x=p.1∧0≤p.1
 len: ∀p∈tw,p.2.length<tw.length
theorem TwI.step {es:List EdD} {ls:List Int} {tw:List (Int×List Int)} (h:TwI es ls tw) {u:Int} {wu:List Int} (hu:(u,wu)∈tw) {x:Int} (hx:x∈ls):TwI es ls (wst es u wu tw x)∧(u,wu)∈wst es u wu tw x:=by
 refine⟨⟨wst_prefix _ _ _ _ _ _ _ h.root,?_,?_⟩,?_⟩
 ·unfold wst
  split
  ·rename_i h0
   split
   ·exact h.par
   ·intro p hp
    rcases List.mem_append.1 hp with hp | hp
    ·rcases h.par p hp with e | ⟨q,hq,r⟩
     ·exact .inl e
     ·exact .inr ⟨q,List.mem_append.2 (.inl hq),r⟩
    ·rw[List.mem_singleton.1 hp]
     exact .inr ⟨(u,wu),List.mem_append.2 (.inl hu),x,hx,rfl,rfl,h0⟩
  ·exact h.par
 ·unfold wst
  split
  ·split
   ·exact h.len
   ·intro p hp
    rw[List.length_append]
    rcases List.mem_append.1 hp with hp | hp
    ·have:=h.len p hp;simp;omega
    ·rw[List.mem_singleton.1 hp]
     have:=h.len _ hu
     simp only[List.length_append,List.length_singleton] at this⊢
     omega
  ·exact h.len
 ·unfold wst
  split
  ·split
   ·exact hu
   ·exact List.mem_append.2 (.inl hu)
  ·exact hu
theorem TwI.fold {es:List EdD} {ls:List Int} {u:Int} {wu:List Int}: ∀(l2:List Int) {tw:List (Int×List Int)},TwI es ls tw→(u,wu)∈tw→(∀x∈l2,x∈ls)→TwI es ls (l2.foldl (wst es u wu) tw)
 | [],_,h,_,_=>h
 | x::l2,tw,h,hu,hs=>by
   have:=h.step hu (hs x (by simp))
   exact TwI.fold l2 this.1 this.2 fun y hy=>hs y (by simp[hy])
theorem TwI.bfs {es:List EdD} {ls:List Int}: ∀(f i:Nat) {tw:List (Int×List Int)},TwI es ls tw→TwI es ls (wcF es ls f i tw)
 | 0,_,_,h=>h
 | f+1,i,tw,h=>by
   rw[wcF]
   cases e:tw[i]? with
   | none=>exact h
   | some p=>exact TwI.bfs f _ (h.fold ls (List.mem_of_getElem? e) fun _ hx=>hx)
theorem TwI.one (es:List EdD) (ls:List Int):TwI es ls [(0,[])]:=⟨rfl,fun p hp=> .inl (List.mem_singleton.1 hp),fun p hp=>by rw[List.mem_singleton.1 hp];simp⟩
theorem wcO_ok (g:GrD):TwI g.2.2 (lettersL g.1.toNat) (wcO g):=(TwI.one _ _).bfs _ _
def lkW (tw:List (Int×List Int)) (v:Int):List Int:=match tw.find? (fun p=>decide (p.1=v)) with
 | some p=>p.2
 | none=> []
def wdO (g:GrD) (v:Int):List Int:=lkW (wcO g) v
theorem lkW_of {tw:List (Int×List Int)} (hn:(tw.map (·.1)).Nodup) {p:Int×List Int} (hp:p∈tw):lkW tw p.1=p.2:=by
 unfold lkW
 induction tw with
 | nil=>cases hp
 | cons q tw ih=>
   rw[List.map_cons,List.nodup_cons] at hn
   rw[List.find?_cons]
   rcases List.mem_cons.1 hp with rfl | hp
   ·simp
   ·have hne:q.1≠p.1:=fun e=>hn.1 (e▸List.mem_map.2 ⟨p,hp,rfl⟩)
    rw[show decide (q.1=p.1)=false by simp[hne]]
    exact ih hn.2 hp
section
variable {g:GrD}
theorem wcO_nodup (hg:grB g=true):((wcO g).map (·.1)).Nodup:=by rw[wcO_map];exact(canO_ok hg).1
theorem wd_of (hg:grB g=true) {p:Int×List Int} (hp:p∈wcO g):wdO g p.1=p.2:=lkW_of (wcO_nodup hg) hp
theorem wd_mem (hg:grB g=true) {v:Int} (hv:v∈canO g):(v,wdO g v)∈wcO g:=by
 rw[←wcO_map] at hv
 obtain⟨p,hp,rfl⟩:=List.mem_map.1 hv
 rw[wd_of hg hp]
 exact hp
theorem can_of {p:Int×List Int} (hp:p∈wcO g):p.1∈canO g:=by rw[←wcO_map];exact List.mem_map.2 ⟨p,hp,rfl⟩
theorem wd_zero (hg:grB g=true):wdO g 0= []:=wd_of hg (p:=(0,[])) (List.mem_of_getElem? (wcO_ok g).root)
theorem wd_par (hg:grB g=true) {v:Int} (hv:v∈canO g) (h0:v≠0): ∃u∈canO g,∃x∈lettersL g.1.toNat,wdO g v=wdO g u++ [x]∧nextV g.2.2 u x=v:=by
 rcases(wcO_ok g).par _ (wd_mem hg hv) with e | ⟨q,hq,x,hx,h1,h2,_⟩
 ·exact absurd (congrArg Prod.fst e) h0
 ·exact⟨q.1,can_of hq,x,hx,by rw[wd_of hg hq];exact h1,h2⟩
theorem wd_len (hg:grB g=true) {v:Int} (hv:v∈canO g):(wdO g v).length<40:=by
 have h1:=(wcO_ok g).len _ (wd_mem hg hv)
 have h2:=(canO_ok hg).len (grB_parts hg).2.1.2 (by have:=(grB_parts hg).2.1.1;omega)
 rw[←wcO_map,List.length_map] at h2
 simp only at h1
 omega
theorem let3 (hg:grB g=true) {x:Int} (hx:x∈lettersL g.1.toNat): -3≤x∧x≤3:=by
 have h1:=letters_mem.1 hx
 have h2:=(grB_parts hg).1
 omega
theorem snoc_inj {a b:List Int} {x y:Int} (h:a++ [x]=b++ [y]):a=b∧x=y:=by
 have:=List.append_inj' h rfl
 exact⟨this.1,by simpa using this.2⟩
def NoB:List Int→Prop
 | []=>True
 | [_]=>True
 | a::b::l=>b≠ -a∧NoB (b::l)
def exB (g:GrD) (e:EdD):Bool:= !decide (wdO g e.2.2=wdO g e.1++ [e.2.1])&& !decide (wdO g e.1=wdO g e.2.2++ [-e.2.1])
theorem exB_iff {e:EdD}:exB g e=true↔wdO g e.2.2≠wdO g e.1++ [e.2.1]∧wdO g e.1≠wdO g e.2.2++ [-e.2.1]:=by simp[exB]
def extL (g:GrD):List EdD:=g.2.2.filter (exB g)
theorem nextV_out (hg:grB g=true) (hf:Fol g.2.2) {e:EdD} (he:e∈g.2.2):nextV g.2.2 e.1 e.2.1=e.2.2:=by
 have h:=(edge_of_gr hg he).2.1
 exact nextV_of hf he (by unfold mt;rw[if_pos (by omega),if_pos ⟨rfl,rfl⟩])
theorem nextV_in (hg:grB g=true) (hf:Fol g.2.2) {e:EdD} (he:e∈g.2.2):nextV g.2.2 e.2.2 (-e.2.1)=e.1:=by
 have h:=(edge_of_gr hg he).2.1
 have h3:=(grB_parts hg).1
 have hb:=nextV_back hg hf (v:=e.1) (x:=e.2.1) (by omega) (by rw[nextV_out hg hf he];exact(edge_of_gr hg he).2.2.1)
 rwa [nextV_out hg hf he] at hb
theorem core_all (h:coreB g=true) {v:Int} (hv:0≤v∧v<g.2.1):v∈canO g:=by
 have hg:=coreB_grB h
 have hok:=canO_ok hg
 have hl:((canO g).length:Int)=g.2.1:=by
  unfold coreB at h
  simp only[Bool.and_eq_true,decide_eq_true_eq] at h
  have:=congrArg (fun g:GrD=>g.2.1) h.2
  exact this
 apply Classical.byContradiction
 intro hn
 have:=nodup_len g.2.1.toNat (v::canO g) (List.nodup_cons.2 ⟨hn,hok.1⟩) fun y hy=>by
  rcases List.mem_cons.1 hy with rfl | hy
  ·omega
  ·have:=hok.2.1 y hy;omega
 rw[List.length_cons] at this
 omega
end
def imgW (a b:GrD) (v:Int):Int:=walkF b.2.2 0 (wdO a v)
section
variable {a b:GrD}
end
def TwS (g:GrD) (ls:List Int) (k:Nat) (o:List Int):Prop:= ∃tw,tw.map (·.1)=o∧wcO g=wcF g.2.2 ls (41-k) k tw
theorem TwS.zero (g:GrD):TwS g (lettersL g.1.toNat) 0 [0]:=⟨[(0,[])],rfl,rfl⟩
theorem TwS.step {g:GrD} {ls:List Int} {k:Nat} {o:List Int} (h:TwS g ls k o) {u:Int} (hk:o[k]? =some u) (h41:k<41):TwS g ls (k+1) (ls.foldl (cstep g.2.2 u) o):=by
 obtain⟨tw,rfl,h2⟩:=h
 have hlt:k<tw.length:=by have:=(List.getElem?_eq_some_iff.1 hk).1;simpa using this
 have hu:tw[k].1=u:=by rw[List.getElem?_map,List.getElem?_eq_getElem hlt] at hk;simpa using hk
 refine⟨ls.foldl (wst g.2.2 tw[k].1 tw[k].2) tw,by rw[wfold_map,hu],?_⟩
 rw[h2,show 41-k=(41-(k+1))+1 by omega,wcF_step _ _ _ _ _ hlt]
theorem TwS.new {g:GrD} (hg:grB g=true) {ls:List Int} {k:Nat} {o:List Int} (h:TwS g ls k o) {u:Int} (hk:o[k]? =some u) (h41:k<41) {m:Nat} (hm:m<ls.length)
  (h0:0≤nextV g.2.2 u ls[m]) (hn:hasB ((ls.take m).foldl (cstep g.2.2 u) o) (nextV g.2.2 u ls[m])=false):wdO g (nextV g.2.2 u ls[m])=wdO g u++ [ls[m]]:=by
 obtain⟨tw,rfl,h2⟩:=h
 have hlt:k<tw.length:=by have:=(List.getElem?_eq_some_iff.1 hk).1;simpa using this
 have hu:tw[k].1=u:=by rw[List.getElem?_map,List.getElem?_eq_getElem hlt] at hk;simpa using hk
 rw[show 41-k=(41-(k+1))+1 by omega] at h2
 have m1:tw[k]∈wcO g:=by rw[h2];exact List.mem_of_getElem? (wcF_prefix _ _ _ _ _ k _ (List.getElem?_eq_getElem hlt))
 have w1:=wd_of hg m1
 rw[hu] at w1
 rw[wcF_step _ _ _ _ _ hlt,hu] at h2
 have hmap:=wfold_map g.2.2 u tw[k].2 (ls.take m) tw
 have hst:wst g.2.2 u tw[k].2 ((ls.take m).foldl (wst g.2.2 u tw[k].2) tw) ls[m]=(ls.take m).foldl (wst g.2.2 u tw[k].2) tw++ [(nextV g.2.2 u ls[m],tw[k].2++ [ls[m]])]:=by
  rw[wst,if_pos h0,hmap,if_neg (by rw[hn];simp)]
 have hall:ls.foldl (wst g.2.2 u tw[k].2) tw=(ls.drop (m+1)).foldl (wst g.2.2 u tw[k].2) ((ls.take (m+1)).foldl (wst g.2.2 u tw[k].2) tw):=by
  rw[←List.foldl_append,List.take_append_drop]
 have m2:(nextV g.2.2 u ls[m],tw[k].2++ [ls[m]])∈wcO g:=by
  rw[h2,hall,wfold_succ _ _ _ _ _ _ hm,hst]
  refine List.mem_of_getElem? (wcF_prefix _ _ _ _ _ ((ls.take m).foldl (wst g.2.2 u tw[k].2) tw).length _ (wfold_prefix _ _ _ _ _ _ _ ?_))
  rw[List.getElem?_append_right (Nat.le_refl _),Nat.sub_self]
  rfl
 have w2:=wd_of hg m2
 rw[w2,w1]
def tE (g:GrD) (y:Int):EdD:=
 if 0<(wdO g y).getLastD 0 then(nextV g.2.2 y (-(wdO g y).getLastD 0),(wdO g y).getLastD 0,y) else(y,-(wdO g y).getLastD 0,nextV g.2.2 y (-(wdO g y).getLastD 0))
theorem wd_out {g:GrD} {v:Int} (hv:v∉canO g):wdO g v= []:=by
 unfold wdO lkW
 cases e:(wcO g).find? (fun p=>decide (p.1=v)) with
 | none=>rfl
 | some p=>
   have h1:=List.find?_some e
   have h2:=List.mem_of_find?_eq_some e
   rw[decide_eq_true_eq] at h1
   exact absurd (h1▸can_of h2) hv
theorem getLastD_snoc (l:List Int) (x:Int):(l++ [x]).getLastD 0=x:=by simp[List.getLastD_eq_getLast?]
theorem tE_new {g:GrD} (hg:grB g=true) (hf:Fol g.2.2) {u x y:Int} (hx:x∈lettersL g.1.toNat) (h0:0≤nextV g.2.2 u x) (hy:nextV g.2.2 u x=y) (hw:wdO g y=wdO g u++ [x]):tE g y=if 0<x then(u,x,y) else(y,-x,u):=by
 have hb:=nextV_back hg hf (let3 hg hx) h0
 rw[hy] at hb
 unfold tE
 rw[hw,getLastD_snoc,hb]
theorem tE_iff {g:GrD} (hg:grB g=true) (hf:Fol g.2.2) {e:EdD} (he:e∈g.2.2):(∃y∈canO g,y≠0∧e=tE g y)↔exB g e=false:=by
 have hl:=(edge_of_gr hg he).2.1
 rw[Bool.eq_false_iff,Ne,exB_iff,Classical.not_and_iff_not_or_not,Classical.not_not,Classical.not_not]
 constructor
 ·rintro⟨y,hy,h0,rfl⟩
  obtain⟨u,hu,x,hx,e1,hnx⟩:=wd_par hg hy h0
  have hyr:=(canO_ok hg).2.1 y hy
  have ht:=tE_new hg hf hx (by rw[hnx];omega) hnx e1
  rw[ht]
  split
  ·exact .inl e1
  ·exact .inr (by simp only;rw[Int.neg_neg];exact e1)
 ·rintro(h | h)
  ·have hy:e.2.2∈canO g:=Classical.byContradiction fun hn=>by
    rw[wd_out hn] at h
    have:=congrArg List.length h
    simp at this
   have h0:e.2.2≠0:=fun h0=>by
    rw[h0,wd_zero hg] at h
    have:=congrArg List.length h
    simp at this
   obtain⟨u,hu,x,hx,e1,hnx⟩:=wd_par hg hy h0
   have hyr:=(canO_ok hg).2.1 _ hy
   rw[h] at e1
   have hxe:=(snoc_inj e1).2
   subst hxe
   have hb:=nextV_back hg hf (let3 hg hx) (by rw[hnx];omega)
   rw[hnx,nextV_in hg hf he] at hb
   refine⟨e.2.2,hy,h0,?_⟩
   have ht:=tE_new hg hf hx (by rw[hnx];omega) hnx (by rw[h,hb])
   rw[ht,if_pos (by omega),←hb]
  ·have hy:e.1∈canO g:=Classical.byContradiction fun hn=>by
    rw[wd_out hn] at h
    have:=congrArg List.length h
    simp at this
   have h0:e.1≠0:=fun h0=>by
    rw[h0,wd_zero hg] at h
    have:=congrArg List.length h
    simp at this
   obtain⟨u,hu,x,hx,e1,hnx⟩:=wd_par hg hy h0
   have hyr:=(canO_ok hg).2.1 _ hy
   rw[h] at e1
   have hxe:=(snoc_inj e1).2
   subst hxe
   have hb:=nextV_back hg hf (let3 hg hx) (by rw[hnx];omega)
   rw[hnx,Int.neg_neg,nextV_out hg hf he] at hb
   refine⟨e.1,hy,h0,?_⟩
   have ht:=tE_new hg hf hx (by rw[hnx];omega) hnx (by rw[h,hb])
   rw[ht,if_neg (by omega),←hb,Int.neg_neg]
def TrE (g:GrD) (o:List Int) (T:List EdD):Prop:= ∀e,e∈T↔ ∃y∈o,y≠0∧e=tE g y
theorem TrE.add {g:GrD} {o:List Int} {T T':List EdD} (h:TrE g o T) {y:Int} (hy:y≠0) (hT: ∀e,e∈T'↔e=tE g y∨e∈T):TrE g (o++ [y]) T':=by
 intro e
 rw[hT,h e]
 constructor
 ·rintro(rfl | ⟨z,hz,r⟩)
  ·exact⟨y,by simp,hy,rfl⟩
  ·exact⟨z,by simp[hz],r⟩
 ·rintro⟨z,hz,r⟩
  rcases List.mem_append.1 hz with hz | hz
  ·exact .inr ⟨z,hz,r⟩
  ·rw[List.mem_singleton.1 hz] at r;exact .inl r.2
theorem TrE.ext {g:GrD} (hf:foldB g=true) {T:List EdD} (h:TrE g (canO g) T) {e:EdD} (he:e∈g.2.2):(e∈T↔exB g e=false):=by
 obtain⟨hg,hfol⟩:=foldB_parts hf
 rw[h e]
 exact tE_iff hg hfol he
end Go.Proofs.YtfadnkjlilhneaaGreat
namespace Go.Proofs.YtfadnkjlilhneaaGreat
set_option maxRecDepth 20000
set_option linter.unusedVariables false
set_option linter.unusedSimpArgs false
open Go.RowKit
abbrev FoD:=Int×Int
def fo2 (a b:EdD):List FoD:=
 (if a.2.1=b.2.1∧a.1=b.1 then [(min a.2.2 b.2.2,max a.2.2 b.2.2)] else [])++
 (if a.2.1=b.2.1∧a.2.2=b.2.2 then [(min a.1 b.1,max a.1 b.1)] else [])
def foAt (es:List EdD) (i k:Nat):List FoD:=((es.take k).drop (i+1)).flatMap (fo2 (es.getD i (0,0,0)))
def foUp (es:List EdD):Nat→List FoD
 | 0=> []
 | i+1=>foUp es i++foAt es i es.length
def foL (es:List EdD):List FoD:=foUp es es.length
theorem foUp_from {es:List EdD} {f:FoD}: ∀n,f∈foUp es n→ ∃i,i<n∧f∈foAt es i es.length
 | 0,h=>by cases h
 | n+1,h=>by
   unfold foUp at h
   rcases List.mem_append.1 h with h | h
   ·obtain⟨i,hi,hf⟩:=foUp_from n h
    exact⟨i,by omega,hf⟩
   ·exact⟨n,by omega,h⟩
theorem foL_from {es:List EdD} {f:FoD} (h:f∈foL es): ∃i k,∃(hi:i<k) (hk:k<es.length),f∈fo2 (es[i]'(by omega)) es[k]:=by
 obtain⟨i,hi,hf⟩:=foUp_from _ h
 unfold foAt at hf
 rw[List.take_length] at hf
 obtain⟨b,hb,hf⟩:=List.mem_flatMap.1 hf
 obtain⟨j,hj,rfl⟩:=List.mem_iff_getElem.1 hb
 rw[List.length_drop] at hj
 rw[List.getElem_drop] at hf
 refine⟨i,i+1+j,by omega,by omega,?_⟩
 simpa[List.getD,hi] using hf
def plF (f:FoD) (v:Int):Int:=if v=f.2 then f.1 else if f.2<v then v-1 else v
def plE (f:FoD) (e:EdD):EdD:=(plF f e.1,e.2.1,plF f e.2.2)
def merG (g:GrD) (f:FoD):GrD:=(g.1,g.2.1-1,srt cmpE (g.2.2.map (plE f)))
def folF:Nat→GrD→GrD
 | 0,g=>g
 | n+1,g=>match foL g.2.2 with
   | []=>g
   | f::_=>folF n (merG g f)
def folA (g:GrD):GrD:=folF g.2.1.toNat g
theorem folF_nil {g:GrD} (h:foL g.2.2= []): ∀n,folF n g=g
 | 0=>rfl
 | n+1=>by unfold folF;rw[h]
theorem fol_mem {es:List EdD} (h:Fol es) {a b:EdD} (ha:a∈es) (hb:b∈es) (hne:a≠b):clash a b=false:=by
 unfold Fol at h
 rw[List.pairwise_iff_getElem] at h
 obtain⟨i,hi,rfl⟩:=List.getElem_of_mem ha
 obtain⟨k,hk,rfl⟩:=List.getElem_of_mem hb
 rcases Nat.lt_trichotomy i k with q | q | q
 ·exact h i k hi hk q
 ·subst q;exact absurd rfl hne
 ·rw[clash_comm];exact h k i hk hi q
theorem fol_rnG {g:GrD} (o:List Int) (h:Fol g.2.2):Fol (rnG g o).2.2:=by
 have hsp:=srt_spec cmpE_ord (rnL g.2.2 o)
 show Fol (srt cmpE (rnL g.2.2 o))
 unfold Fol
 refine hsp.1.imp_of_mem fun {x y} hx hy hxy=> ?_
 obtain⟨a,ha,hxa⟩:=List.mem_filterMap.1 ((hsp.2 x).1 hx)
 obtain⟨b,hb,hyb⟩:=List.mem_filterMap.1 ((hsp.2 y).1 hy)
 have hne:a≠b:=fun e=>by
  subst e
  rw[hxa] at hyb
  injection hyb with e
  rw[e,cmpE_zero.2 rfl] at hxy
  omega
 have hc:=fol_mem h ha hb hne
 unfold rnE at hxa hyb
 split at hxa
 ·rename_i p1
  split at hyb
  ·rename_i p2
   injection hxa with hxa
   injection hyb with hyb
   subst hxa hyb
   unfold clash at hc⊢
   rw[Bool.eq_false_iff] at hc⊢
   intro q
   apply hc
   simp only[Bool.and_eq_true,Bool.or_eq_true,beq_iff_eq] at q⊢
   refine⟨q.1,?_⟩
   rcases q.2 with q | q
   ·exact .inl (plv_inj (o:=o) (by omega) (by omega))
   ·exact .inr (plv_inj (o:=o) (by omega) (by omega))
  ·cases hyb
 ·cases hxa
theorem foldB_rnGN {g:GrD} {o:List Int} (h:foldB g=true) (ho:OrdN g.2.1 o):foldB (rnG g o)=true:=by
 obtain⟨h1,h2⟩:=foldB_parts h
 unfold foldB
 rw[grB_rnGN h1 ho,decide_eq_true (fol_rnG o h2)]
 rfl
theorem foldB_rnG {g:GrD} {o:List Int} (h:foldB g=true) (ho:OrdOk g.2.1 o):foldB (rnG g o)=true:=foldB_rnGN h ho.toN
theorem trimF_fold: ∀(n:Nat) (g:GrD) (l:List Int),foldB g=true→foldB (trimF n g l).1=true
 | 0,g,l,h=>h
 | n+1,g,l,h=>by
   unfold trimF
   split
   ·exact h
   ·rename_i hv
    have hsz:=(grB_parts (foldB_parts h).1).2.1
    have hr:=leafV_range g.2.2 g.2.1.toNat
    refine trimF_fold n _ _ (foldB_rnG h ?_)
    have:=delO_ok (n:=g.2.1.toNat) (x:=leafV g.2.2 g.2.1.toNat) (by omega) (by omega)
    rwa [show((g.2.1.toNat:Nat):Int)=g.2.1 by omega] at this
theorem trimG_fold {g:GrD} (h:foldB g=true):foldB (trimG g).1=true:=trimF_fold _ _ _ h
def coreG (g:GrD):GrD:=canG (trimG (folA g)).1
end Go.Proofs.YtfadnkjlilhneaaGreat
namespace Go.Proofs.YtfadnkjlilhneaaGreat
set_option maxRecDepth 20000
set_option linter.unusedVariables false
set_option linter.unusedSimpArgs false
open Go.RowKit
section
variable {w w':World} {base:Nat} {v:Value} {l:List FoD}
end
theorem gbox {w W:World} {a b c:Value} {t:TypeId} (hW:W=w.alloc (.cells #[a,b,c] t)):W.heap.size=w.heap.size+1∧Below w.heap.size w W∧
  (∀w',Below (w.heap.size+1) W w'→w'.cell? ⟨w.heap.size,0,none⟩=some a∧w'.cell? ⟨w.heap.size,1,none⟩=some b∧w'.cell? ⟨w.heap.size,2,none⟩=some c)∧ ∀j w',Below (w.heap.size+1) W w'→w'.frozen? ⟨w.heap.size,j,none⟩=false:=by
 have hs:W.heap.size=w.heap.size+1:=by rw[hW];simp
 have h0:W.cell? ⟨w.heap.size,0,none⟩=some a:=by rw[hW];simp[go_sem]
 have h1:W.cell? ⟨w.heap.size,1,none⟩=some b:=by rw[hW];simp[go_sem]
 have h2:W.cell? ⟨w.heap.size,2,none⟩=some c:=by rw[hW];simp[go_sem]
 refine⟨hs,by rw[hW];exact(Below.refl _ _).alloc (Nat.le_refl _) _,fun w' hb=>⟨(hb.cell (p:=⟨w.heap.size,0,none⟩) (Nat.lt_succ_self _)).trans h0,(hb.cell (p:=⟨w.heap.size,1,none⟩) (Nat.lt_succ_self _)).trans h1,(hb.cell (p:=⟨w.heap.size,2,none⟩) (Nat.lt_succ_self _)).trans h2⟩,fun j w' hb=>(hb.frozen (p:=⟨w.heap.size,j,none⟩) (Nat.lt_succ_self _)).trans ?_⟩
 rw[hW];simp[go_sem]
theorem cells3F {W:World} {b:Nat} {u0 u1 u2:Value} (x y z:Value) (h0:W.cell? ⟨b,0,none⟩=some u0) (h1:W.cell? ⟨b,1,none⟩=some u1) (h2:W.cell? ⟨b,2,none⟩=some u2):
  (((W.setCell ⟨b,0,none⟩ x).setCell ⟨b,1,none⟩ y).setCell ⟨b,2,none⟩ z).cell? ⟨b,0,none⟩=some x∧(((W.setCell ⟨b,0,none⟩ x).setCell ⟨b,1,none⟩ y).setCell ⟨b,2,none⟩ z).cell? ⟨b,1,none⟩=some y∧(((W.setCell ⟨b,0,none⟩ x).setCell ⟨b,1,none⟩ y).setCell ⟨b,2,none⟩ z).cell? ⟨b,2,none⟩=some z:=
 ⟨by rw[World.cell?_setCell_other _ _ _ _ (by simp),World.cell?_setCell_other _ _ _ _ (by simp),World.cell?_setCell_same _ _ _ h0],
  by rw[World.cell?_setCell_other _ _ _ _ (by simp)];exact World.cell?_setCell_same _ _ _ ((World.cell?_setCell_other _ _ _ _ (by simp)).trans h1),
  World.cell?_setCell_same _ _ _ ((World.cell?_setCell_other _ _ _ _ (by simp)).trans ((World.cell?_setCell_other _ _ _ _ (by simp)).trans h2))⟩
end Go.Proofs.YtfadnkjlilhneaaGreat
namespace Go.Proofs.YtfadnkjlilhneaaGreat
set_option maxRecDepth 20000
set_option linter.unusedVariables false
set_option linter.unusedSimpArgs false
open Go.RowKit
section
variable {base:Nat} {w wa w':World} {vo vr vo':Value} {lo lr lo':List Int}
end
end Go.Proofs.YtfadnkjlilhneaaGreat
namespace Go.Proofs.YtfadnkjlilhneaaGreat
set_option maxRecDepth 20000
set_option linter.unusedVariables false
set_option linter.unusedSimpArgs false
open Go.RowKit
set_option maxHeartbeats 400000 in
theorem copyInts_any (v:Value) (xs:List Int) (w:World) (h:RdI w v xs) (hl:xs.length≤1073741824):
  Calls Tryz.prog 136 #[v] w fun e w'=> ∃r,e= .returned r∧OwI w' w.heap.size r xs∧Below w.heap.size w w':=by
 have H:=hDD h
 obtain⟨A,cap,rfl,_⟩:=h.arg
 clear h
 go_enter Tryz.func136,Tryz.ntmps136
 go_wp2_with (at_builtin;refine append_ints rfl (.tmp 3) (.tmp 4) rfl w.heap.size _ [] (OwI_lit _ [] I64s_nil (by simp) (Nat.le_refl _)) rfl _ _ (H.out.alloc _) rfl (by simp;omega) (by simp) ?_;intro v1 w1 o1 g1 p1)
 go_ret
 exact⟨_,rfl,by simpa using o1,((Below.refl _ _).alloc (Nat.le_refl _) _).grown g1 (by simp) (fun k hk=>by simp[Value.ownBlock] at hk;omega)⟩
end Go.Proofs.YtfadnkjlilhneaaGreat
namespace Go.Proofs.YtfadnkjlilhneaaGreat
set_option maxRecDepth 20000
set_option linter.unusedVariables false
set_option linter.unusedSimpArgs false
open Go.RowKit
set_option maxHeartbeats 400000 in
theorem ins1_any (v:Value) (n:Int) (w:World) (hn:n=0∨n=1):
  Calls Tryz.prog 159 #[v, .int .i64 0, .int .i64 n] w fun e w'=>e= .returned (.tuple #[])∧w=w':=by
 rcases hn with rfl | rfl
 all_goals (
  go_enter Tryz.func159,Tryz.ntmps159
  go_wp2
  refine wp_loop_rounds 1 ?_
  rw[rounds_succ]
  go_wp2
  go_end0
  exact⟨rfl,rfl⟩)
set_option maxHeartbeats 1000000 in
theorem len64_any (n:Int) (w:World) (hn:n=0∨n=1):
  Calls Tryz.prog 154 #[.int .u64 n] w fun e w'=>(∃l:Int,e= .returned (.int .i64 l))∧w=w':=by
 rcases hn with rfl | rfl
 ·go_enter Tryz.func154,Tryz.ntmps154
  go_wp2
  go_ret
  exact⟨⟨_,rfl⟩,rfl⟩
 ·go_enter Tryz.func154,Tryz.ntmps154
  go_wp2
  go_ret
  exact⟨⟨_,rfl⟩,rfl⟩
set_option maxHeartbeats 400000 in
theorem len1_any (n:Int) (w:World) (hn:n=0∨n=1):
  Calls Tryz.prog 134 #[.int .u64 n] w fun e w'=>(∃l:Int,e= .returned (.int .i64 l))∧w=w':=by
 have h:=len64_any n w hn
 have HN:=hDD h
 clear h
 rcases hn with rfl | rfl
 all_goals (
  go_enter Tryz.func134,Tryz.ntmps134
  go_wp2_with fail
  refine HN.out.mono ?_
  rintro e w' ⟨⟨l,rfl⟩,rfl⟩
  go_wp2
  go_ret
  exact⟨⟨_,rfl⟩,rfl⟩)
set_option maxHeartbeats 400000 in
theorem pdq1_any (v:Value) (n:Int) (l:Int) (w:World) (hn:n=0∨n=1):
  Calls Tryz.prog 144 #[v, .int .i64 0, .int .i64 n, .int .i64 l] w fun e w'=>e= .returned (.tuple #[])∧w=w':=by
 have h:=ins1_any v n w hn
 have HN:=hDD h
 clear h
 rcases hn with rfl | rfl
 all_goals (
  go_enter Tryz.func144,Tryz.ntmps144
  go_wp2
  refine wp_loop_rounds 1 ?_
  rw[rounds_succ]
  go_wp2_with fail
  refine HN.out.mono ?_
  rintro e w' ⟨rfl,rfl⟩
  go_wp2
  exact bodyPost_ret (v:= .tuple #[]) (by simp[results,Tryz.results144,go_sem]) rfl ⟨rfl,rfl⟩)
set_option maxHeartbeats 400000 in
theorem sort1_any (v:Value) (xs:List Int) (w:World) (h:RdI w v xs) (hn:xs.length≤1):
  Calls Tryz.prog 131 #[v] w fun e w'=>e= .returned (.tuple #[])∧w=w':=by
 obtain⟨A,cap,rfl,_⟩:=h.arg
 have hn1:(xs.length:Int)=0∨(xs.length:Int)=1:=by omega
 have H1:=hDD (len1_any (xs.length:Int) w hn1)
 have H2:=hDD (fun l=>pdq1_any (.slice A xs.length cap) (xs.length:Int) l w hn1)
 have hw:IntKind.u64.wrap (xs.length:Int)=(xs.length:Int):=by
  rcases hn1 with h | h<;>rw[h]<;>decide+kernel
 clear hn1 h
 go_enter Tryz.func131,Tryz.ntmps131
 go_wp2_with fail
 refine H1.out.mono ?_
 rintro e w' ⟨⟨l,rfl⟩,rfl⟩
 go_wp2_with fail
 refine(H2.out l).mono ?_
 rintro e w' ⟨rfl,rfl⟩
 go_wp2
 go_end0
 exact⟨rfl,rfl⟩
set_option maxHeartbeats 400000 in
theorem compact1_any (A:Option Addr) (n cap:Nat) (w:World) (hn:n≤1):
  Calls Tryz.prog 132 #[.slice A n cap] w fun e w'=>e= .returned (.slice A n cap)∧w=w':=by
 have h1:(n:Int)<2:=by omega
 go_enter Tryz.func132,Tryz.ntmps132
 go_wp2
 go_ret
 exact⟨rfl,rfl⟩
set_option maxHeartbeats 2000000 in
theorem implStepsFrom_any (v:Value) (g:GrD) (u x:Int) (w:World) (h:ArgG w v g) (hone:(stepsL g.2.2 u x).length≤1) (hlet: ∀e∈g.2.2,1≤e.2.1):
  Calls Tryz.prog 105 #[v, .int .i64 u, .int .i64 x] w fun e w'=> ∃r,e= .returned r∧OwI w' w.heap.size r (stepsL g.2.2 u x)∧Below w.heap.size w w':=by
 obtain⟨s,rfl,_,_,ha⟩:=h
 have H:=hDD ha
 obtain⟨A,cap,rfl,hcap,hm,_,hr,_⟩:=ha
 have HR:=hDD hr
 unfold maxLen at hm
 clear hr
 have HLET:=hDD hlet
 clear hlet
 go_enter Tryz.func105,Tryz.ntmps105
 go_wp2
 have hb:Below w.heap.size w ((w.alloc (Obj.cells #[Value.int IntKind.i64 g.1,Value.int IntKind.i64 g.2.1, .slice A g.2.2.length cap] 31)).alloc (Obj.cells #[] 3)):=(by repeat(first | exact Below.refl _ _ | (refine Below.setCell ?_ (by first | omega | (simp<;>omega)) _) | (refine bel_drewN ?_ _) | (refine Below.drew ?_) | (refine Below.alloc ?_ (by first | omega | (simp<;>omega)) _)))
 have k2:((w.alloc (Obj.cells #[Value.int IntKind.i64 g.1,Value.int IntKind.i64 g.2.1, .slice A g.2.2.length cap] 31)).alloc (Obj.cells #[] 3)).cell? ⟨w.heap.size,2,none⟩=some (.slice A g.2.2.length cap):=by simp[go_sem]
 have hs0:w.heap.size+1<((w.alloc (Obj.cells #[Value.int IntKind.i64 g.1,Value.int IntKind.i64 g.2.1, .slice A g.2.2.length cap] 31)).alloc (Obj.cells #[] 3)).heap.size:=by simp
 have o0:OwI ((w.alloc (Obj.cells #[Value.int IntKind.i64 g.1,Value.int IntKind.i64 g.2.1, .slice A g.2.2.length cap] 31)).alloc (Obj.cells #[] 3)) (w.heap.size+1) (.slice (some ⟨w.heap.size+1,0,none⟩) 0 0) []:=OwI_litN (w.alloc (Obj.cells #[Value.int IntKind.i64 g.1,Value.int IntKind.i64 g.2.1, .slice A g.2.2.length cap] 31)) [] (w.heap.size+1) (by simp) I64s_nil (by simp) (Nat.le_refl _)
 generalize (w.alloc (Obj.cells #[Value.int IntKind.i64 g.1,Value.int IntKind.i64 g.2.1, .slice A g.2.2.length cap] 31)).alloc (Obj.cells #[] 3)=w1 at hb k2 hs0 o0⊢
 have HB:=hDD hb
 have K2:=hDD k2
 have O0:=hDD o0
 clear hb k2 o0
 go_loopw [7,14] (fun out i wr=> ∃k:Nat,k≤g.2.2.length∧i= .int .i64 k∧OwI wr (w.heap.size+1) out (stepsL (g.2.2.take k) u x)∧Below (w.heap.size+1) w1 wr) (fun _ i _=>g.2.2.length-(intOf i).toNat)
 case atStart=>exact⟨0,Nat.zero_le _,rfl,O0.out,Below.refl _ _⟩
 case round=>
  obtain⟨k,hk,rfl,hown,hbel⟩:=hrel
  have hsz:=hbel.size
  have HB3:=hDD (HB.out.trans (hbel.mono (by omega)))
  have p2:=(hbel.cell (p:=⟨w.heap.size,2,none⟩) (show w.heap.size<w.heap.size+1 by omega)).trans K2.out
  have HO:=hDD hown
  have HB2:=hDD hbel
  obtain⟨A1,cap1,rfl,hcap1,hm1,_,_⟩:=hown.form
  clear hbel
  by_cases hlt:k<g.2.2.length
  ·obtain⟨b,off,rfl,hbl,c0,c1,c2,_⟩:=(H.out.below HB3.out).at hlt
   have HS:=hDD (stepsL_succ g.2.2 u x k hlt)
   have HX:=hDD (HR.out g.2.2[k] (by simp))
   have HLE:=hDD (HLET.out g.2.2[k] (by simp))
   have hl1:=stepsL_take g.2.2 u x (k+1)
   have hl0:(stepsL (g.2.2.take k) u x).length≤1:=by have:=stepsL_take g.2.2 u x k;omega
   have HL1:Hid ((stepsL (g.2.2.take (k+1)) u x).length≤1):=hDD (by omega)
   clear hl1 hown
   generalize g.2.2[k]=e at*
   obtain⟨f,l,t⟩:=e
   simp only at c0 c1 c2
   have keep:mt u x (f,l,t)=none→stepsL (g.2.2.take (k+1)) u x=stepsL (g.2.2.take k) u x:=fun e=>by rw[HS.out,e];simp
   have KE:=hDD keep
   have put: ∀y,mt u x (f,l,t)=some y→stepsL (g.2.2.take k) u x= []∧stepsL (g.2.2.take (k+1)) u x= [y]:=fun y e=>by
    have h1:=HS.out
    have h2:=HL1.out
    rw[e] at h1
    rw[h1] at h2
    simp at h2
    refine⟨h2,by rw[h1,h2];rfl⟩
   have PU:=hDD put
   clear keep put
   by_cases hp:0<x
   ·have hn: ¬x<0:=by omega
    rcases e1:(l==x) with _ | _
    ·have F:=hDD (KE.out (by simp at e1;simp[mt,hp,e1]))
     go_wp2
     go_roundw
     case rel=>exact⟨k+1,by omega,by go_num,by rw[F.out];exact HO.out.alloc _,HB2.out.alloc (by omega) _⟩
     case measure=>simp[intOf];omega
    ·rcases e2:(f==u) with _ | _
     ·have F:=hDD (KE.out (by simp at e2;simp[mt,hp,e2]))
      go_wp2
      go_roundw
      case rel=>exact⟨k+1,by omega,by go_num,by rw[F.out];exact HO.out.alloc _,HB2.out.alloc (by omega) _⟩
      case measure=>simp[intOf];omega
     ·have F:=hDD (PU.out t (by simp at e1 e2;simp[mt,hp,e1,e2]))
      go_wp2_with (at_builtin;refine push_int rfl (.tmp 33) (.tmp 36) rfl _ _ _ (OwI.alloc (OwI.alloc HO.out _) _) rfl (wr.heap.size+1) t rfl (by simp[go_sem]) HX.out.2.2 (by omega) (by simp;omega) ?_;intro v9 wv9 o9 g9 p9)
      go_roundw
      case rel=>exact⟨k+1,by omega,by go_num,by have:=o9;rw[F.out.1] at this;rw[F.out.2];exact this,bel_push (B:=w.heap.size+1) (HB2.out.alloc (by omega) _) (by simp;omega) (OwI.alloc HO.out _).1 (Nat.le_refl _) g9⟩
      case measure=>simp[intOf];omega
   ·by_cases hn:x<0
    ·rcases e0:(x != -9223372036854775808) with _ | _
     ·have hx0:x= -9223372036854775808:=by simpa using e0
      have F:=hDD (KE.out (by
       have h1:wrap64 (-x)= -9223372036854775808:=by rw[hx0];decide+kernel
       have h2:=HLE.out
       unfold mt
       rw[if_neg hp,if_pos hn,h1,if_neg (fun h=>by have:=h.1;simp only at this;omega)]))
      go_wp2
      go_roundw
      case rel=>exact⟨k+1,by omega,by go_num,by rw[F.out];exact HO.out.alloc _,HB2.out.alloc (by omega) _⟩
      case measure=>simp[intOf];omega
     rcases e1:(l==wrap64 (-x)) with _ | _
     ·have F:=hDD (KE.out (by simp at e1;simp[mt,hp,hn,e1]))
      go_wp2
      go_roundw
      case rel=>exact⟨k+1,by omega,by go_num,by rw[F.out];exact HO.out.alloc _,HB2.out.alloc (by omega) _⟩
      case measure=>simp[intOf];omega
     ·rcases e2:(t==u) with _ | _
      ·have F:=hDD (KE.out (by simp at e2;simp[mt,hp,hn,e2]))
       go_wp2
       go_roundw
       case rel=>exact⟨k+1,by omega,by go_num,by rw[F.out];exact HO.out.alloc _,HB2.out.alloc (by omega) _⟩
       case measure=>simp[intOf];omega
      ·have F:=hDD (PU.out f (by simp at e1 e2;simp[mt,hp,hn,e1,e2]))
       go_wp2_with (at_builtin;refine push_int rfl (.tmp 58) (.tmp 61) rfl _ _ _ (OwI.alloc (OwI.alloc HO.out _) _) rfl (wr.heap.size+1) f rfl (by simp[go_sem]) HX.out.1 (by omega) (by simp;omega) ?_;intro v9 wv9 o9 g9 p9)
       go_roundw
       case rel=>exact⟨k+1,by omega,by go_num,by have:=o9;rw[F.out.1] at this;rw[F.out.2];exact this,bel_push (B:=w.heap.size+1) (HB2.out.alloc (by omega) _) (by simp;omega) (OwI.alloc HO.out _).1 (Nat.le_refl _) g9⟩
       case measure=>simp[intOf];omega
    ·have F:=hDD (KE.out (by simp[mt,hp,hn]))
     go_wp2
     go_roundw
     case rel=>exact⟨k+1,by omega,by go_num,by rw[F.out];exact HO.out.alloc _,HB2.out.alloc (by omega) _⟩
     case measure=>simp[intOf];omega
  ·obtain rfl:k=g.2.2.length:=by omega
   clear hown
   rw[List.take_length]
   rw[List.take_length] at HO hcap1
   have hn1:(stepsL g.2.2 u x).length≤1:=hone
   go_wp2_with fail
   refine(sort1_any _ _ _ HO.out.rd hn1).mono ?_
   rintro e wz ⟨rfl,rfl⟩
   go_wp2_with fail
   refine(compact1_any _ _ _ _ hn1).mono ?_
   rintro e wz ⟨rfl,rfl⟩
   go_wp2
   go_ret
   exact⟨_,rfl,HO.out.mono (base':=w.heap.size) (by omega),HB3.out⟩
set_option maxHeartbeats 1000000 in
theorem implNextVertex_any (v:Value) (g:GrD) (u x:Int) (w:World) (h:ArgG w v g) (hone:(stepsL g.2.2 u x).length≤1) (hlet: ∀e∈g.2.2,1≤e.2.1):
  Calls Tryz.prog 67 #[v, .int .i64 u, .int .i64 x] w fun e w'=>e= .returned (.int .i64 (nextV g.2.2 u x))∧Below w.heap.size w w':=by
 have H:=hDD h
 obtain⟨s,rfl,_,_,ha⟩:=h
 obtain⟨A,cap,rfl⟩:=ha.form
 obtain⟨R,hR⟩: ∃R,R=nextV g.2.2 u x:=⟨_,rfl⟩
 rw[←hR]
 unfold nextV at hR
 have HR:=hDD hR
 clear hR
 go_enter Tryz.func67,Tryz.ntmps67
 go_wp2_with fail
 have hb:Below w.heap.size w (w.alloc (Obj.cells #[Value.int IntKind.i64 g.1,Value.int IntKind.i64 g.2.1, .slice A g.2.2.length cap] 31)):=(by repeat(first | exact Below.refl _ _ | (refine Below.setCell ?_ (by first | omega | (simp<;>omega)) _) | (refine bel_drewN ?_ _) | (refine Below.drew ?_) | (refine Below.alloc ?_ (by first | omega | (simp<;>omega)) _)))
 refine(implStepsFrom_any _ g u x _ (H.out.below hb) hone hlet).mono ?_
 rintro e w1 ⟨r,rfl,o1,b1⟩
 have B1:=hDD (hb.trans (b1.mono hb.size))
 generalize stepsL g.2.2 u x=L at o1 HR
 clear hb b1 ha
 obtain⟨A1,cap1,rfl,hc1,hm1,_,_⟩:=o1.form
 match L,o1,HR with
 | [],o1,HR=>
   have F:Hid (R= -1):=HR
   clear o1
   go_wp2
   go_ret
   exact⟨ret_int F.out.symm,B1.out⟩
 | y::L,o1,HR=>
   obtain rfl:R=y:=HR.out
   clear HR
   obtain⟨b,off,rfl,hbl,hc⟩:=o1.rd.at (by simp)
   have c0:=hc 0 (by simp)
   simp only[List.getElem_cons_zero,Nat.add_zero] at c0
   clear o1 hc
   go_wp2
   go_ret
   exact⟨rfl,B1.out⟩
structure TreeW (bb P N:Nat) (w:World) (ord:Value) (o:List Int):Prop where
 ex: ∃vs:List Value,vs.length=N∧w.ownsRow bb 26 1 (.slice (some ⟨P,0,none⟩) N N) N vs∧ ∀(j:Nat) (hj:j<vs.length),
  ((j:Int)∉o∧vs[j]= .slice none 0 0)∨((j:Int)∈o∧ ∃(b cap:Nat) (ws:List Int),vs[j]= .slice (some ⟨b,0,none⟩) ws.length cap∧ws.length≤o.length∧RdI w vs[j] ws∧b≠P∧ord.ownBlock≠some b∧b<w.heap.size)
 ne:ord.ownBlock≠some P
section
variable {bb P N:Nat} {w w':World} {ord:Value} {o:List Int}
theorem TreeW.lt (h:TreeW bb P N w ord o):bb≤P∧P<w.heap.size:=by
 obtain⟨vs,_,h2,_⟩:=h.ex
 exact h2.lt P rfl
theorem TreeW.at_new (h:TreeW bb P N w ord o) {y:Nat} (hy:y<N) (hn:(y:Int)∉o):w.cell? ⟨P,y,none⟩=some (.slice none 0 0):=by
 obtain⟨vs,h1,h2,h3⟩:=h.ex
 rw[World.ownsRow.cellAt h2 y (by omega)]
 rcases h3 y (by omega) with ⟨_,h4⟩ | ⟨h4,_⟩
 ·rw[List.getElem?_eq_getElem (by omega),h4]
 ·exact absurd h4 hn
theorem TreeW.at_old (h:TreeW bb P N w ord o) {y:Nat} (hy:y<N) (hn:(y:Int)∈o):
  ∃(b cap:Nat) (ws:List Int),w.cell? ⟨P,y,none⟩=some (.slice (some ⟨b,0,none⟩) ws.length cap)∧ws.length≤o.length∧RdI w (.slice (some ⟨b,0,none⟩) ws.length cap) ws:=by
 obtain⟨vs,h1,h2,h3⟩:=h.ex
 rw[World.ownsRow.cellAt h2 y (by omega)]
 rcases h3 y (by omega) with ⟨h4,_⟩ | ⟨_,b,cap,ws,e1,e2,e3,_⟩
 ·exact absurd hn h4
 ·rw[e1] at e3
  exact⟨b,cap,ws,by rw[List.getElem?_eq_getElem (by omega),e1],e2,e3⟩
theorem TreeW.free (h:TreeW bb P N w ord o) (j:Nat):w.frozen? ⟨P,j,none⟩=false:=by
 obtain⟨vs,h1,h2,h3⟩:=h.ex
 exact World.ownsRow.frozenAt h2 j
theorem TreeW.below (h:TreeW bb P N w ord o) (hb:Below w.heap.size w w'):TreeW bb P N w' ord o:=by
 obtain⟨vs,h1,h2,h3⟩:=h.ex
 refine⟨⟨vs,h1,ownsRow_below h2 hb,fun j hj=> ?_⟩,h.ne⟩
 rcases h3 j hj with h4 | ⟨h4,b,cap,ws,e1,e2,e3,e4,e5,e6⟩
 ·exact .inl h4
 ·exact .inr ⟨h4,b,cap,ws,e1,e2,e3.below hb,e4,e5,by have:=hb.size;omega⟩
theorem TreeW.set (h:TreeW bb P N w ord o) {y:Nat} (hy:y<N) {b cap:Nat} {ws:List Int} (hr:RdI w (.slice (some ⟨b,0,none⟩) ws.length cap) ws) (hl:ws.length≤o.length+1) (hb:b≠P) (ho:ord.ownBlock≠some b) (hlt:b<w.heap.size):
  TreeW bb P N (w.setCell ⟨P,y,none⟩ (.slice (some ⟨b,0,none⟩) ws.length cap)) ord (o++ [(y:Int)]):=by
 obtain⟨vs,h1,h2,h3⟩:=h.ex
 obtain⟨s1,s2⟩:=World.ownsRow.stored h2 y (.slice (some ⟨b,0,none⟩) ws.length cap)
 have hsz:(w.setCell ⟨P,y,none⟩ (.slice (some ⟨b,0,none⟩) ws.length cap)).heap.size=w.heap.size:=by simp
 have hg:w.grownBy (w.setCell ⟨P,y,none⟩ (.slice (some ⟨b,0,none⟩) ws.length cap)) (some P):=set_grown _ _ _ _
 refine⟨⟨_,by simpa using h1,s1,fun j hj=> ?_⟩,h.ne⟩
 have hj':j<vs.length:=by simpa using hj
 by_cases hjy:j=y
 ·subst hjy
  refine .inr ⟨by simp,b,cap,ws,by simp,by simp;omega,?_,hb,ho,by omega⟩
  rw[List.getElem_set_self]
  exact hr.grown hg fun x hx hx'=>by simp[Value.ownBlock] at hx hx';omega
 ·rw[List.getElem_set_ne (Ne.symm hjy)]
  rcases h3 j hj' with ⟨h4,h5⟩ | ⟨h4,b',cap',ws',e1,e2,e3,e4,e5,e6⟩
  ·refine .inl ⟨?_,h5⟩
   rw[List.mem_append,List.mem_singleton]
   rintro(h6 | h6)
   ·exact h4 h6
   ·omega
  ·refine .inr ⟨List.mem_append_left _ h4,b',cap',ws',e1,by simp;omega,e3.grown hg fun x hx hx'=> ?_,e4,e5,by omega⟩
   rw[e1] at hx
   simp[Value.ownBlock] at hx hx'
   omega
theorem TreeW.lit (h:TreeW bb P N w (.slice none 0 0) o) (ob:Obj) (n c:Nat):TreeW bb P N (w.alloc ob) (.slice (some ⟨w.heap.size,0,none⟩) n c) o:=by
 have hlt:=h.lt
 obtain⟨vs,h1,h2,h3⟩:=h.ex
 refine⟨⟨vs,h1,ownsRow_below h2 ((Below.refl w.heap.size w).alloc (Nat.le_refl _) ob),fun j hj=> ?_⟩,by simp[Value.ownBlock];omega⟩
 rcases h3 j hj with h4 | ⟨h4,b,cap,ws,e1,e2,e3,e4,e5,e6⟩
 ·exact .inl h4
 ·exact .inr ⟨h4,b,cap,ws,e1,e2,e3.alloc _,e4,by simp[Value.ownBlock];omega,by simp;omega⟩
theorem TreeW.push (h:TreeW bb P N w ord o) {w9:World} {v9:Value} {ob:Obj} (hg:(w.alloc ob).grownBy w9 ord.ownBlock) (hp:v9.ownBlock=ord.ownBlock∨v9.ownBlock=some (w.alloc ob).heap.size):TreeW bb P N w9 v9 o:=by
 have hlt:=h.lt
 have h':=h.below ((Below.refl w.heap.size w).alloc (Nat.le_refl _) ob)
 obtain⟨vs,h1,h2,h3⟩:=h'.ex
 have hs:(w.alloc ob).heap.size=w.heap.size+1:=by simp
 have hs9:=hg.size
 refine⟨⟨vs,h1,h2.kept hg (.inr fun e=>h.ne e.symm),fun j hj=> ?_⟩,?_⟩
 ·rcases h3 j hj with h4 | ⟨h4,b,cap,ws,e1,e2,e3,e4,e5,e6⟩
  ·exact .inl h4
  ·refine .inr ⟨h4,b,cap,ws,e1,e2,e3.grown hg fun x hx hx'=> ?_,e4,?_,by omega⟩
   ·rw[e1] at hx
    simp only[Value.ownBlock,Option.some.injEq] at hx
    subst hx
    exact e5 hx'
   ·rcases hp with hp | hp
    ·rw[hp];exact e5
    ·rw[hp]
     intro e
     injection e with e
     omega
 ·rcases hp with hp | hp
  ·rw[hp];exact h.ne
  ·rw[hp]
   intro e
   injection e with e
   omega
end
theorem ints_info':(Tryz.prog.info? 26).map (fun i=>(i.zero,i.size,i.bytes))=some (some (.slice none 0 0),1,24):=by kernel_rfl
set_option maxHeartbeats 1000000 in
theorem tree_any (v:Value) (g:GrD) (w:World) (h:ArgG w v g) (hf:foldB g=true):
  Calls Tryz.prog 110 #[v, .int .i64 0] w fun e w'=> ∃r s,e= .returned (.tuple #[r,s])∧OwI w' w.heap.size r (canO g)∧Below w.heap.size w w':=by
 have HG:=hDD h
 obtain⟨hg,hfol⟩:=foldB_parts hf
 have ONE:=hDD (steps_one hfol)
 have LET:=hDD (let_of_gr hg)
 obtain⟨hr13,hsz40,hl120,_⟩:=grB_parts hg
 obtain⟨A,cap,hv⟩: ∃A cap,v= .agg #[.int .i64 g.1, .int .i64 g.2.1, .slice A g.2.2.length cap]:=by
  obtain⟨s,hv,_,_,ha⟩:=h
  obtain⟨A,cap,rfl⟩:=ha.form
  exact⟨A,cap,hv⟩
 subst hv
 obtain⟨N,hN⟩: ∃N:Nat,g.2.1=(N:Int):=⟨g.2.1.toNat,by omega⟩
 obtain⟨rn,hrn⟩: ∃rn:Nat,g.1=(rn:Int):=⟨g.1.toNat,by omega⟩
 have hrn1:1≤rn:=by omega
 have hrn3:rn≤3:=by omega
 have hN1:1≤N:=by omega
 have hN2:N≤40:=by omega
 have HCO:Hid (canO g=canF g.2.2 (lettersL rn) 41 0 [0]):=hDD (by unfold canO;rw[hrn];rfl)
 have OK0:=hDD (OrdOk.one (n:=g.2.1) (by omega))
 have OKS:Hid (∀(u:Int) (o:List Int) (k:Nat),OrdOk g.2.1 o→OrdOk g.2.1 (((lettersL rn).take k).foldl (cstep g.2.2 u) o)):=hDD fun u o k h=>cfold_take_ok hg _ k h
 have OKL:Hid (∀o:List Int,OrdOk g.2.1 o→o.length≤40):=hDD fun o h=>h.len (by omega) (by omega)
 have OKR:Hid (∀o:List Int,OrdOk g.2.1 o→ ∀y∈o,0≤y∧y<N):=hDD fun o h y hy=>by have:=h.2.1 y hy;omega
 have NV:Hid (∀u x,nextV g.2.2 u x= -1∨(0≤nextV g.2.2 u x∧nextV g.2.2 u x<N)):=hDD fun u x=>by
  rcases nextV_range hg u x with e | e
  ·exact .inl e
  ·exact .inr ⟨e.1,by omega⟩
 have hll:=lettersL_len rn
 have HLE:Hid (∀W:World,Calls Tryz.prog 66 #[.int .i64 g.1] W fun e w'=> ∃r,e= .returned r∧OwI w' W.heap.size r (lettersL rn)∧Below W.heap.size W w'):=hDD fun W=>by
  rw[hrn]
  exact letters_any rn W (by omega)
 generalize lettersL rn=ls at*
 rw[hN] at HG
 clear hg hf hfol h hrn
 have hr1:1≤g.1∧g.1≤3:=hr13
 clear hsz40 hl120 hr13
 rw[hN]
 have bx:Below w.heap.size w (w.alloc (Obj.cells #[Value.int IntKind.i64 g.1,Value.int IntKind.i64 N, .slice A g.2.2.length cap] 31)):=(by repeat(first | exact Below.refl _ _ | (refine Below.setCell ?_ (by first | omega | (simp<;>omega)) _) | (refine bel_drewN ?_ _) | (refine Below.drew ?_) | (refine Below.alloc ?_ (by first | omega | (simp<;>omega)) _)))
 have k0:(w.alloc (Obj.cells #[Value.int IntKind.i64 g.1,Value.int IntKind.i64 N, .slice A g.2.2.length cap] 31)).cell? ⟨w.heap.size,0,none⟩=some (.int .i64 g.1):=by simp[go_sem]
 have k1:(w.alloc (Obj.cells #[Value.int IntKind.i64 g.1,Value.int IntKind.i64 N, .slice A g.2.2.length cap] 31)).cell? ⟨w.heap.size,1,none⟩=some (.int .i64 N):=by simp[go_sem]
 have k2:(w.alloc (Obj.cells #[Value.int IntKind.i64 g.1,Value.int IntKind.i64 N, .slice A g.2.2.length cap] 31)).cell? ⟨w.heap.size,2,none⟩=some (.slice A g.2.2.length cap):=by simp[go_sem]
 have sx:w.heap.size<(w.alloc (Obj.cells #[Value.int IntKind.i64 g.1,Value.int IntKind.i64 N, .slice A g.2.2.length cap] 31)).heap.size:=by simp
 have ex:(w.alloc (Obj.cells #[Value.int IntKind.i64 g.1,Value.int IntKind.i64 N, .slice A g.2.2.length cap] 31)).heap.size=w.heap.size+1:=by simp
 have qT: ∀(w:World) (a:Option Addr) (n c n' c':Nat),(binOp .eql 26 (.slice a n c) (.slice none n' c')).run Tryz.prog w= .ok (.bool a.isNone) w:=fun w a n c n' c'=>Lib.run_eql_slice_nil w _ _ a n c n' c' Tryz.underlying26
 go_enter Tryz.func110,Tryz.ntmps110
 obtain⟨i0,hi0,hz0,hz1,hz2⟩:=info_parts ints_info'
 go_wp2_with (at_make;refine wpList_make_full _ rfl _ _ 57 rfl (w.heap.size+1) 26 i0 (.slice none 0 0) 1 Tryz.underlying57 hi0 hz0 hz1 _ _ _ _ N rfl rfl rfl rfl (by rw[hz2];omega) (by unfold maxLen;omega) (by simp) ?_)
 generalize w.alloc (Obj.cells #[Value.int IntKind.i64 g.1,Value.int IntKind.i64 N, .slice A g.2.2.length cap] 31)=w1 at bx k0 k1 k2 sx ex⊢
 rw[←ex]
 have BX:=hDD bx
 have K0:=hDD k0
 have K1:=hDD k1
 have K2:=hDD k2
 have EX:=hDD ex
 clear k0 k1 k2 bx ex
 intro w2 hown0 hgrow0
 have hP2:w1.heap.size<w2.heap.size:=(hown0.lt w1.heap.size rfl).2
 have B12:Below w1.heap.size w1 w2:=(Below.refl w1.heap.size w1).grown hgrow0 (Nat.le_refl _) (fun k h=>by cases h)
 have TW0:TreeW w1.heap.size w1.heap.size N w2 (.slice none 0 0) []:=⟨⟨List.replicate N (.slice none 0 0),by simp,by simpa[toList_madeCells_one] using hown0,fun j hj=> .inl ⟨by simp,by simp⟩⟩,by simp[Value.ownBlock]⟩
 have TW1:TreeW w1.heap.size w1.heap.size N (w2.alloc (.cells #[] 3)) (.slice none 0 0) []:=TW0.below ((Below.refl _ _).alloc (Nat.le_refl _) _)
 have oE:OwI (w2.alloc (.cells #[] 3)) w2.heap.size (.slice (some ⟨w2.heap.size,0,none⟩) 0 0) []:=OwI_lit w2 [] (fun _ h=>by cases h) (by simp) (Nat.le_refl _)
 have TW2:=TW1.set (y:=0) (by omega) (b:=w2.heap.size) (cap:=0) (ws:= []) oE.rd (by simp) (by omega) (by simp[Value.ownBlock]) (by simp)
 have hc0:=TW1.at_new (y:=0) (by omega) (by simp)
 have hf0:=TW1.free 0
 have j1:(0:Int)<(N:Int):=by omega
 have TWH:=hDD TW2
 have B13:Hid (Below w1.heap.size w1 ((w2.alloc (.cells #[] 3)).setCell ⟨w1.heap.size,0,none⟩ (.slice (some ⟨w2.heap.size,0,none⟩) 0 0))):=hDD ((B12.alloc (by omega) _).setCell (by show w1.heap.size≤w1.heap.size;omega) _)
 clear TW0 TW1 TW2 oE hown0 hgrow0 B12
 go_wp2
 have oO:OwI (((w2.alloc (.cells #[] 3)).setCell ⟨w1.heap.size,0,none⟩ (.slice (some ⟨w2.heap.size,0,none⟩) 0 0)).alloc (.cells #[Value.int IntKind.i64 0] 3)) (w1.heap.size+1) (.slice (some ⟨w2.heap.size+1,0,none⟩) 1 1) [0]:=OwI_litN _ [0] (w2.heap.size+1) (by simp) (fun x hx=>by simp at hx;subst hx;exact⟨by decide,by decide⟩) (by simp) (by omega)
 have TWL:=TWH.out.lit (.cells #[Value.int IntKind.i64 0] 3) 1 1
 have B14:Below w1.heap.size w1 (((w2.alloc (.cells #[] 3)).setCell ⟨w1.heap.size,0,none⟩ (.slice (some ⟨w2.heap.size,0,none⟩) 0 0)).alloc (.cells #[Value.int IntKind.i64 0] 3)):=B13.out.alloc (by simp;omega) _
 have e3:((w2.alloc (.cells #[] 3)).setCell ⟨w1.heap.size,0,none⟩ (.slice (some ⟨w2.heap.size,0,none⟩) 0 0)).heap.size=w2.heap.size+1:=by simp
 simp only[List.length_nil,List.nil_append] at TWL
 rw[e3] at TWL
 have hsw:(w2.alloc (.cells #[] 3)).setCell ⟨w1.heap.size,0,none⟩ (.slice (some ⟨w2.heap.size,0,none⟩) 0 0)=(w2.setCell ⟨w1.heap.size,0,none⟩ (.slice (some ⟨w2.heap.size,0,none⟩) 0 0)).alloc (.cells #[] 3):=World.setCell_alloc_past _ _ _ _ hP2
 rw[hsw] at oO TWL B14
 generalize ((w2.setCell ⟨w1.heap.size,0,none⟩ (.slice (some ⟨w2.heap.size,0,none⟩) 0 0)).alloc (.cells #[] 3)).alloc (.cells #[Value.int IntKind.i64 0] 3)=w3 at oO TWL B14⊢
 have OO:=hDD oO
 have TW:=hDD TWL
 have HB0:=hDD B14
 clear oO TWL B14 e3 hc0 hf0 TWH B13
 go_loopw [7,8] (fun out i wo=> ∃(k:Nat) (o:List Int),k≤o.length∧i= .int .i64 k∧OrdOk g.2.1 o∧canO g=canF g.2.2 ls (41-k) k o∧OwI wo (w1.heap.size+1) out o∧TreeW w1.heap.size w1.heap.size N wo out o∧Below w1.heap.size w1 wo) (fun _ i _=>41-(intOf i).toNat)
 case atStart=>exact⟨0,[0],by simp,rfl,OK0.out,HCO.out,OO.out,TW.out,HB0.out⟩
 case round=>
  obtain⟨k,o,hk,rfl,hok,hco,hown,htw,hbel⟩:=hrel
  obtain⟨wo,rfl⟩: ∃wo:World,wo=wr:=⟨_,rfl⟩
  have hol:=OKL.out o hok
  have HOK:=hDD hok
  have HC:=hDD hco
  have HO:=hDD hown
  have HTW:=hDD htw
  have HB2:=hDD hbel
  have hsz:=hbel.size
  have q0:=(hbel.cell (p:=⟨w.heap.size,0,none⟩) sx).trans K0.out
  obtain⟨A1,cap1,rfl,_,_,_,hf2⟩:=hown.form
  clear hok hco htw hbel
  by_cases hlt:k<o.length
  ·obtain⟨u,hu⟩: ∃u,o[k]? =some u:=⟨o[k],by simp⟩
   have hku:o[k]=u:=by rw[List.getElem?_eq_getElem hlt] at hu;injection hu
   have HCF:Hid (canO g=canF g.2.2 ls (41-(k+1)) (k+1) (ls.foldl (cstep g.2.2 u) o)):=hDD (by
    rw[HC.out,show 41-k=(41-(k+1))+1 by omega,canF_step _ _ _ _ _ hlt,hku])
   have HPU:Hid (∀m:Nat,(((ls.take m).foldl (cstep g.2.2 u) o))[k]? =some u):=hDD fun m=>cfold_prefix _ _ _ _ _ _ hu
   have HSU:Hid (∀(m:Nat) (hm:m<ls.length),(ls.take (m+1)).foldl (cstep g.2.2 u) o=cstep g.2.2 u ((ls.take m).foldl (cstep g.2.2 u) o) ls[m]):=hDD fun m hm=>cfold_succ _ _ _ _ _ hm
   have HOKm:Hid (∀m:Nat,OrdOk g.2.1 ((ls.take m).foldl (cstep g.2.2 u) o)):=hDD fun m=>OKS.out u o m HOK.out
   obtain⟨un,hun,hunN⟩: ∃un:Nat,u=(un:Int)∧un<N:=by
    have h1:=HOK.out.2.1 u (by rw[←hku];simp)
    exact⟨u.toNat,by omega,by omega⟩
   obtain⟨b1,rfl,_,hb1⟩:=hf2 (by omega)
   have ck:=hown.cellAt k hlt
   rw[hku] at ck
   have HUN:=hDD hun
   clear hf2 hu hku hown hun
   go_wp2_with fail
   refine(HLE.out wo).mono ?_
   rintro e wl ⟨rl,rfl,ol,bl⟩
   have sl:=bl.size
   obtain⟨Al,capl,rfl,hcl,hml,_,hfl⟩:=ol.form
   obtain⟨gl,rfl,hgl1,hgl2⟩:=hfl (by omega)
   unfold maxLen at hml
   have OL:=hDD ol.rd
   have BL:=hDD bl
   have HO3:=hDD (HO.out.below bl)
   have HT3:=hDD (HTW.out.below bl)
   have hne1:b1≠gl:=by omega
   clear hfl ol bl
   go_wp2
   go_loopw [7,36] (fun out j wr=> ∃m:Nat,m≤ls.length∧j= .int .i64 m∧OwI wr (w1.heap.size+1) out ((ls.take m).foldl (cstep g.2.2 u) o)∧TreeW w1.heap.size w1.heap.size N wr out ((ls.take m).foldl (cstep g.2.2 u) o)∧RdI wr (.slice (some ⟨gl,0,none⟩) ls.length capl) ls∧out.ownBlock≠some gl∧gl≠w1.heap.size∧gl<wr.heap.size∧Below w1.heap.size wl wr) (fun _ j _=>ls.length-(intOf j).toNat)
   case atStart=>exact⟨0,Nat.zero_le _,rfl,HO3.out,HT3.out,OL.out,by simp[Value.ownBlock];omega,by have:=HTW.out.lt;omega,hgl2,Below.refl _ _⟩
   case round=>
    obtain⟨m,hm1,rfl,hown,htw,hrd,hne,hnP,hblr,hbi⟩:=hrel
    have hsi:=hbi.size
    have HBI:=hDD hbi
    have HB4:Hid (Below w1.heap.size w1 wr):=hDD ((HB2.out.trans (BL.out.mono (by omega))).trans hbi)
    have p0:=(HB4.out.cell (p:=⟨w.heap.size,0,none⟩) sx).trans K0.out
    have p1:=(HB4.out.cell (p:=⟨w.heap.size,1,none⟩) sx).trans K1.out
    have p2:=(HB4.out.cell (p:=⟨w.heap.size,2,none⟩) sx).trans K2.out
    have HRR:=hDD hrd
    have HNR:=hDD hne
    have HTW2:=hDD htw
    clear hbi htw
    by_cases hlt2:m<ls.length
    ·have hokm:=HOKm.out m
     have hlm:=OKL.out _ hokm
     have hpu:=HPU.out m
     have HS:=hDD (HSU.out m hlt2)
     have HORm:=hDD (OKR.out _ hokm)
     obtain⟨_,_,hAl,_,hcl⟩:=hrd.at (by omega)
     obtain⟨rfl,rfl⟩:gl=_∧0=_:=by simpa using hAl
     have c0:=hcl m hlt2
     rw[Nat.zero_add] at c0
     have hx64:I64 ls[m]:=hrd.2 _ (by simp)
     generalize ls[m]=x at c0 HS hx64
     have HX:=hDD hx64
     generalize (ls.take m).foldl (cstep g.2.2 u) o=om at*
     have hum:u∈om:=List.mem_of_getElem? hpu
     have HUM:=hDD hum
     have HOM:=hDD hown
     have NX:=hDD (NV.out u x)
     have N0:=hDD (cstep_no (es:=g.2.2) (u:=u) (x:=x) (o:=om))
     have N1:=hDD (cstep_in (es:=g.2.2) (u:=u) (x:=x) (o:=om))
     have N2:=hDD (cstep_new (es:=g.2.2) (u:=u) (x:=x) (o:=om))
     have HNX:=hDD (implNextVertex_any _ g u x wr (HG.out.below (BX.out.trans (HB4.out.mono (by omega)))) (ONE.out u x) LET.out)
     clear hcl hAl hown hrd hpu hokm hx64 hum
     go_wp2_with fail
     refine HNX.out.mono ?_
     rintro e wq ⟨rfl,bq⟩
     clear HNX
     have sq:=bq.size
     have HQ:Hid (Below w1.heap.size wl wq):=hDD (HBI.out.trans (bq.mono (by omega)))
     have HOQ:=hDD (HOM.out.below bq)
     have HRQ:=hDD (HRR.out.below bq)
     have HTQ:=hDD (HTW2.out.below bq)
     clear bq p0 p1 p2
     generalize nextV g.2.2 u x=y at*
     rcases NX.out with hy | hy
     ·subst hy
      have F:=hDD (N0.out (by omega))
      go_wp2
      go_roundw
      case rel=>exact⟨m+1,by omega,by go_num,by rw[HS.out,F.out];exact HOQ.out,by rw[HS.out,F.out];exact HTQ.out,HRQ.out,HNR.out,hnP,by omega,HQ.out⟩
      case measure=>simp[intOf];omega
     ·obtain⟨yn,rfl⟩: ∃yn:Nat,y=(yn:Int):=⟨y.toNat,by omega⟩
      have hy0:(0:Int)≤(yn:Int):=hy.1
      have hyN:(yn:Int)<(N:Int):=hy.2
      have hynN:yn<N:=by omega
      rcases h1:hasB om (yn:Int) with _ | _
      ·have F:=hDD (N2.out hy0 h1)
       have HY:Hid (I64 (yn:Int)):=hDD ⟨by omega,by omega⟩
       have hnotin:(yn:Int)∉om:=hasB_not h1
       have ct:=HTQ.out.at_new hynN hnotin
       have ft:=HTQ.out.free yn
       obtain⟨bu,capu,wu,cu,hwul,hru⟩:=HTQ.out.at_old hunN (by rw[←HUN.out];exact HUM.out)
       have HRU:=hDD hru
       have huN':u<(N:Int):=by rw[HUN.out];omega
       have hu0':(0:Int)≤u:=by rw[HUN.out];omega
       have cu':wq.cell? ⟨w1.heap.size,u.toNat,none⟩=some (.slice (some ⟨bu,0,none⟩) wu.length capu):=by rw[HUN.out];exact cu
       clear hru hnotin
       go_wp2_with fail
       refine(copyInts_any _ wu _ HRU.out (by omega)).mono ?_
       rintro e wc ⟨rc,rfl,oc,bc⟩
       have sc:=bc.size
       have OC:=hDD oc
       have BC:=hDD bc
       have hPq:=HTQ.out.lt.2
       have hneT:=HTQ.out.ne
       have hA2: ∀x,u7.ownBlock=some x→x<wq.heap.size:=fun x hx=>(HOQ.out.1.lt x hx).2
       have HA2:=hDD hA2
       have CT:=hDD ct
       have FT:=hDD ft
       obtain⟨Ac,capc,rfl,_⟩:=OwI.form oc
       clear oc bc ct ft hA2
       go_wp2_with (first | ((at_builtin;refine push_int rfl (.tmp 59) (.tmp 61) rfl _ _ _ (OwI.alloc OC.out _) rfl _ _ rfl (cell_new1 _ _ _) HX.out (by first | omega | (simp<;>omega)) (by first | omega | (simp<;>omega)) ?_;intro v8 wv8 o8 g8 p8);obtain⟨A8,cap8,rfl,hl8,hm8,_,hf8⟩:=OwI.form o8;obtain⟨b8,rfl,hb81,hb82⟩:=hf8 (by simp);have B8:Below wq.heap.size wq wv8:=bel_push BC.out sc OC.out.1 (Nat.le_refl _) g8;have ct3:=(B8.cell (p:=⟨w1.heap.size,yn,none⟩) hPq).trans CT.out;have ft3:=(B8.frozen (p:=⟨w1.heap.size,yn,none⟩) hPq).trans FT.out;have hts:=(HTQ.out.below B8).set hynN o8.rd (by simp;omega) (by omega) (fun e=>by have:=HA2.out _ e;omega) hb82;have s8:=B8.size;have HB8:=hDD B8;simp only[List.length_append,List.length_cons,List.length_nil,Nat.zero_add] at hts;have HTS:=hDD hts;clear o8 g8 p8 hf8 B8 hts;have hgS:wv8.grownBy (wv8.setCell ⟨w1.heap.size,yn,none⟩ (.slice (some ⟨b8,0,none⟩) (wu.length+1) cap8)) (some w1.heap.size):=set_grown _ _ _ _;have HOS:Hid (OwI (wv8.setCell ⟨w1.heap.size,yn,none⟩ (.slice (some ⟨b8,0,none⟩) (wu.length+1) cap8)) (w1.heap.size+1) u7 om):=hDD ((HOQ.out.below HB8.out).far (p:=⟨w1.heap.size,yn,none⟩) (by show w1.heap.size<_;omega) _);have HRS:Hid (RdI (wv8.setCell ⟨w1.heap.size,yn,none⟩ (.slice (some ⟨b8,0,none⟩) (wu.length+1) cap8)) (.slice (some ⟨gl,0,none⟩) ls.length capl) ls):=hDD ((HRQ.out.below HB8.out).grown hgS fun b hb hb'=>by simp[Value.ownBlock] at hb hb';omega);have HBS:Hid (Below w1.heap.size wl (wv8.setCell ⟨w1.heap.size,yn,none⟩ (.slice (some ⟨b8,0,none⟩) (wu.length+1) cap8))):=hDD ((HQ.out.trans (HB8.out.mono (by omega))).setCell (by show w1.heap.size≤w1.heap.size;omega) _);clear hgS) | (at_builtin;refine push_int rfl (.tmp 64) (.tmp 66) rfl _ _ _ (OwI.alloc HOS.out _) rfl _ _ rfl (by simp[go_sem]) HY.out (by first | omega | (simp<;>omega)) (by first | omega | (simp<;>omega)) ?_;intro v9 wv9 o9 g9 p9))
       have hS:(wv8.setCell ⟨w1.heap.size,yn,none⟩ (.slice (some ⟨b8,0,none⟩) (wu.length+1) cap8)).heap.size=wv8.heap.size:=by simp
       have hz9:=g9.size
       simp at hz9
       go_roundw
       case rel=>
        refine⟨m+1,by omega,by go_num,by rw[HS.out,F.out];exact o9,by rw[HS.out,F.out];exact HTS.out.push g9 p9,(HRS.out.alloc _).grown g9 (fun b hb hb'=> ?_),fun e=> ?_,hnP,by omega,bel_push HBS.out (by omega) HOS.out.1 (by omega) g9⟩
        ·simp only[Value.ownBlock,Option.some.injEq] at hb
         subst hb
         exact HNR.out hb'
        ·rcases p9 with p9 | p9
         ·rw[p9] at e;exact HNR.out e
         ·rw[p9] at e;simp at e;omega
       case measure=>simp[intOf];omega
      ·have F:=hDD (N1.out hy0 h1)
       obtain⟨bu,capu,wu,cu,hwul,hru⟩:=HTQ.out.at_old hynN (hasB_iff.1 h1)
       clear hru
       go_wp2
       go_roundw
       case rel=>exact⟨m+1,by omega,by go_num,by rw[HS.out,F.out];exact HOQ.out,by rw[HS.out,F.out];exact HTQ.out,HRQ.out,HNR.out,hnP,by omega,HQ.out⟩
       case measure=>simp[intOf];omega
    ·obtain rfl:m=ls.length:=by omega
     rw[List.take_length] at hown HTW2
     have hokm:=HOKm.out ls.length
     rw[List.take_length] at hokm
     have HOKF:=hDD hokm
     have HOM:=hDD hown
     have hlen:k+1≤(ls.foldl (cstep g.2.2 u) o).length:=by
      have:=HPU.out ls.length
      rw[List.take_length] at this
      have:=(List.getElem?_eq_some_iff.1 this).1
      omega
     obtain⟨A2,cap2,rfl,_⟩:=hown.form
     clear hown hrd hne hokm p0 p1 p2
     go_wp2
     go_roundw
     case rel=>exact⟨k+1,_,hlen,by go_num,HOKF.out,HCF.out,HOM.out,HTW2.out,HB4.out⟩
     case measure=>simp[intOf];omega
  ·obtain rfl:k=o.length:=by omega
   have F:Hid (canO g=o):=hDD (by rw[HC.out,canF_end])
   clear hown hf2
   have HBW:Hid (Below w.heap.size w wo):=hDD (BX.out.trans (HB2.out.mono (by omega)))
   have HEX:=EX.out
   have hbase:w.heap.size≤w1.heap.size+1:=by omega
   clear HEX
   go_wp2
   exact bodyPost_ret (v:= .tuple #[.slice A1 o.length cap1, .slice (some ⟨w1.heap.size,0,none⟩) N N]) (by simp[results,Tryz.results110]) rfl ⟨_,_,rfl,by rw[F.out];exact HO.out.mono hbase,HBW.out⟩
end Go.Proofs.YtfadnkjlilhneaaGreat
