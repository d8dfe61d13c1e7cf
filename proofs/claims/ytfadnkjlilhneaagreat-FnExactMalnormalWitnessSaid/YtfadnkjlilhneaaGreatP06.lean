/- Parts of the proof: MalP, BasS, Fre, MalS. -/
import Derived.Test.YtfadnkjlilhneaaGreatP05
import Derived.Test.YtfadnkjlilhneaaGreatP04
import Derived.Deep.RegionHeld3
import Derived.Test.YtfadnkjlilhneaaGreatP01
namespace Go.Proofs.YtfadnkjlilhneaaGreat
set_option maxRecDepth 20000
set_option linter.unusedVariables false
set_option linter.unusedSimpArgs false
open Go.RowKit
theorem getD_atM {l:List Nat} {i d:Nat} (h:i<l.length):l.getD i d=l[i]:=by simp[h]
section
variable {a b:GrD} {A B:Nat} (h:Two a b A B) {r:Nat} (hr:r≤3)
include h hr
theorem prs_same {p q:Nat} (hp:p<A*B) (hq:q∈prsL a b A B (lettersL r) p): ∀z,z∈prsL a b A B (lettersL r) q↔z∈prsL a b A B (lettersL r) p:=by
 have hx:=fun x (hx:x∈lettersL r)=>(letters_ok hr x hx).1
 have hql:=prs_lt h hp q hq
 have fwd: ∀p q,p<A*B→q∈prsL a b A B (lettersL r) p→ ∀z∈prsL a b A B (lettersL r) q,z∈prsL a b A B (lettersL r) p:=fun p q hp hq=>
  bfs_all (S:=fun z=>z∈prsL a b A B (lettersL r) p) (fun z x y hz hxl hy=>prs_closed h hx hp z hz x y hxl hy) _ _ _ fun z hz=>by rw[List.mem_singleton.1 hz];exact hq
 have hback:p∈prsL a b A B (lettersL r) q:=by
  by_cases hpq:p∈prsL a b A B (lettersL r) q
  ·exact hpq
  ·exact absurd (prs_self h) (prs_out h (letters_ok hr) (M:=prsL a b A B (lettersL r) q) (fun z hz x y hxl hy=>prs_closed h hx hql z hz x y hxl hy) hpq q hq)
 exact fun z=>⟨fwd p q hp hq z,fwd q p hql hback z⟩
theorem prs_perm {p q:Nat} (hp:p<A*B) (hq:q∈prsL a b A B (lettersL r) p):(prsL a b A B (lettersL r) q).Perm (prsL a b A B (lettersL r) p):=
 (List.perm_ext_iff_of_nodup (prs_nodup _) (prs_nodup _)).2 (prs_same h hr hp hq)
omit h hr in
theorem pcs_from {k p:Nat} (hk:k≤A*B) (hp:p∈(pcs a b A B r k).1): ∃q,q<k∧q∉(pcs a b A B r q).1∧p∈prsL a b A B (lettersL r) q:=by
 induction k with
 | zero=>simp[pcs] at hp
 | succ k ih=>
   rw[pcs_succ] at hp
   unfold pst2 at hp
   split at hp
   ·obtain⟨q,h1,h2⟩:=ih (by omega) hp
    exact⟨q,by omega,h2⟩
   ·rename_i hn
    rcases List.mem_append.1 hp with q | q
    ·obtain⟨q,h1,h2⟩:=ih (by omega) q
     exact⟨q,by omega,h2⟩
    ·exact⟨k,by omega,hn,q⟩
omit h hr in
theorem pcs_pre {k n:Nat} (hkn:k≤n) {i:Nat} {d:PcD} (hi:(pcs a b A B r k).2[i]? =some d):(pcs a b A B r n).2[i]? =some d:=by
 obtain⟨m,rfl⟩: ∃m,n=k+m:=⟨n-k,by omega⟩
 induction m with
 | zero=>exact hi
 | succ m ih=>
   rw[←Nat.add_assoc,pcs_succ]
   unfold pst2
   have h1:=ih (by omega)
   split
   ·exact h1
   ·rw[List.getElem?_append_left (List.getElem?_eq_some_iff.1 h1).1]
    exact h1
theorem ixP_piece {p:Nat} (hp:p<A*B): ∃(c q:Nat) (d:PcD),ixP a b A B r p=(c:Int)∧(pcs a b A B r (A*B)).2[c]? =some d∧d.2.2.1=((prsL a b A B (lettersL r) p).length:Int)∧d.2.2.2.1=(edgL a.2.2 b.2.2 B r (prsL a b A B (lettersL r) p):Int)∧q<A*B:=by
 obtain⟨q,hq,hn,hm⟩:=pcs_from (Nat.le_refl _) (pcs_done h r (A*B) p hp)
 refine⟨(pcs a b A B r q).2.length,q,pcD a b A B r q,ixP_of h hr hq hn hm,pcs_pre (k:=q+1) (by omega) ?_,?_,?_,hq⟩
 ·rw[pcs_succ]
  unfold pst2
  rw[if_neg hn,List.getElem?_append_right (Nat.le_refl _)]
  simp
 ·show((prsL a b A B (lettersL r) q).length:Int)=_
  rw[(prs_perm h hr hq hm).length_eq]
 ·show(edgL a.2.2 b.2.2 B r (prsL a b A B (lettersL r) q):Int)=_
  unfold edgL
  rw[((prs_perm h hr hq hm).map _).sum_nat]
end
def okW (g:GrD) (N r p:Nat):Bool:=decide (p/N≠p%N)&&decide ((prsL g g N N (lettersL r) p).length≤edgL g.2.2 g.2.2 N r (prsL g g N N (lettersL r) p))
def fstW (g:GrD):Option Nat:=(List.range (g.2.1.toNat*g.2.1.toNat)).find? (okW g g.2.1.toNat g.1.toNat)
theorem srt_full {L:List EdD} (h:L.Nodup):(srt cmpE L).length=L.length:=by
 have hs:=srt_spec cmpE_ord L
 have hn:(srt cmpE L).Nodup:=hs.1.imp fun {x y} hxy e=>by rw[e,cmpE_zero.2 rfl] at hxy;omega
 exact((List.perm_ext_iff_of_nodup hn h).2 hs.2).length_eq
section
variable {a b:GrD} {u v:Nat}
theorem pb_conn (h1:foldB a=true) (h2:foldB b=true) (hu:(u:Int)<a.2.1) (hv:(v:Int)<b.2.1): ∀i,i<(pbP a b u v).length→Conn (pbG a b u v).2.2 0 (i:Int):=by
 have hT:=two_fold h1 h2
 have hg:=(grB_parts (foldB_parts h1).1).1
 have hr3:a.1.toNat≤3:=by omega
 have hA0:=(grB_parts (foldB_parts h1).1).2.1
 have hB0:=(grB_parts (foldB_parts h2).1).2.1
 have hp0:u*b.2.1.toNat+v<a.2.1.toNat*b.2.1.toNat:=pair_lt (by omega) (by omega)
 have hls: ∀x,x∈lettersL a.1.toNat→(-3≤x∧x≤3)∧ -x∈lettersL a.1.toNat:=letters_ok hr3
 have hmem: ∀e,e∈peL a.2.2 b.2.2 b.2.1.toNat a.1.toNat (pbP a b u v) (pbP a b u v).length→e∈(pbG a b u v).2.2:=fun e he=>((srt_spec cmpE_ord _).2 e).2 he
 have edge: ∀(p q:Nat) (x:Int),p∈pbP a b u v→q∈pbP a b u v→1≤x→x≤a.1.toNat→pnx a.2.2 b.2.2 b.2.1.toNat p x=some q→(((pbP a b u v).idxOf p:Int),x,((pbP a b u v).idxOf q:Int))∈(pbG a b u v).2.2:=fun p q x hp hq hx1 hx2 hn=>by
  refine hmem _ (peL_mem.2 ⟨(pbP a b u v).idxOf p,(x-1).toNat,List.idxOf_lt_length_of_mem hp,by omega,?_⟩)
  unfold peE
  rw[getD_atM (List.idxOf_lt_length_of_mem hp),List.getElem_idxOf,show(((x-1).toNat:Nat):Int)+1=x by omega,hn]
  rfl
 have key: ∀p∈pbP a b u v,p∈pbP a b u v∧Conn (pbG a b u v).2.2 0 ((pbP a b u v).idxOf p:Int):=by
  refine bfs_all (S:=fun p=>p∈pbP a b u v∧Conn (pbG a b u v).2.2 0 ((pbP a b u v).idxOf p:Int)) (fun p x q ⟨hp,hc⟩ hxl hn=> ?_) _ _ _ fun p hp=> ?_
  ·have hq:q∈pbP a b u v:=prs_closed hT (fun x hx=>(hls x hx).1) hp0 p hp x q hxl hn
   refine⟨hq,?_⟩
   rcases letters_mem.1 hxl with hx | hx
   ·exact Conn.fwd _ (edge p q x hp hq hx.1 hx.2 hn) hc
   ·have hb:=pnx_back hT (hls x hxl).1 hn
    exact Conn.back _ (edge q p (-x) hq hp (by omega) (by omega) hb) hc
  ·rw[List.mem_singleton.1 hp]
   have h0:(pbP a b u v)[0]? =some (u*b.2.1.toNat+v):=by
    have: ∀(f i:Nat) (o:List Nat),o[0]? =some (u*b.2.1.toNat+v)→(bfsF a.2.2 b.2.2 b.2.1.toNat (lettersL a.1.toNat) f i o)[0]? =some (u*b.2.1.toNat+v):=by
     intro f
     induction f with
     | zero=>intro i o ho;exact ho
     | succ f ih=>
       intro i o ho
       unfold bfsF
       cases o[i]? with
       | none=>exact ho
       | some q=>exact ih _ _ (pfold_prefix (a:=a) (b:=b) _ q o ho)
    exact this _ _ _ rfl
   have hm:u*b.2.1.toNat+v∈pbP a b u v:=List.mem_of_getElem? h0
   refine⟨hm,?_⟩
   have:(pbP a b u v).idxOf (u*b.2.1.toNat+v)=0:=by
    cases hl:pbP a b u v with
    | nil=>rw[hl] at h0;simp at h0
    | cons z l=>rw[hl] at h0;simp at h0;subst h0;simp
   rw[this]
   exact Conn.base
 intro i hi
 have:=(key (pbP a b u v)[i] (List.getElem_mem hi)).2
 have hj:=List.idxOf_lt_length_of_mem (List.getElem_mem hi)
 have e:(pbP a b u v).idxOf (pbP a b u v)[i]=i:=nodup_inj (prs_nodup _) hj hi (List.getElem_idxOf hj)
 rwa [e] at this
theorem ext_pos {g:GrD} (hf:foldB g=true) (hall: ∀y,0≤y∧y<g.2.1→y∈canO g) (hE:g.2.1≤(g.2.2.length:Int)):extL g≠ []:=fun h0=>by
 obtain⟨hg,hfo⟩:=foldB_parts hf
 have hN:=(grB_parts hg).2.1
 have hx: ∀e∈g.2.2,exB g e=false:=fun e he=>by
  cases hb:exB g e with
  | false=>rfl
  | true=>
    have:e∈extL g:=List.mem_filter.2 ⟨he,hb⟩
    rw[h0] at this
    cases this
 have hsub:g.2.2 ⊆ (List.range (g.2.1.toNat-1)).map fun (i:Nat)=>tE g ((i:Int)+1):=fun e he=>by
  obtain⟨y,hy,hy0,rfl⟩:=(tE_iff hg hfo he).2 (hx e he)
  have hr:=(canO_ok hg).2.1 y hy
  refine List.mem_map.2 ⟨(y-1).toNat,List.mem_range.2 (by omega),?_⟩
  rw[show(((y-1).toNat:Nat):Int)+1=y by omega]
 have:=(gr_nodup hg).2.length_le_of_subset hsub
 simp at this
 omega
theorem pb_ext (h1:foldB a=true) (h2:foldB b=true) (hu:(u:Int)<a.2.1) (hv:(v:Int)<b.2.1) (hok:pbOk a b u v=true) (hE:(pbP a b u v).length≤edgL a.2.2 b.2.2 b.2.1.toNat a.1.toNat (pbP a b u v)):
  extL (pbG a b u v)≠ []∧ ∀y,0≤y∧y<(pbG a b u v).2.1→y∈canO (pbG a b u v):=by
 have hf:=pbG_fold h1 h2 hu hv hok
 have hall: ∀y,0≤y∧y<(pbG a b u v).2.1→y∈canO (pbG a b u v):=fun y hy=>by
  have hs:(pbG a b u v).2.1=((pbP a b u v).length:Int):=rfl
  have:=canO_conn hf (pb_conn h1 h2 hu hv y.toNat (by omega))
  rwa [show((y.toNat:Nat):Int)=y by omega] at this
 refine⟨ext_pos hf hall ?_,hall⟩
 have hl:(pbG a b u v).2.2.length=edgL a.2.2 b.2.2 b.2.1.toNat a.1.toNat (pbP a b u v):=by
  have e1:=pbG_len (a:=a) (b:=b) (u:=u) (v:=v) h1 h2
  rw[←e1]
  exact srt_full (peL_nodup _ _ _ _ _ _)
 rw[hl]
 show((pbP a b u v).length:Int)≤_
 omega
end
end Go.Proofs.YtfadnkjlilhneaaGreat
namespace Go.Proofs.YtfadnkjlilhneaaGreat
set_option maxRecDepth 20000
set_option linter.unusedVariables false
set_option linter.unusedSimpArgs false
open Go.RowKit
set_option maxHeartbeats 2000000 in
theorem l10Tree_any (v:Value) (g:GrD) (w:World) (h:ArgG w v g) (hf:foldB g=true):
  Calls Tryz.prog 60 #[v] w fun e w'=> ∃r T,e= .returned r∧OwE w' w.heap.size r T∧TrE g (canO g) T∧T.length≤40∧Below w.heap.size w w':=by
 have HG:=hDD h
 obtain⟨hg,hfol⟩:=foldB_parts hf
 have HF:=hDD hf
 have ONE:=hDD (steps_one hfol)
 obtain⟨hr13,hsz40,hl120,_⟩:=grB_parts hg
 obtain⟨A,cap,hv⟩: ∃A cap,v= .agg #[.int .i64 g.1, .int .i64 g.2.1, .slice A g.2.2.length cap]:=by
  obtain⟨s,hv,_,_,ha⟩:=h
  obtain⟨A,cap,rfl⟩:=ha.form
  exact⟨A,cap,hv⟩
 subst hv
 obtain⟨rn,hrn⟩: ∃rn:Nat,g.1=(rn:Int):=⟨g.1.toNat,by omega⟩
 have hrn1:1≤rn:=by omega
 have hrn3:rn≤3:=by omega
 have hrt:g.1.toNat=rn:=by omega
 have HCO:Hid (canO g=canF g.2.2 (lettersL rn) 41 0 [0]):=hDD (by unfold canO;rw[hrn];rfl)
 have OK0:=hDD (OrdOk.one (n:=g.2.1) (by omega))
 have OKS:Hid (∀(u:Int) (o:List Int) (k:Nat),OrdOk g.2.1 o→OrdOk g.2.1 (((lettersL rn).take k).foldl (cstep g.2.2 u) o)):=hDD fun u o k h=>cfold_take_ok hg _ k h
 have OKL:Hid (∀o:List Int,OrdOk g.2.1 o→o.length≤40):=hDD fun o h=>h.len (by omega) (by omega)
 have NV:Hid (∀u x,nextV g.2.2 u x= -1∨(0≤nextV g.2.2 u x∧nextV g.2.2 u x<41)):=hDD fun u x=>by
  rcases nextV_range hg u x with e | e
  ·exact .inl e
  ·exact .inr ⟨e.1,by omega⟩
 have HUR:Hid (∀(o:List Int) (k:Nat) (u:Int),OrdOk g.2.1 o→o[k]? =some u→0≤u∧u<41):=hDD fun o k u h hk=>by
  have:=h.2.1 u (List.mem_of_getElem? hk)
  omega
 have HXR:Hid (∀(m:Nat) (hm:m<(lettersL rn).length),-3≤(lettersL rn)[m]∧(lettersL rn)[m]≤3):=hDD fun m hm=>let3 hg (by rw[hrt];exact List.getElem_mem hm)
 have HTW0:Hid (TwS g (lettersL rn) 0 [0]):=hDD (by rw[←hrt];exact TwS.zero g)
 have HTWS:Hid (∀(k:Nat) (o:List Int) (u:Int),TwS g (lettersL rn) k o→o[k]? =some u→k<41→TwS g (lettersL rn) (k+1) ((lettersL rn).foldl (cstep g.2.2 u) o)):=hDD fun k o u h1 h2 h3=>h1.step h2 h3
 have HTR0:Hid (TrE g [0] []):=hDD fun e=>⟨fun h=>(by cases h),fun ⟨y,hy,h0,_⟩=>absurd (List.mem_singleton.1 hy) h0⟩
 have HNEW:Hid (∀(k:Nat) (o:List Int) (u:Int) (m:Nat) (hm:m<(lettersL rn).length) (T:List EdD),TwS g (lettersL rn) k o→o[k]? =some u→k<41→OrdOk g.2.1 (((lettersL rn).take m).foldl (cstep g.2.2 u) o)→TrE g (((lettersL rn).take m).foldl (cstep g.2.2 u) o) T→0≤nextV g.2.2 u (lettersL rn)[m]→hasB (((lettersL rn).take m).foldl (cstep g.2.2 u) o) (nextV g.2.2 u (lettersL rn)[m])=false→
   TrE g (((lettersL rn).take m).foldl (cstep g.2.2 u) o++ [nextV g.2.2 u (lettersL rn)[m]]) (insF cmpE T (if 0<(lettersL rn)[m] then(u,(lettersL rn)[m],nextV g.2.2 u (lettersL rn)[m]) else(nextV g.2.2 u (lettersL rn)[m],-(lettersL rn)[m],u)))):=hDD fun k o u m hm T h1 h2 h3 h4 h5 h6 h7=>by
  refine h5.add ?_ fun e=> ?_
  ·intro e0
   rw[e0] at h7
   exact hasB_not h7 (List.mem_of_getElem? h4.2.2)
  ·rw[insF_eq,insR_mem _ _ cmpE_ord,tE_new hg hfol (by rw[hrt];exact List.getElem_mem hm) h6 rfl (h1.new hg h2 h3 hm h6 h7)]
 have HRN:=hDD hrn
 clear hg hf hfol h hrn hrt
 have hr1:1≤g.1∧g.1≤3:=hr13
 clear hsz40 hl120 hr13
 go_enter Tryz.func60,Tryz.ntmps60
 go_wp2_with fail
 obtain⟨W1,hW1⟩: ∃W,W=w.alloc (Obj.cells #[Value.int IntKind.i64 g.1,Value.int IntKind.i64 g.2.1, .slice A g.2.2.length cap] 31):=⟨_,rfl⟩
 obtain⟨hs1,b1,hc1⟩:=gboxE hW1
 obtain⟨W,hW⟩: ∃W,W=W1.alloc (Obj.cells #[] 54):=⟨_,rfl⟩
 have b2:Below W1.heap.size W1 W:=by rw[hW];exact(Below.refl _ _).alloc (Nat.le_refl _) _
 have hsW:W.heap.size=w.heap.size+2:=by rw[hW];simp;omega
 have o0:OwE W (w.heap.size+1) (.slice (some ⟨w.heap.size+1,0,none⟩) 0 0) []:=by rw[hW];exact OwE_litN W1 (w.heap.size+1) hs1 (Nat.le_refl _)
 rw[←hW1,←hW]
 have BX:Hid (Below w.heap.size w W):=hDD (b1.trans (b2.mono (by omega)))
 have B12:=hDD (b2.mono (show w.heap.size+1≤W1.heap.size by omega))
 have HC1:=hDD hc1
 have HCL:Hid (∀w',Below (w.heap.size+1) W w'→w'.cell? ⟨w.heap.size,0,none⟩=some (.int .i64 g.1)∧w'.cell? ⟨w.heap.size,1,none⟩=some (.int .i64 g.2.1)∧w'.cell? ⟨w.heap.size,2,none⟩=some (.slice A g.2.2.length cap)):=hDD fun w' hb=>HC1.out w' (B12.out.trans hb)
 have HA:Hid (∀w',Below (w.heap.size+1) W w'→ArgG w' (.agg #[.int .i64 g.1, .int .i64 g.2.1, .slice A g.2.2.length cap]) g):=hDD fun w' hb=>HG.out.below (BX.out.trans (hb.mono (by omega)))
 have HBW:Hid (∀w',Below (w.heap.size+1) W w'→Below w.heap.size w w'):=hDD fun w' hb=>BX.out.trans (hb.mono (by omega))
 have O0:=hDD o0
 clear hW1 hW hc1 b1 b2 HC1 o0
 have hfo:=specIsFolded_any _ g W (HA.out W ((Below.refl W.heap.size W).mono (by omega)))
 rw[HF.out] at hfo
 refine hfo.mono ?_
 clear hfo
 rintro e w2 ⟨rfl,b2⟩
 have hs2:=b2.size
 have B2:Hid (Below (w.heap.size+1) W w2):=hDD (b2.mono (by omega))
 have OE2:=hDD (O0.out.below b2)
 clear b2
 obtain⟨q0,q1,q2⟩:=HCL.out w2 B2.out
 have hq0:w.heap.size<w2.heap.size:=by omega
 go_wp2_with fail
 obtain⟨w3,hw3⟩: ∃w3,w3=w2.alloc (Obj.cells #[Value.int IntKind.i64 0] 3):=⟨_,rfl⟩
 have b23:Below w2.heap.size w2 w3:=by rw[hw3];exact(Below.refl _ _).alloc (Nat.le_refl _) _
 have o3:OwI w3 w2.heap.size (.slice (some ⟨w2.heap.size,0,none⟩) 1 1) [0]:=by rw[hw3];exact OwI_lit w2 [0] (fun x hx=>by simp at hx;subst hx;exact⟨by decide,by decide⟩) (by simp) (Nat.le_refl _)
 have hs3:w3.heap.size=w2.heap.size+1:=by rw[hw3];simp
 have HW3:=hDD hw3
 clear hw3
 try rw[←HW3.out]
 have hle:=l5Letters_any rn w3 (by omega)
 rw[←HRN.out] at hle
 have HLE:=hDD hle
 clear hle
 refine HLE.out.mono ?_
 rintro e w4 ⟨rl,rfl,ol,b4⟩
 have hs4:=b4.size
 have b24:=b23.trans (b4.mono (by omega))
 have B4:Hid (Below (w.heap.size+1) W w4):=hDD (B2.out.trans (b24.mono (by omega)))
 have O4:=hDD ((o3.below b4).mono (base':=w.heap.size+1) (by omega))
 have OE4:=hDD (OE2.out.below b24)
 have hll:=lettersL_len rn
 generalize lettersL rn=ls at*
 obtain⟨Al,capl,rfl,hcl,hml,_,hfl⟩:=ol.form
 obtain⟨bl,rfl,hbl1,hbl2⟩:=hfl (by omega)
 unfold maxLen at hml
 have OL:=hDD ol.rd
 have hblw:bl≠w2.heap.size:=by omega
 clear ol b4 b23 b24 o3 q0 q1 q2 hfl HLE hq0
 have hs24:w2.heap.size<w4.heap.size:=by omega
 clear hs3
 go_wp2
 go_loopw [3,4,6] (fun vt out i wo=> ∃(k:Nat) (o:List Int) (T:List EdD),k≤o.length∧i= .int .i64 k∧OrdOk g.2.1 o∧canO g=canF g.2.2 ls (41-k) k o∧TwS g ls k o∧TrE g o T∧T.length≤o.length∧OwE wo (w.heap.size+1) vt T∧(∀b,vt.ownBlock=some b→out.ownBlock≠some b)∧OwI wo (w.heap.size+1) out o∧RdI wo (.slice (some ⟨bl,0,none⟩) ls.length capl) ls∧out.ownBlock≠some bl∧bl<wo.heap.size∧Below (w.heap.size+1) W wo) (fun _ _ i _=>41-(intOf i).toNat)
 case atStart=>exact⟨0,[0],[],by simp,rfl,OK0.out,HCO.out,HTW0.out,HTR0.out,by simp,OE4.out,fun b hb=>by simp[Value.ownBlock] at hb⊢;omega,O4.out,OL.out,by simp[Value.ownBlock];omega,hbl2,B4.out⟩
 case round=>
  obtain⟨k,o,T,hk,rfl,hok,hco,htw,htr,htl,hte,htb,hown,hrd,hne,hblt,hbel⟩:=hrel
  obtain⟨wo,rfl⟩: ∃wo:World,wo=wr:=⟨_,rfl⟩
  have hol:=OKL.out o hok
  have HOK:=hDD hok
  have HC:=hDD hco
  have HTW:=hDD htw
  have HTR:=hDD htr
  have HTE:=hDD hte
  have HTB:=hDD htb
  have HO:=hDD hown
  have HRD:=hDD hrd
  have HNE:=hDD hne
  have HB:=hDD hbel
  have hsz:=hbel.size
  obtain⟨A1,cap1,rfl,_⟩:=hown.form
  obtain⟨At,capt,rfl,_⟩:=hte.form
  clear hok hco htw htr hte htb hown hrd hne hbel
  by_cases hlt:k<o.length
  ·obtain⟨u,hu⟩: ∃u,o[k]? =some u:=⟨o[k],by simp⟩
   have hku:o[k]=u:=by rw[List.getElem?_eq_getElem hlt] at hu;injection hu
   have hur:=HUR.out o k u HOK.out hu
   have HCF:Hid (canO g=canF g.2.2 ls (41-(k+1)) (k+1) (ls.foldl (cstep g.2.2 u) o)):=hDD (by
    rw[HC.out,show 41-k=(41-(k+1))+1 by omega,canF_step _ _ _ _ _ hlt,hku])
   have HPU:Hid (∀m:Nat,(((ls.take m).foldl (cstep g.2.2 u) o))[k]? =some u):=hDD fun m=>cfold_prefix _ _ _ _ _ _ hu
   have HSU:Hid (∀(m:Nat) (hm:m<ls.length),(ls.take (m+1)).foldl (cstep g.2.2 u) o=cstep g.2.2 u ((ls.take m).foldl (cstep g.2.2 u) o) ls[m]):=hDD fun m hm=>cfold_succ _ _ _ _ _ hm
   have HOKm:Hid (∀m:Nat,OrdOk g.2.1 ((ls.take m).foldl (cstep g.2.2 u) o)):=hDD fun m=>OKS.out u o m HOK.out
   have HNM:Hid (∀(m:Nat) (hm:m<ls.length) (T:List EdD),TrE g ((ls.take m).foldl (cstep g.2.2 u) o) T→0≤nextV g.2.2 u ls[m]→hasB ((ls.take m).foldl (cstep g.2.2 u) o) (nextV g.2.2 u ls[m])=false→TrE g ((ls.take m).foldl (cstep g.2.2 u) o++ [nextV g.2.2 u ls[m]]) (insF cmpE T (if 0<ls[m] then(u,ls[m],nextV g.2.2 u ls[m]) else(nextV g.2.2 u ls[m],-ls[m],u)))):=hDD fun m hm T h5 h6 h7=>HNEW.out k o u m hm T HTW.out hu (by omega) (HOKm.out m) h5 h6 h7
   have HTWN:=hDD (HTWS.out k o u HTW.out hu (by omega))
   clear hu hku
   go_wp2
   go_loopw [3,4,7] (fun vt out j wr=> ∃(m:Nat) (T:List EdD),m≤ls.length∧j= .int .i64 m∧TrE g ((ls.take m).foldl (cstep g.2.2 u) o) T∧T.length≤((ls.take m).foldl (cstep g.2.2 u) o).length∧OwE wr (w.heap.size+1) vt T∧(∀b,vt.ownBlock=some b→out.ownBlock≠some b)∧OwI wr (w.heap.size+1) out ((ls.take m).foldl (cstep g.2.2 u) o)∧RdI wr (.slice (some ⟨bl,0,none⟩) ls.length capl) ls∧out.ownBlock≠some bl∧bl<wr.heap.size∧Below (w.heap.size+1) W wr) (fun _ _ j _=>ls.length-(intOf j).toNat)
   case atStart=>exact⟨0,T,Nat.zero_le _,rfl,HTR.out,htl,HTE.out,HTB.out,HO.out,HRD.out,HNE.out,hblt,HB.out⟩
   case round=>
    obtain⟨m,T1,hm1,rfl,htr,htl1,hte,htb,hown,hrd,hne,hblr,hbi⟩:=hrel
    obtain⟨wj,rfl⟩: ∃wj:World,wj=wr:=⟨_,rfl⟩
    have hsi:=hbi.size
    have HBI:=hDD hbi
    have HTR1:=hDD htr
    have HTE1:=hDD hte
    have HTB1:=hDD htb
    have HRR:=hDD hrd
    have HNR:=hDD hne
    obtain⟨A3,cap3,rfl,_⟩:=hte.form
    clear hbi htr hte htb
    by_cases hlt2:m<ls.length
    ·have hokm:=HOKm.out m
     have hlm:=OKL.out _ hokm
     have hpu:=HPU.out m
     have HS:=hDD (HSU.out m hlt2)
     have HNT:=hDD (HNM.out m hlt2 T1 HTR1.out)
     have hxr:=HXR.out m hlt2
     obtain⟨_,_,hAl,_,hcl⟩:=hrd.at (by omega)
     obtain⟨rfl,rfl⟩:bl=_∧0=_:=by simpa using hAl
     have c0:=hcl m hlt2
     rw[Nat.zero_add] at c0
     have HXL:Hid (∀w',RdI w' (.slice (some ⟨bl,0,none⟩) ls.length capl) ls→w'.cell? ⟨bl,m,none⟩=some (.int .i64 ls[m])):=hDD fun w' h=>by
      obtain⟨_,_,hAl,_,hcl⟩:=h.at (by omega)
      obtain⟨rfl,rfl⟩:bl=_∧0=_:=by simpa using hAl
      have:=hcl m hlt2
      rwa [Nat.zero_add] at this
     generalize ls[m]=x at*
     generalize (ls.take m).foldl (cstep g.2.2 u) o=om at*
     have hkm:k<om.length:=(List.getElem?_eq_some_iff.1 hpu).1
     have hkg:om[k]=u:=by rw[List.getElem?_eq_getElem hkm] at hpu;injection hpu
     have HOM:=hDD hown
     obtain⟨A2,cap2,rfl,_,_,_,hf2⟩:=hown.form
     obtain⟨b2,rfl,hb21,hb22⟩:=hf2 (by omega)
     have d0:=hown.cellAt k hkm
     rw[hkg] at d0
     have NX:=hDD (NV.out u x)
     have N0:=hDD (cstep_no (es:=g.2.2) (u:=u) (x:=x) (o:=om))
     have N1:=hDD (cstep_in (es:=g.2.2) (u:=u) (x:=x) (o:=om))
     have N2:=hDD (cstep_new (es:=g.2.2) (u:=u) (x:=x) (o:=om))
     have HNX:=hDD (fun W (h:ArgG W (.agg #[.int .i64 g.1, .int .i64 g.2.1, .slice A g.2.2.length cap]) g)=>specNextVertex_any _ g u x W h (ONE.out u x))
     obtain⟨p0,p1,p2⟩:=HCL.out wj HBI.out
     have hws:w.heap.size<wj.heap.size:=by omega
     have HPO:Hid (om++ [nextV g.2.2 u x]≠ []∧(om++ [nextV g.2.2 u x])[k]? =some u∧(om++ [nextV g.2.2 u x]).length=om.length+1):=hDD ⟨by simp,by rw[List.getElem?_append_left hkm];exact hpu,by simp⟩
     clear hcl hAl hown hrd hf2 hpu hkg hokm
     go_wp2_with fail
     have f0:=BelW.cell p0 hws
     have f1:=BelW.cell p1 hws
     have f2:=BelW.cell p2 hws
     have f3:=BelW.cell c0 hblr
     have f4:=BelW.cell d0 hb22
     (refine wp_region_quiet_bel (by kernel_rfl) (by kernel_rfl) ?_;(repeat(go_big_quiet_step (first | (go_at_call 58;exact Calls.bel_of (HNX.out _ (HA.out _ (HBI.out.trans ((BelW.h _).mono (by omega)))))))));refine wpQuiet_nil ?_;intro wq hw';obtain⟨pq,hw''⟩:=hw';have bq:=pq.h;rw[←hw''] at bq;clear hw'' pq)
     clear f0 f1 f2 f3 f4 p0 p1 p2 c0 d0
     have sq:=bq.size
     have HQ:=hDD (HBI.out.trans (bq.mono (by omega)))
     have HOQ:=hDD (HOM.out.below bq)
     have HRQ:=hDD (HRR.out.below bq)
     have HTQ:=hDD (HTE1.out.below bq)
     clear bq
     generalize nextV g.2.2 u x=y at*
     rcases NX.out with hy | hy
     ·subst hy
      have F:=hDD (N0.out (by omega))
      go_wp2
      go_roundw
      case rel=>exact⟨m+1,T1,by omega,by go_num,by rw[HS.out,F.out];exact HTR1.out,by rw[HS.out,F.out];exact htl1,HTQ.out,HTB1.out,by rw[HS.out,F.out];exact HOQ.out,HRQ.out,HNR.out,by omega,HQ.out⟩
      case measure=>simp[intOf];omega
     ·have hy0:(0:Int)≤y:=hy.1
      have hy41:y<41:=hy.2
      go_wp2_with fail
      refine(l4Has_any _ om y _ HOQ.out.rd.arg (by omega)).mono ?_
      rintro e' w' ⟨rfl,rfl⟩
      rcases h1:hasB om y with _ | _
      ·have F:=hDD (N2.out hy0 h1)
       have HT2:=hDD (HNT.out hy0 h1)
       have HY:Hid (I64 y):=hDD ⟨by omega,by omega⟩
       have htl2:=fun e=>insF_len (c:=cmpE) T1 e
       have HTL2:=hDD htl2
       clear htl2
       obtain⟨OY,hOY⟩: ∃OY,OY=om++ [y]:=⟨_,rfl⟩
       rw[←hOY] at HPO F HT2
       have HEQ:=hDD hOY.symm
       have hoyl:=HPO.out.2.2
       have hoyl1:om.length+1≤OY.length:=by omega
       have hoyl2:OY.length≤om.length+1:=by omega
       have hkI:(k:Int)<(OY.length:Int):=by omega
       clear hoyl
       have HKO:Hid (∀(h:k<OY.length),OY[k]=u):=hDD fun h=>by
        have:=HPO.out.2.1
        rw[List.getElem?_eq_getElem h] at this
        injection this
       have HCE:Hid (∀(w':World) (base:Nat) (b:Nat) (c:Nat) (n:Nat) (h:OwI w' base (.slice (some ⟨b,0,none⟩) n c) OY),w'.cell? ⟨b,k,none⟩=some (.int .i64 u)):=hDD fun w' base b c n h=>by
        obtain⟨A0,c0,e0,_⟩:=OwI.form h
        injection e0 with e1 e2 e3
        subst e1 e2 e3
        have h1:=OwI.cellAt h k (by omega)
        rw[HKO.out] at h1
        exact h1
       clear hOY
       have hwx:IntKind.i64.wrap (-x)= -x:=by rw[IntKind.wrap_i64];omega
       rcases Int.lt_or_le 0 x with hx0 | hx0
       ·have HPT:=hDD (fun (W':World) (h':ArgE W' (.slice A3 T1.length cap3) T1)=>l4Put_any _ T1 (u,x,y) W' h' ⟨⟨by simp only;omega,by simp only;omega⟩,⟨by simp only;omega,by simp only;omega⟩,⟨by simp only;omega,by simp only;omega⟩⟩ (by omega))
        unfold edV at HPT
        have HTF:Hid (TrE g OY (insF cmpE T1 (u,x,y))):=hDD (by have h:=HT2.out;rwa [if_pos hx0] at h)
        go_wp2_with (at_builtin;refine push_int rfl (.tmp 47) (.tmp 49) rfl _ _ _ (OwI.alloc HOQ.out _) rfl _ _ rfl (cell_new1 _ _ _) HY.out (by first | omega | (simp<;>omega)) (by first | omega | (simp<;>omega)) ?_;intro v9 wv9 o9 g9 p9;rw[HEQ.out] at o9;have hz9:=g9.size;simp at hz9;have HR9:=hDD ((HRQ.out.alloc (.cells #[.int .i64 y] 3)).grown g9 (fun b hb hb'=>by first | exact HNR.out (hb'.trans hb.symm) | exact HNR.out (hb.trans hb'.symm) | (simp[Value.ownBlock] at hb hb';done) | (simp[Value.ownBlock] at hb hb';have:=HNR.out;simp[Value.ownBlock] at this;omega)));have x9:=HXL.out wv9 HR9.out;have HB9:=hDD (bel_push HQ.out (by omega) HOQ.out.1 (Nat.le_refl _) g9);have HN9:Hid (v9.ownBlock≠some bl):=hDD (fun e=>p9.elim (fun h=>HNR.out (h.symm.trans e)) (fun h=>by have h3:=Option.some.inj (h.symm.trans e);first | omega | (simp at h3;done) | (simp at h3;omega)));have HT9:=hDD ((HTQ.out.alloc (.cells #[.int .i64 y] 3)).keep (fun b hb=>g9.block b (by have:=(HTQ.out.1.lt b hb).2;first | omega | (simp<;>omega)) (fun e=>HTB1.out b hb e.symm)));have O9:=hDD o9;obtain⟨A9,c9,rfl,_,_,_,hf9⟩:=OwI.form o9;obtain⟨b9,rfl,hb91,hb92⟩:=hf9 (by omega);have d9:wv9.cell? ⟨b9,k,none⟩=some (.int .i64 u):=HCE.out wv9 _ _ _ _ o9;have hbl9:bl<wv9.heap.size:=(by omega);clear o9 g9 p9 hf9)
        go_region_held3 (fun w'=>w'.cell? ⟨b9,k,none⟩=some (.int .i64 u)∧w'.cell? ⟨bl,m,none⟩=some (.int .i64 x))
         (first | go_keep | exact⟨s0,s1⟩)
         (first | (go_at_call 59;(with_reducible refine(HPT.out _ HT9.out.drew.arg).mono ?_);rintro e w10 ⟨r10,rfl,o10,b10⟩;have O10:=hDD o10;have B10:Hid (Below wv9.heap.size wv9 w10):=hDD ((Below.refl wv9.heap.size wv9).drew.trans (b10.mono (Nat.le_refl _)));have s0:=(B10.out.cell (p:=⟨b9,k,none⟩) hb92).trans d9;have s1:=(B10.out.cell (p:=⟨bl,m,none⟩) hbl9).trans x9;clear o10 b10))
        have hs10:=B10.out.size
        have hTL:=HTL2.out (u,x,y)
        go_wp2
        go_roundw
        case rel=>exact⟨m+1,_,by omega,by go_num,by rw[HS.out,F.out];exact HTF.out,by rw[HS.out,F.out];omega,O10.out.mono (show w.heap.size+1≤wv9.heap.size by omega),fun b hb e=>by
         have h1:=(O10.out.1.lt b hb).1
         simp[Value.ownBlock] at e
         have h2:wv9.heap.size≤b:=h1
         omega,by rw[HS.out,F.out];exact O9.out.below B10.out,HR9.out.below B10.out,HN9.out,by omega,HB9.out.trans (B10.out.mono (by omega))⟩
        case measure=>simp[intOf];omega
       ·have HPT:=hDD (fun (W':World) (h':ArgE W' (.slice A3 T1.length cap3) T1)=>l4Put_any _ T1 (y,-x,u) W' h' ⟨⟨by simp only;omega,by simp only;omega⟩,⟨by simp only;omega,by simp only;omega⟩,⟨by simp only;omega,by simp only;omega⟩⟩ (by omega))
        unfold edV at HPT
        have HTF:Hid (TrE g OY (insF cmpE T1 (y,-x,u))):=hDD (by have h:=HT2.out;rwa [if_neg (by omega)] at h)
        go_wp2_with (at_builtin;refine push_int rfl (.tmp 47) (.tmp 49) rfl _ _ _ (OwI.alloc HOQ.out _) rfl _ _ rfl (cell_new1 _ _ _) HY.out (by first | omega | (simp<;>omega)) (by first | omega | (simp<;>omega)) ?_;intro v9 wv9 o9 g9 p9;rw[HEQ.out] at o9;have hz9:=g9.size;simp at hz9;have HR9:=hDD ((HRQ.out.alloc (.cells #[.int .i64 y] 3)).grown g9 (fun b hb hb'=>by first | exact HNR.out (hb'.trans hb.symm) | exact HNR.out (hb.trans hb'.symm) | (simp[Value.ownBlock] at hb hb';done) | (simp[Value.ownBlock] at hb hb';have:=HNR.out;simp[Value.ownBlock] at this;omega)));have x9:=HXL.out wv9 HR9.out;have HB9:=hDD (bel_push HQ.out (by omega) HOQ.out.1 (Nat.le_refl _) g9);have HN9:Hid (v9.ownBlock≠some bl):=hDD (fun e=>p9.elim (fun h=>HNR.out (h.symm.trans e)) (fun h=>by have h3:=Option.some.inj (h.symm.trans e);first | omega | (simp at h3;done) | (simp at h3;omega)));have HT9:=hDD ((HTQ.out.alloc (.cells #[.int .i64 y] 3)).keep (fun b hb=>g9.block b (by have:=(HTQ.out.1.lt b hb).2;first | omega | (simp<;>omega)) (fun e=>HTB1.out b hb e.symm)));have O9:=hDD o9;obtain⟨A9,c9,rfl,_,_,_,hf9⟩:=OwI.form o9;obtain⟨b9,rfl,hb91,hb92⟩:=hf9 (by omega);have d9:wv9.cell? ⟨b9,k,none⟩=some (.int .i64 u):=HCE.out wv9 _ _ _ _ o9;have hbl9:bl<wv9.heap.size:=(by omega);clear o9 g9 p9 hf9)
        go_region_held3 (fun w'=>w'.cell? ⟨b9,k,none⟩=some (.int .i64 u)∧w'.cell? ⟨bl,m,none⟩=some (.int .i64 x))
         (first | go_keep | exact⟨s0,s1⟩)
         (first | (go_at_call 59;(with_reducible refine(HPT.out _ HT9.out.drew.arg).mono ?_);rintro e w10 ⟨r10,rfl,o10,b10⟩;have O10:=hDD o10;have B10:Hid (Below wv9.heap.size wv9 w10):=hDD ((Below.refl wv9.heap.size wv9).drew.trans (b10.mono (Nat.le_refl _)));have s0:=(B10.out.cell (p:=⟨b9,k,none⟩) hb92).trans d9;have s1:=(B10.out.cell (p:=⟨bl,m,none⟩) hbl9).trans x9;clear o10 b10))
        have hs10:=B10.out.size
        have hTL:=HTL2.out (y,-x,u)
        go_wp2
        go_roundw
        case rel=>exact⟨m+1,_,by omega,by go_num,by rw[HS.out,F.out];exact HTF.out,by rw[HS.out,F.out];omega,O10.out.mono (show w.heap.size+1≤wv9.heap.size by omega),fun b hb e=>by
         have h1:=(O10.out.1.lt b hb).1
         simp[Value.ownBlock] at e
         have h2:wv9.heap.size≤b:=h1
         omega,by rw[HS.out,F.out];exact O9.out.below B10.out,HR9.out.below B10.out,HN9.out,by omega,HB9.out.trans (B10.out.mono (by omega))⟩
        case measure=>simp[intOf];omega
      ·have F:=hDD (N1.out hy0 h1)
       go_wp2
       go_roundw
       case rel=>exact⟨m+1,T1,by omega,by go_num,by rw[HS.out,F.out];exact HTR1.out,by rw[HS.out,F.out];exact htl1,HTQ.out,HTB1.out,by rw[HS.out,F.out];exact HOQ.out,HRQ.out,HNR.out,by omega,HQ.out⟩
       case measure=>simp[intOf];omega
    ·obtain rfl:m=ls.length:=by omega
     have HTT:Hid (ls.take ls.length=ls):=hDD List.take_length
     rw[List.take_length] at hown htl1 HTR1
     have hokm:=HOKm.out ls.length
     rw[List.take_length] at hokm
     have HOKF:=hDD hokm
     have HOM:=hDD hown
     have hlen:k+1≤(ls.foldl (cstep g.2.2 u) o).length:=by
      have:=HPU.out ls.length
      rw[List.take_length] at this
      have:=(List.getElem?_eq_some_iff.1 this).1
      omega
     obtain⟨A2,cap2,rfl,_⟩:=hown.form
     clear hown hrd hne hokm
     go_wp2
     go_roundw
     case rel=>exact⟨k+1,_,T1,hlen,by go_num,HOKF.out,HCF.out,HTWN.out,HTR1.out,htl1,HTE1.out,HTB1.out,HOM.out,HRR.out,HNR.out,hblr,HBI.out⟩
     case measure=>simp[intOf];omega
  ·obtain rfl:k=o.length:=by omega
   have F:Hid (canO g=o):=hDD (by rw[HC.out,canF_end])
   go_wp2
   go_ret
   exact⟨_,T,rfl,HTE.out.mono (by omega),by rw[F.out];exact HTR.out,by omega,HBW.out _ HB.out⟩
set_option maxHeartbeats 2000000 in
theorem specExtraEdges_any (v:Value) (g:GrD) (w:World) (h:ArgG w v g) (hf:foldB g=true):
  Calls Tryz.prog 30 #[v] w fun e w'=> ∃r,e= .returned r∧OwE w' w.heap.size r (extL g)∧Below w.heap.size w w':=by
 have HG:=hDD h
 have HF:=hDD hf
 obtain⟨hg,hfol⟩:=foldB_parts hf
 obtain⟨hr13,hsz40,hl120,_⟩:=grB_parts hg
 have HEX:Hid (∀T,TrE g (canO g) T→ ∀e∈g.2.2,exB g e= !decide (e∈T)):=hDD fun T hT e he=>by
  have h1:=hT.ext hf he
  rcases ex:exB g e with _ | _
  ·rw[decide_eq_true (h1.2 ex)];rfl
  ·rw[decide_eq_false (fun hm=>by rw[h1.1 hm] at ex;cases ex)];rfl
 have HXL:Hid (extL g=g.2.2.filter (exB g)):=hDD rfl
 obtain⟨s,rfl,hi1,hi2,ha⟩:=h
 obtain⟨A,cap,rfl⟩:=ha.form
 have HTREE:=hDD (fun W' (h:ArgG W' (.agg #[.int .i64 g.1, .int .i64 g.2.1, .slice A g.2.2.length cap]) g)=>l10Tree_any _ g W' h hf)
 obtain⟨g1,n,es⟩:=g
 simp only at*
 clear ha hf hg hfol
 obtain⟨XB,hXB⟩: ∃X,X=exB (g1,n,es):=⟨_,rfl⟩
 rw[←hXB] at HEX HXL
 clear hXB
 go_enter Tryz.func30,Tryz.ntmps30
 go_wp2_with fail
 obtain⟨W,hW⟩: ∃W,W=w.alloc (Obj.cells #[Value.int IntKind.i64 g1,Value.int IntKind.i64 n, .slice A es.length cap] 31):=⟨_,rfl⟩
 obtain⟨hsW,b1,hc1⟩:=gboxE hW
 rw[←hW]
 have BX:=hDD b1
 have HCL:=hDD hc1
 have HA:Hid (∀w',Below (w.heap.size+1) W w'→ArgG w' (.agg #[.int .i64 g1, .int .i64 n, .slice A es.length cap]) (g1,n,es)):=hDD fun w' hb=>HG.out.below (BX.out.trans (hb.mono (by omega)))
 have HBW:Hid (∀w',Below (w.heap.size+1) W w'→Below w.heap.size w w'):=hDD fun w' hb=>BX.out.trans (hb.mono (by omega))
 have HFO:=hDD (fun W' (h:ArgG W' (.agg #[.int .i64 g1, .int .i64 n, .slice A es.length cap]) (g1,n,es))=>specIsFolded_any _ (g1,n,es) W' h)
 rw[HF.out] at HFO
 clear hW hc1 b1
 refine(HTREE.out W (HA.out W ((Below.refl W.heap.size W).mono (by omega)))).mono ?_
 rintro e w3 ⟨r3,T,rfl,o3,htr,hT40,b3⟩
 have hs3:=b3.size
 have hsw3:w.heap.size<w3.heap.size:=by omega
 have B3:Hid (Below (w.heap.size+1) W w3):=hDD (b3.mono (by omega))
 have OT3:=hDD o3
 have HEXT:=hDD (HEX.out T htr)
 obtain⟨At,ct,rfl,hct,hmt,_⟩:=o3.form
 unfold maxLen at hmt
 clear o3 htr b3
 go_wp2
 go_loopw [4,5] (fun vo i wr=> ∃k:Nat,k≤es.length∧i= .int .i64 k∧OwE wr w3.heap.size vo ((es.take k).filter XB)∧Below w3.heap.size w3 wr) (fun _ i _=>es.length-(intOf i).toNat)
 case atStart=>exact⟨0,Nat.zero_le _,rfl,by simpa using OwE_litN w3 w3.heap.size rfl (Nat.le_refl _),(Below.refl _ _).alloc (Nat.le_refl _) _⟩
 case round=>
  obtain⟨k,hk,rfl,ho,hb⟩:=hrel
  have HO:=hDD ho
  have HB:=hDD hb
  have HBI:Hid (Below (w.heap.size+1) W wr):=hDD (B3.out.trans (hb.mono (by omega)))
  obtain⟨wi,rfl⟩: ∃wi:World,wi=wr:=⟨_,rfl⟩
  have hwi:=hb.size
  clear ho hb
  have hfl:((es.take k).filter XB).length≤120:=by
   have h1:=List.length_filter_le XB (es.take k)
   rw[List.length_take] at h1
   omega
  obtain⟨Ao,co,rfl,_⟩:=OwE.form HO.out
  obtain⟨q0,q1,q2⟩:=HCL.out wi HBI.out
  by_cases hlt:k<es.length
  ·have HTK:=hDD (take_filterE XB es k hlt)
   have HXE:=hDD (HEXT.out es[k] (List.getElem_mem hlt))
   have hkI:(k:Int)<(es.length:Int):=by omega
   generalize (es.take k).filter XB=LO at*
   go_wp2_with fail
   refine(HFO.out wi (HA.out wi HBI.out)).mono ?_
   rintro e w5 ⟨rfl,b5⟩
   have hs5:=b5.size
   have HO5:=hDD (HO.out.below b5)
   have HB5:Hid (Below w3.heap.size w3 w5):=hDD (HB.out.trans (b5.mono (by omega)))
   have HBI5:Hid (Below (w.heap.size+1) W w5):=hDD (B3.out.trans (HB5.out.mono (by omega)))
   clear b5 q0 q1 q2
   obtain⟨q0,q1,q2⟩:=HCL.out w5 HBI5.out
   obtain⟨_,_,hIN,hAE,_,_⟩:=(HA.out w5 HBI5.out).inner
   injection hIN with e1 e2 e3
   subst e1 e3
   clear e2
   obtain⟨b,off,rfl,hbl,c0,c1,c2,he64⟩:=hAE.at hlt
   have HE64:=hDD he64
   generalize es[k]=E at*
   obtain⟨e1,e2,e3⟩:=E
   simp only at*
   clear hAE he64
   have HEQ:Hid (∀(y:EdD) (w:World),(binOp .eql 54 (edV y) (edV (e1,e2,e3))).run Tryz.prog w= .ok (.bool (decide (y=(e1,e2,e3)))) w):=hDD fun y w=>edge_eql y (e1,e2,e3) w
   have hgd:=edge_guard
   have HMT:Hid (∀m (hm:m<T.length),decide ((e1,e2,e3)∈T.take (m+1))=(decide ((e1,e2,e3)∈T.take m)||decide (T[m]=(e1,e2,e3)))):=hDD fun m hm=>by
    rw[List.take_succ_eq_append_getElem hm,Bool.eq_iff_iff]
    simp only[List.mem_append,List.mem_singleton,decide_eq_true_eq,Bool.or_eq_true]
    exact⟨fun h=>h.imp_right Eq.symm,fun h=>h.imp_right Eq.symm⟩
   have HOT5:=hDD (OT3.out.below HB5.out)
   go_wp2
   go_loopw [6,7] (fun f j wr=> ∃m:Nat,m≤T.length∧j= .int .i64 m∧f= .bool (decide ((e1,e2,e3)∈T.take m))∧ ∃q,wr=w5.drewN q) (fun _ j _=>T.length-(intOf j).toNat)
   case atStart=>exact⟨0,Nat.zero_le _,rfl,by simp,0,rfl⟩
   case round=>
    obtain⟨m,hm,rfl,rfl,q,rfl⟩:=hrel
    by_cases hlt2:m<T.length
    ·have HMm:=hDD (HMT.out m hlt2)
     have hmI:(m:Int)<(T.length:Int):=by omega
     rcases ef:decide ((e1,e2,e3)∈T.take m) with _ | _
     rotate_left
     ·have F:Hid (decide ((e1,e2,e3)∈T.take (m+1))=true):=hDD (by rw[HMm.out,ef];rfl)
      clear ef
      go_wp2
      go_quiet (fail)
      go_wp2
      go_roundw
      case rel=>exact⟨m+1,by omega,by go_num,by rw[F.out],_,rfl⟩
      case measure=>simp[intOf];omega
     ·obtain⟨bt,offt,rfl,hbt,d0,d1,d2,_⟩:=HOT5.out.arg.at hlt2
      have heql:=fun w=>HEQ.out T[m] w
      unfold edV at heql
      obtain⟨be,hbe⟩: ∃be,be=decide (T[m]=(e1,e2,e3)):=⟨_,rfl⟩
      rw[←hbe] at heql
      have F:Hid (decide ((e1,e2,e3)∈T.take (m+1))=be):=hDD (by rw[HMm.out,ef,←hbe];rfl)
      clear hbe ef
      generalize T[m]=y at*
      obtain⟨y1,y2,y3⟩:=y
      simp only at*
      go_wp2
      go_quiet (fail)
      go_wp2
      go_roundw
      case rel=>exact⟨m+1,by omega,by go_num,by rw[F.out],_,rfl⟩
      case measure=>simp[intOf];omega
    ·obtain rfl:m=T.length:=by omega
     have B6:Below w5.heap.size w5 (w5.drewN q):=bel_drewN (Below.refl _ _) q
     generalize w5.drewN q=w6 at*
     have hs6:=B6.size
     have HO6:=hDD (HO5.out.below B6)
     have HB6:Hid (Below w3.heap.size w3 w6):=hDD (HB5.out.trans (B6.mono (by omega)))
     have HBI6:Hid (Below (w.heap.size+1) W w6):=hDD (B3.out.trans (HB6.out.mono (by omega)))
     have c0:=(B6.cell (p:=⟨b,off+k*3,none⟩) hbl).trans c0
     have c1:=(B6.cell (p:=⟨b,off+k*3+1,none⟩) hbl).trans c1
     have c2:=(B6.cell (p:=⟨b,off+k*3+2,none⟩) hbl).trans c2
     clear q0 q1 q2 B6
     obtain⟨q0,q1,q2⟩:=HCL.out w6 HBI6.out
     have HTT:Hid (decide ((e1,e2,e3)∈T.take T.length)=decide ((e1,e2,e3)∈T)):=hDD (by rw[List.take_length])
     have hw36:w3.heap.size≤w6.heap.size:=by omega
     rcases ed:decide ((e1,e2,e3)∈T.take T.length) with _ | _
     ·have HT2:Hid ((es.take (k+1)).filter XB=LO++ [(e1,e2,e3)]):=hDD (by rw[HTK.out,HXE.out,←HTT.out,ed];rfl)
      clear ed
      go_wp2_with (at_builtin;refine push_edge rfl (.tmp 43) (.tmp 49) rfl w3.heap.size _ _ (HO6.out.alloc _) rfl _ (e1,e2,e3) rfl (edC_new _ _ _) HE64.out (by omega) (by first | omega | (simp<;>omega)) ?_;intro v7 wv7 o7 g7 p7;have O7:=hDD o7;have B7:=hDD (bel_pushE HB6.out hw36 HO6.out (Nat.le_refl _) g7);clear o7 g7 p7)
      go_roundw
      case rel=>exact⟨k+1,by omega,by go_num,by rw[HT2.out];exact O7.out,B7.out⟩
      case measure=>simp[intOf];omega
     ·have HT2:Hid ((es.take (k+1)).filter XB=LO):=hDD (by rw[HTK.out,HXE.out,←HTT.out,ed];rfl)
      clear ed
      go_wp2
      go_roundw
      case rel=>exact⟨k+1,by omega,by go_num,by rw[HT2.out];exact HO6.out,HB6.out⟩
      case measure=>simp[intOf];omega
  ·obtain rfl:k=es.length:=by omega
   rw[List.take_length] at HO hfl
   have HBF:=hDD (HBW.out wi HBI.out)
   go_wp2
   go_ret
   exact⟨_,rfl,by rw[HXL.out];rw[List.take_length];exact HO.out.mono (by omega),HBF.out⟩
def snL (n:Nat) (o:List Int):List Bool:=(List.range n).map fun q:Nat=>decide ((q:Int)∈o)
theorem snL_len (n:Nat) (o:List Int):(snL n o).length=n:=by simp[snL]
theorem snL_get (n:Nat) (o:List Int) (q:Nat) (h:q<n):(snL n o)[q]'(by rw[snL_len];exact h)=decide ((q:Int)∈o):=by simp[snL]
theorem snL_nil (n:Nat):snL n []=List.replicate n false:=by
 refine List.ext_getElem (by simp[snL]) fun i h1 h2=> ?_
 simp[snL]
theorem snL_set (n:Nat) (o:List Int) (y:Nat):(snL n o).set y true=snL n (o++ [(y:Int)]):=by
 refine List.ext_getElem (by simp[snL]) fun i h1 h2=> ?_
 rw[List.getElem_set]
 simp only[snL,List.getElem_map,List.getElem_range,List.mem_append,List.mem_singleton]
 by_cases h:y=i
 ·subst h;simp
 ·rw[if_neg h]
  have: ¬(i:Int)=(y:Int):=by omega
  simp[this]
theorem TreeX.other {f:Int→List Int} {bb P N:Nat} {w w9:World} {ord:Value} {o:List Int} (h:TreeX f bb P N w ord o) {S:Nat} (hg:w.grownBy w9 (some S)) (hS:S<P):TreeX f bb P N w9 ord o:=by
 obtain⟨vs,h1,h2,h3⟩:=h.ex
 have hs9:=hg.size
 refine⟨⟨vs,h1,h2.kept hg (.inr fun e=>by simp[Value.ownBlock] at e;omega),fun j hj=> ?_⟩,h.ne⟩
 rcases h3 j hj with h4 | ⟨h4,b,cap,e1,e2,e3,e4,e5,e6⟩
 ·exact .inl h4
 ·refine .inr ⟨h4,b,cap,e1,e2,e3.grown hg fun x hx hx'=> ?_,e4,e5,by omega⟩
  rw[e1] at hx
  simp[Value.ownBlock] at hx hx'
  omega
theorem TreeX.base {f:Int→List Int} {bb bb' P N:Nat} {w:World} {ord:Value} {o:List Int} (h:TreeX f bb P N w ord o) (hb:bb'≤bb):TreeX f bb' P N w ord o:=by
 obtain⟨vs,h1,h2,h3⟩:=h.ex
 refine⟨⟨vs,h1,⟨h2.1,?_⟩,h3⟩,h.ne⟩
 rcases h2.2 with h0 | ⟨g,cap,cur,hv,hg,r⟩
 ·exact .inl h0
 ·exact .inr ⟨g,cap,cur,hv,Nat.le_trans hb hg,r⟩
set_option maxHeartbeats 4000000 in
theorem l5Search_any (v:Value) (g:GrD) (w:World) (h:ArgG w v g) (hf:foldB g=true):
  Calls Tryz.prog 94 #[v, .int .i64 0] w fun e w'=> ∃S P ord,e= .returned (.tuple #[.slice (some ⟨S,0,none⟩) g.2.1.toNat g.2.1.toNat, .slice (some ⟨P,0,none⟩) g.2.1.toNat g.2.1.toNat])∧OwB w' w.heap.size (.slice (some ⟨S,0,none⟩) g.2.1.toNat g.2.1.toNat) (snL g.2.1.toNat (canO g))∧TreeX (wdO g) w.heap.size P g.2.1.toNat w' ord (canO g)∧Below w.heap.size w w':=by
 have HG:=hDD h
 obtain⟨hg,hfol⟩:=foldB_parts hf
 have ONE:=hDD (steps_one hfol)
 obtain⟨hr13,hsz40,hl120,_⟩:=grB_parts hg
 obtain⟨A,cap,hv⟩: ∃A cap,v= .agg #[.int .i64 g.1, .int .i64 g.2.1, .slice A g.2.2.length cap]:=by
  obtain⟨s,hv,_,_,ha⟩:=h
  obtain⟨A,cap,rfl⟩:=ha.form
  exact⟨A,cap,hv⟩
 subst hv
 obtain⟨N,hN⟩: ∃N:Nat,g.2.1=(N:Int):=⟨g.2.1.toNat,by omega⟩
 obtain⟨rn,hrn⟩: ∃rn:Nat,g.1=(rn:Int):=⟨g.1.toNat,by omega⟩
 have hrn1:1≤rn:=by omega
 have hrn3:rn≤3:=by omega
 have hN1:1≤N:=by omega
 have hN2:N≤40:=by omega
 have HCO:Hid (canO g=canF g.2.2 (lettersL rn) 41 0 [0]):=hDD (by unfold canO;rw[hrn];rfl)
 have HZ:Hid (wdO g 0= []):=hDD (wd_zero hg)
 have HS0:Hid (TwS g (lettersL rn) 0 [0]):=hDD (by have h:=TwS.zero g;rwa [hrn] at h)
 have HNW:Hid (∀(k:Nat) (o:List Int) (u:Int),TwS g (lettersL rn) k o→o[k]? =some u→k<41→ ∀(m:Nat) (hm:m<(lettersL rn).length),0≤nextV g.2.2 u (lettersL rn)[m]→hasB (((lettersL rn).take m).foldl (cstep g.2.2 u) o) (nextV g.2.2 u (lettersL rn)[m])=false→wdO g (nextV g.2.2 u (lettersL rn)[m])=wdO g u++ [(lettersL rn)[m]]):=hDD fun k o u h1 h2 h3 m hm h4 h5=>h1.new hg h2 h3 hm h4 h5
 have OK0:=hDD (OrdOk.one (n:=g.2.1) (by omega))
 have OKS:Hid (∀(u:Int) (o:List Int) (k:Nat),OrdOk g.2.1 o→OrdOk g.2.1 (((lettersL rn).take k).foldl (cstep g.2.2 u) o)):=hDD fun u o k h=>cfold_take_ok hg _ k h
 have OKL:Hid (∀o:List Int,OrdOk g.2.1 o→o.length≤40):=hDD fun o h=>h.len (by omega) (by omega)
 have OKR:Hid (∀o:List Int,OrdOk g.2.1 o→ ∀y∈o,0≤y∧y<N):=hDD fun o h y hy=>by have:=h.2.1 y hy;omega
 have NV:Hid (∀u x,nextV g.2.2 u x= -1∨(0≤nextV g.2.2 u x∧nextV g.2.2 u x<N)):=hDD fun u x=>by
  rcases nextV_range hg u x with e | e
  ·exact .inl e
  ·exact .inr ⟨e.1,by omega⟩
 have hll:=lettersL_len rn
 have HLE:Hid (∀W:World,Calls Tryz.prog 83 #[.int .i64 g.1] W fun e w'=> ∃r,e= .returned r∧OwI w' W.heap.size r (lettersL rn)∧Below W.heap.size W w'):=hDD fun W=>by
  rw[hrn]
  exact l5Letters_any rn W (by omega)
 generalize lettersL rn=ls at*
 obtain⟨F,hF⟩: ∃F,F=wdO g:=⟨_,rfl⟩
 rw[←hF] at HZ HNW⊢
 replace hF:=hDD hF
 rw[hN] at HG
 clear hg hf hfol h hrn
 have hr1:1≤g.1∧g.1≤3:=hr13
 clear hsz40 hl120 hr13
 rw[hN]
 simp only[Int.toNat_natCast]
 obtain⟨W1,hW1⟩: ∃W,W=w.alloc (Obj.cells #[Value.int IntKind.i64 g.1,Value.int IntKind.i64 (N:Int), .slice A g.2.2.length cap] 31):=⟨_,rfl⟩
 obtain⟨hs1,b1,hc1⟩:=gboxE hW1
 have BX:=hDD b1
 have HCL:=hDD hc1
 have HA:Hid (∀w',Below (w.heap.size+1) W1 w'→ArgG w' (.agg #[.int .i64 g.1, .int .i64 (N:Int), .slice A g.2.2.length cap]) g):=hDD fun w' hb=>HG.out.below (BX.out.trans (hb.mono (by omega)))
 obtain⟨i0,hi0,hz0,hz1,hz2⟩:=info_parts bool_info
 have HS1:=hDD hs1
 have HW1:=hDD hW1
 clear hW1 hc1 b1 hs1
 go_enter Tryz.func94,Tryz.ntmps94
 go_wp2_with (at_make;refine wpList_make_full _ rfl _ _ 96 rfl (w.heap.size+1) 4 i0 (.bool false) 1 Tryz.underlying96 hi0 hz0 hz1 _ _ _ _ N rfl rfl rfl rfl (by rw[hz2];omega) (by unfold maxLen;omega) (by simp) ?_)
 rw[←HW1.out]
 rw[←HS1.out]
 have hs1a:w.heap.size+1≤W1.heap.size:=by rw[HS1.out];exact Nat.le_refl _
 have hs1b:W1.heap.size≤w.heap.size+1:=by rw[HS1.out];exact Nat.le_refl _
 intro w2 hownS hgS0
 have sownS:OwB w2 W1.heap.size (.slice (some ⟨W1.heap.size,0,none⟩) N N) (snL N []):=by
  unfold OwB
  rw[snL_len,snL_nil]
  have:bools (List.replicate N false)=List.replicate N (Value.bool false):=by simp[bools]
  rw[this]
  simpa[toList_madeCells_one] using hownS
 have hS2:W1.heap.size<w2.heap.size:=(sownS.lt W1.heap.size rfl).2
 have B12:Below W1.heap.size W1 w2:=(Below.refl W1.heap.size W1).grown hgS0 (Nat.le_refl _) (fun k h=>by cases h)
 have BW2:Below (w.heap.size+1) W1 w2:=B12.mono (by omega)
 clear hownS hgS0 hi0 hz0 hz1 hz2
 obtain⟨q0,q1,q2⟩:=HCL.out w2 BW2
 obtain⟨i1,hi0,hz0,hz1,hz2⟩:=info_parts ints_info'
 have hPS:W1.heap.size<w2.heap.size:=hS2
 have SO2:=hDD sownS
 have HB2:=hDD BW2
 clear sownS BW2 B12
 go_wp2_with (at_make;refine wpList_make_full _ rfl _ _ 57 rfl w2.heap.size 26 i1 (.slice none 0 0) 1 Tryz.underlying57 hi0 hz0 hz1 _ _ _ _ N rfl rfl rfl rfl (by rw[hz2];omega) (by unfold maxLen;omega) (Nat.le_refl _) ?_)
 intro w3 hownP hgP0
 have hP3:w2.heap.size<w3.heap.size:=(hownP.lt w2.heap.size rfl).2
 have B23:Below w2.heap.size w2 w3:=(Below.refl w2.heap.size w2).grown hgP0 (Nat.le_refl _) (fun k h=>by cases h)
 have TW0:TreeX F w2.heap.size w2.heap.size N w3 (.slice none 0 0) []:=⟨⟨List.replicate N (.slice none 0 0),by simp,by simpa[toList_madeCells_one] using hownP,fun j hj=> .inl ⟨by simp,by simp⟩⟩,by simp[Value.ownBlock]⟩
 have SO3:=SO2.out.below B23
 have HB3:Below (w.heap.size+1) W1 w3:=HB2.out.trans (B23.mono (by omega))
 obtain⟨P,hP⟩: ∃P,P=w2.heap.size:=⟨_,rfl⟩
 obtain⟨S,hS⟩: ∃S,S=W1.heap.size:=⟨_,rfl⟩
 rw[←hP] at TW0 hP3 hPS
 rw[←hS] at SO3 hPS
 rw[←hP,←hS]
 have hSw:w.heap.size<S:=by omega
 have cs0:=SO3.cellAt 0 (by rw[snL_len];omega)
 rw[snL_get N [] 0 (by omega)] at cs0
 have fs0:=SO3.free 0
 have gS:=SO3.set 0 true
 rw[snL_set] at gS
 have jN:(0:Int)<(N:Int):=by omega
 have GS:=hDD gS
 have HB3':=hDD HB3
 have TW0':=hDD TW0
 clear gS hP hS SO2 SO3 HB2 HB3 TW0 B23 hownP hgP0 q0 q1 q2 hi0 hz0 hz1 hz2
 have gS1:=GS.out.2
 have TWS:=TW0'.out.other gS1 hPS
 obtain⟨w4,hw4⟩: ∃w4,w4=w3.setCell ⟨S,0,none⟩ (.bool true):=⟨_,rfl⟩
 rw[←hw4] at TWS gS1
 have hs4:w4.heap.size=w3.heap.size:=by rw[hw4];simp
 have SO4:OwB w4 S (.slice (some ⟨S,0,none⟩) N N) (snL N ([]++ [((0:Nat):Int)])):=by rw[hw4];exact GS.out.1
 have HB4:Below (w.heap.size+1) W1 w4:=HB3'.out.grown gS1 (by have:=HB3'.out.size;omega) (fun c hc=>by injection hc with hc;omega)
 have HW4:=hDD hw4
 have TW1:TreeX F P P N (w4.alloc (.cells #[] 3)) (.slice none 0 0) []:=TWS.below ((Below.refl _ _).alloc (Nat.le_refl _) _)
 have oE:OwI (w4.alloc (.cells #[] 3)) w4.heap.size (.slice (some ⟨w4.heap.size,0,none⟩) 0 0) []:=OwI_lit w4 [] (fun _ h=>by cases h) (by simp) (Nat.le_refl _)
 have TW2:=TW1.set (y:=0) (by omega) HZ.out (b:=w4.heap.size) (cap:=0) (ws:= []) oE.rd (by simp) (by omega) (by simp[Value.ownBlock]) (by simp)
 have hc0:=TW1.at_new (y:=0) (by omega) (by simp)
 have hf0:=TW1.free 0
 rw[HW4.out] at hc0 hf0
 have TW2':=hDD TW2
 have SO4':=hDD SO4
 have HB4':=hDD HB4
 have hHB5:=HB4.setCell (p:=⟨P,0,none⟩) (by show w.heap.size+1≤P;omega) (.slice (some ⟨w3.heap.size,0,none⟩) 0 0)
 have hHB6:=((hHB5.alloc (by have:=hHB5.size;omega) (.cells #[] 3)).alloc (by have:=hHB5.size;simp;omega) (.cells #[.int .i64 0] 3))
 have qx:=(HCL.out _ hHB6).1
 have qy:=(HCL.out _ hHB5).1
 rw[HW4.out] at qx qy
 have HB6:=hDD hHB6
 have HB5:=hDD hHB5
 clear gS1 TWS hw4 SO4 HB4 TW1 oE TW2 hHB5 hHB6
 go_wp2_with fail
 obtain⟨w5,hw5⟩: ∃w5,w5=((((w3.setCell ⟨S,0,none⟩ (.bool true)).setCell ⟨P,0,none⟩ (.slice (some ⟨w3.heap.size,0,none⟩) 0 0)).alloc (.cells #[] 3)).alloc (.cells #[Value.int IntKind.i64 0] 3)):=⟨_,rfl⟩
 rw[←hw5]
 have B5:Below (w.heap.size+1) W1 w5:=by rw[hw5,←HW4.out];exact HB6.out
 have hs34:w4.heap.size=w3.heap.size:=hs4
 have e5:w5=((w4.alloc (.cells #[] 3)).setCell ⟨P,0,none⟩ (.slice (some ⟨w4.heap.size,0,none⟩) 0 0)).alloc (.cells #[Value.int IntKind.i64 0] 3):=by
  rw[hw5,←HW4.out,hs34,World.setCell_alloc_past _ _ _ _ (show P<w4.heap.size by omega)]
 have e3:((w4.alloc (.cells #[] 3)).setCell ⟨P,0,none⟩ (.slice (some ⟨w4.heap.size,0,none⟩) 0 0)).heap.size=w3.heap.size+1:=by simp[hs34]
 have TW5:TreeX F P P N w5 (.slice (some ⟨w3.heap.size+1,0,none⟩) 1 1) [0]:=by
  have h:=TW2'.out.lit (.cells #[Value.int IntKind.i64 0] 3) 1 1
  simp only[List.length_nil,List.nil_append] at h
  rw[e3] at h
  rw[e5]
  simpa using h
 have O5:OwI w5 (P+1) (.slice (some ⟨w3.heap.size+1,0,none⟩) 1 1) [0]:=by
  rw[e5]
  exact OwI_litN _ [0] (w3.heap.size+1) e3 (fun x hx=>by simp at hx;subst hx;exact⟨by decide,by decide⟩) (by simp) (by omega)
 have SN5:OwB w5 S (.slice (some ⟨S,0,none⟩) N N) (snL N [0]):=by
  rw[hw5,←HW4.out]
  have h:OwB (w4.setCell ⟨P,0,none⟩ (.slice (some ⟨w3.heap.size,0,none⟩) 0 0)) S (.slice (some ⟨S,0,none⟩) N N) (snL N ([]++ [((0:Nat):Int)])):=World.ownsRow.kept SO4'.out (set_grown _ P 0 _) (.inr fun e=>by simp[Value.ownBlock] at e;omega)
  simp only[List.nil_append,Int.ofNat_zero,Int.natCast_zero] at h
  exact(h.alloc _).alloc _
 have hs5:w3.heap.size+2≤w5.heap.size:=by rw[e5];simp[hs34]
 have HB5':=hDD B5
 have HO5:=hDD O5
 have HT5:=hDD TW5
 have HSN5:=hDD SN5
 clear hw5 e5 e3 TW5 O5 SN5 B5 HB6 HB5 hs34 hc0 hf0 qx qy cs0 fs0 TW2' SO4' HB4' GS
 refine(HLE.out w5).mono ?_
 rintro e wl ⟨rl,rfl,ol,bl⟩
 have sl:=bl.size
 obtain⟨Al,capl,rfl,hcl,hml,_,hfl⟩:=ol.form
 obtain⟨gl,rfl,hgl1,hgl2⟩:=hfl (by omega)
 unfold maxLen at hml
 have OL:=hDD ol.rd
 have HBL:Hid (Below (w.heap.size+1) W1 wl):=hDD (HB5'.out.trans (bl.mono (by have:=HB5'.out.size;omega)))
 have HOL:=hDD (HO5.out.below bl)
 have HTL:=hDD (HT5.out.below bl)
 have HSNL:=hDD (HSN5.out.below bl)
 have hne0:w3.heap.size+1≠gl:=by omega
 have hPg:P<gl:=by omega
 clear hfl ol bl HLE
 go_wp2
 go_loopw [8,10] (fun out i wo=> ∃(k:Nat) (o:List Int),k≤o.length∧i= .int .i64 k∧OrdOk g.2.1 o∧TwS g ls k o∧canO g=canF g.2.2 ls (41-k) k o∧OwI wo (P+1) out o∧TreeX F P P N wo out o∧OwB wo S (.slice (some ⟨S,0,none⟩) N N) (snL N o)∧RdI wo (.slice (some ⟨gl,0,none⟩) ls.length capl) ls∧out.ownBlock≠some gl∧gl<wo.heap.size∧Below (w.heap.size+1) W1 wo) (fun _ i _=>41-(intOf i).toNat)
 case atStart=>exact⟨0,[0],by simp,rfl,OK0.out,HS0.out,HCO.out,HOL.out,HTL.out,HSNL.out,OL.out,by simp[Value.ownBlock];omega,hgl2,HBL.out⟩
 case round=>
  obtain⟨k,o,hk,rfl,hok,hts0,hco,hown,htw,hsn,hrd,hne,hglt,hbel⟩:=hrel
  have HTS0:=hDD hts0
  clear hts0
  obtain⟨wo,rfl⟩: ∃wo:World,wo=wr:=⟨_,rfl⟩
  have hol:=OKL.out o hok
  have HOK:=hDD hok
  have HC:=hDD hco
  have HO:=hDD hown
  have HTW:=hDD htw
  have HSN:=hDD hsn
  have HRD:=hDD hrd
  have HNE:=hDD hne
  have HB2:=hDD hbel
  have hsz:=hbel.size
  obtain⟨A1,cap1,rfl,_,_,_,hf2⟩:=hown.form
  clear hok hco htw hbel hsn hrd hne
  by_cases hlt:k<o.length
  ·obtain⟨u,hu⟩: ∃u,o[k]? =some u:=⟨o[k],by simp⟩
   have hku:o[k]=u:=by rw[List.getElem?_eq_getElem hlt] at hu;injection hu
   have HCF:Hid (canO g=canF g.2.2 ls (41-(k+1)) (k+1) (ls.foldl (cstep g.2.2 u) o)):=hDD (by
    rw[HC.out,show 41-k=(41-(k+1))+1 by omega,canF_step _ _ _ _ _ hlt,hku])
   have HTS1:=hDD (HTS0.out.step hu (by omega))
   have HNW1:=hDD (HNW.out k o u HTS0.out hu (by omega))
   have HPU:Hid (∀m:Nat,(((ls.take m).foldl (cstep g.2.2 u) o))[k]? =some u):=hDD fun m=>cfold_prefix _ _ _ _ _ _ hu
   have HSU:Hid (∀(m:Nat) (hm:m<ls.length),(ls.take (m+1)).foldl (cstep g.2.2 u) o=cstep g.2.2 u ((ls.take m).foldl (cstep g.2.2 u) o) ls[m]):=hDD fun m hm=>cfold_succ _ _ _ _ _ hm
   have HOKm:Hid (∀m:Nat,OrdOk g.2.1 ((ls.take m).foldl (cstep g.2.2 u) o)):=hDD fun m=>OKS.out u o m HOK.out
   obtain⟨un,hun,hunN⟩: ∃un:Nat,u=(un:Int)∧un<N:=by
    have h1:=HOK.out.2.1 u (by rw[←hku];simp)
    exact⟨u.toNat,by omega,by omega⟩
   have HUN:=hDD hun
   clear hf2 hu hku hown hun
   go_wp2
   go_loopw [8,11] (fun out j wr=> ∃m:Nat,m≤ls.length∧j= .int .i64 m∧OwI wr (P+1) out ((ls.take m).foldl (cstep g.2.2 u) o)∧TreeX F P P N wr out ((ls.take m).foldl (cstep g.2.2 u) o)∧OwB wr S (.slice (some ⟨S,0,none⟩) N N) (snL N ((ls.take m).foldl (cstep g.2.2 u) o))∧RdI wr (.slice (some ⟨gl,0,none⟩) ls.length capl) ls∧out.ownBlock≠some gl∧gl<wr.heap.size∧Below (w.heap.size+1) W1 wr) (fun _ j _=>ls.length-(intOf j).toNat)
   case atStart=>exact⟨0,Nat.zero_le _,rfl,HO.out,HTW.out,HSN.out,HRD.out,HNE.out,hglt,HB2.out⟩
   case round=>
    obtain⟨m,hm1,rfl,hown,htw,hsn,hrd,hne,hblr,hbi⟩:=hrel
    obtain⟨wj,rfl⟩: ∃wj:World,wj=wr:=⟨_,rfl⟩
    have hsi:=hbi.size
    have HBI:=hDD hbi
    have HRR:=hDD hrd
    have HNR:=hDD hne
    have HTW2:=hDD htw
    have HSN2:=hDD hsn
    clear hbi htw hsn
    by_cases hlt2:m<ls.length
    ·have hokm:=HOKm.out m
     have hlm:=OKL.out _ hokm
     have hpu:=HPU.out m
     have HS:=hDD (HSU.out m hlt2)
     have HORm:=hDD (OKR.out _ hokm)
     obtain⟨_,_,hAl,_,hcl⟩:=hrd.at (by omega)
     obtain⟨rfl,rfl⟩:gl=_∧0=_:=by simpa using hAl
     have c0:=hcl m hlt2
     rw[Nat.zero_add] at c0
     have hx64:I64 ls[m]:=hrd.2 _ (by simp)
     have HNW2:=hDD (HNW1.out m hlt2)
     have HXL:Hid (∀w',RdI w' (.slice (some ⟨gl,0,none⟩) ls.length capl) ls→w'.cell? ⟨gl,m,none⟩=some (.int .i64 ls[m])):=hDD fun w' h=>by
      obtain⟨_,_,hAl,_,hcl⟩:=h.at (by omega)
      obtain⟨rfl,rfl⟩:gl=_∧0=_:=by simpa using hAl
      have:=hcl m hlt2
      rwa [Nat.zero_add] at this
     generalize ls[m]=x at c0 HS hx64 HNW2 HXL
     have HX64:=hDD hx64
     generalize (ls.take m).foldl (cstep g.2.2 u) o=om at*
     have hum:u∈om:=List.mem_of_getElem? hpu
     have HUM:=hDD hum
     have hkm:k<om.length:=(List.getElem?_eq_some_iff.1 hpu).1
     have hkg:om[k]=u:=by rw[List.getElem?_eq_getElem hkm] at hpu;injection hpu
     have HOM:=hDD hown
     obtain⟨A2,cap2,rfl,_,_,_,hf2⟩:=hown.form
     obtain⟨b2,rfl,hb21,hb22⟩:=hf2 (by omega)
     have d0:=hown.cellAt k hkm
     rw[hkg] at d0
     have HKG:Hid (∀w',OwI w' (P+1) (.slice (some ⟨b2,0,none⟩) om.length cap2) om→w'.cell? ⟨b2,k,none⟩=some (.int .i64 u)):=hDD fun w' h=>by
      have:=h.cellAt k hkm
      rwa [hkg] at this
     have NX:=hDD (NV.out u x)
     have N0:=hDD (cstep_no (es:=g.2.2) (u:=u) (x:=x) (o:=om))
     have N1:=hDD (cstep_in (es:=g.2.2) (u:=u) (x:=x) (o:=om))
     have N2:=hDD (cstep_new (es:=g.2.2) (u:=u) (x:=x) (o:=om))
     have HNX:=hDD (fun W (h:ArgG W (.agg #[.int .i64 g.1, .int .i64 (N:Int), .slice A g.2.2.length cap]) g)=>specNextVertex_any _ g u x W h (ONE.out u x))
     obtain⟨p0,p1,p2⟩:=HCL.out wj HBI.out
     have hws:w.heap.size<wj.heap.size:=by omega
     clear hcl hAl hown hrd hf2 hpu hkg hokm hx64 hum hne
     go_wp2_with fail
     have f0:=BelW.cell p0 hws
     have f1:=BelW.cell p1 hws
     have f2:=BelW.cell p2 hws
     have f3:=BelW.cell c0 hblr
     have f4:=BelW.cell d0 hb22
     (refine wp_region_quiet_bel (by kernel_rfl) (by kernel_rfl) ?_;(repeat(go_big_quiet_step (first | (go_at_call 58;exact Calls.bel_of (HNX.out _ (HA.out _ (HBI.out.trans ((BelW.h _).mono (by omega)))))))));refine wpQuiet_nil ?_;intro wq hw';obtain⟨pq,hw''⟩:=hw';have bq:=pq.h;rw[←hw''] at bq;clear hw'' pq)
     clear f0 f1 f2 f3 f4 p0 p1 p2 c0 d0
     have sq:=bq.size
     have HQ:=hDD (HBI.out.trans (bq.mono (by omega)))
     have HOQ:=hDD (HOM.out.below bq)
     have HRQ:=hDD (HRR.out.below bq)
     have HTQ:=hDD (HTW2.out.below bq)
     have HSQ:=hDD (HSN2.out.below bq)
     clear bq
     generalize nextV g.2.2 u x=y at*
     rcases NX.out with hy | hy
     ·subst hy
      have F0:=hDD (N0.out (by omega))
      go_wp2
      go_roundw
      case rel=>exact⟨m+1,by omega,by go_num,by rw[HS.out,F0.out];exact HOQ.out,by rw[HS.out,F0.out];exact HTQ.out,by rw[HS.out,F0.out];exact HSQ.out,HRQ.out,HNR.out,by omega,HQ.out⟩
      case measure=>simp[intOf];omega
     ·obtain⟨yn,rfl⟩: ∃yn:Nat,y=(yn:Int):=⟨y.toNat,by omega⟩
      have hy0:(0:Int)≤(yn:Int):=hy.1
      have hyN:(yn:Int)<(N:Int):=hy.2
      have hynN:yn<N:=by omega
      have cS:=HSQ.out.cellAt yn (by rw[snL_len];exact hynN)
      rw[snL_get N om yn hynN] at cS
      rcases h1:hasB om (yn:Int) with _ | _
      ·have hnotin:(yn:Int)∉om:=hasB_not h1
       rw[decide_eq_false hnotin] at cS
       have F0:=hDD (N2.out hy0 h1)
       have HY:Hid (I64 (yn:Int)):=hDD ⟨by omega,by omega⟩
       have HWY:=hDD (HNW2.out hy0 h1)
       obtain⟨bu,capu,cu,hwul,hru,hbu1,hbu2⟩:=HTQ.out.at_old hunN (by rw[←HUN.out];exact HUM.out)
       have HWU:Hid (F u=F (un:Int)):=hDD (by rw[HUN.out])
       have HWY2:Hid (F (yn:Int)=F (un:Int)++ [x]):=hDD (by rw[HWY.out,HWU.out])
       have fS:=HSQ.out.free yn
       have HSET:=hDD (HSQ.out.set yn true)
       rw[snL_set] at HSET
       have ctQ:=HTQ.out.at_new hynN hnotin
       generalize F (un:Int)=wu at*
       have huN':u<(N:Int):=by rw[HUN.out];omega
       have hu0':(0:Int)≤u:=by rw[HUN.out];omega
       have hkI:(k:Int)<(om.length:Int):=by omega
       have hmI:(m:Int)<(ls.length:Int):=by omega
       obtain⟨wz,hwz⟩: ∃wz,wz=wq.setCell ⟨S,yn,none⟩ (.bool true):=⟨_,rfl⟩
       have gz:wq.grownBy wz (some S):=by rw[hwz];exact HSET.out.2
       have hsz1:wz.heap.size=wq.heap.size:=by rw[hwz];simp
       have HSZ:Hid (OwB wz S (.slice (some ⟨S,0,none⟩) N N) (snL N (om++ [(yn:Int)]))):=hDD (by rw[hwz];exact HSET.out.1)
       have HTZ:=hDD (HTQ.out.other gz hPS)
       have HOZ:Hid (OwI wz (P+1) (.slice (some ⟨b2,0,none⟩) om.length cap2) om):=hDD (by rw[hwz];exact HOQ.out.far (p:=⟨S,yn,none⟩) (by show S<P+1;omega) _)
       have HRZ:=hDD (HRQ.out.grown gz fun b hb hb'=>by simp[Value.ownBlock] at hb hb';omega)
       have HRU:=hDD (hru.grown gz fun b hb hb'=>by simp[Value.ownBlock] at hb hb';omega)
       have HBZ:Hid (Below (w.heap.size+1) W1 wz):=hDD (HQ.out.grown gz (by have:=HQ.out.size;omega) (fun c hc=>by injection hc with hc;omega))
       have HWZ:=hDD hwz
       have hb2z:b2<wz.heap.size:=by rw[hsz1];omega
       have hglz:gl<wz.heap.size:=by rw[hsz1];omega
       have hbuz:bu<wz.heap.size:=by rw[hsz1];omega
       have hPz:P<wz.heap.size:=by omega
       have hSPz:P≤wz.heap.size:=by omega
       have GZ:Hid (wz.heap[P]? =wq.heap[P]?):=hDD (gz.block P (by omega) (fun e=>by injection e with e;omega))
       have huy:(yn:Int)≠u:=fun e=>hnotin (by rw[e];exact HUM.out)
       have hn0:(⟨P,yn,none⟩:Addr)≠⟨b2,k,none⟩:=fun e=>by injection e with e1;omega
       have hn1:(⟨P,yn,none⟩:Addr)≠⟨P,u.toNat,none⟩:=fun e=>by injection e with e1 e2;omega
       have hn2:(⟨P,yn,none⟩:Addr)≠⟨gl,m,none⟩:=fun e=>by injection e with e1;omega
       clear hwz gz hru hnotin hsz1 huy
       have HN0:Hid (∀(W':World) (z:Value),W'.cell? ⟨b2,k,none⟩=some (.int .i64 u)→(W'.setCell ⟨P,yn,none⟩ z).cell? ⟨b2,k,none⟩=some (.int .i64 u)):=hDD fun W' z h=>((by first | exact World.cell?_setCell_other _ hn0 | exact World.cell?_setCell_other _ _ hn0 | exact World.cell?_setCell_other _ _ _ _ hn0 | exact World.cell?_setCell_other _ _ _ _ _ hn0):(W'.setCell _ z).cell? _=W'.cell? _).trans h
       have HN1:Hid (∀(W':World) (z y:Value),W'.cell? ⟨P,u.toNat,none⟩=some y→(W'.setCell ⟨P,yn,none⟩ z).cell? ⟨P,u.toNat,none⟩=some y):=hDD fun W' z y h=>((by first | exact World.cell?_setCell_other _ hn1 | exact World.cell?_setCell_other _ _ hn1 | exact World.cell?_setCell_other _ _ _ _ hn1 | exact World.cell?_setCell_other _ _ _ _ _ hn1):(W'.setCell _ z).cell? _=W'.cell? _).trans h
       have HN2:Hid (∀(W':World) (z:Value),W'.cell? ⟨gl,m,none⟩=some (.int .i64 x)→(W'.setCell ⟨P,yn,none⟩ z).cell? ⟨gl,m,none⟩=some (.int .i64 x)):=hDD fun W' z h=>((by first | exact World.cell?_setCell_other _ hn2 | exact World.cell?_setCell_other _ _ hn2 | exact World.cell?_setCell_other _ _ _ _ hn2 | exact World.cell?_setCell_other _ _ _ _ _ hn2):(W'.setCell _ z).cell? _=W'.cell? _).trans h
       clear hn0 hn1 hn2
       go_wp2_with fail
       rw[←HWZ.out]
       have k0:=HKG.out wz HOZ.out
       have k1:wz.cell? ⟨P,u.toNat,none⟩=some (.slice (some ⟨bu,0,none⟩) wu.length capu):=by
        rw[HUN.out,Int.toNat_natCast]
        exact(World.cell?_of_block GZ.out).trans cu
       have k2:=HXL.out wz HRZ.out
       have k3:wz.cell? ⟨P,yn,none⟩=some (.slice none 0 0):=(World.cell?_of_block GZ.out).trans ctQ
       have k4:=HTZ.out.free yn
       clear cS fS cu ctQ HWZ
       have hRR:Hid (RdI (wz.drew.alloc (.cells #[] 3)) (.slice (some ⟨bu,0,none⟩) wu.length capu) wu):=hDD (HRU.out.drew.alloc _)
       have HRB:Hid (RdI ((wz.alloc (.cells #[] 3)).alloc (.cells #[.int .i64 x] 3)).drew (.slice (some ⟨bu,0,none⟩) wu.length capu) wu):=hDD (((HRU.out.alloc (.cells #[] 3)).alloc (.cells #[.int .i64 x] 3)).drew)
       have HRC:Hid (RdI ((wz.alloc (.cells #[.int .i64 x] 3)).alloc (.cells #[] 3)).drew (.slice (some ⟨bu,0,none⟩) wu.length capu) wu):=hDD (((HRU.out.alloc (.cells #[.int .i64 x] 3)).alloc (.cells #[] 3)).drew)
       have HOB:=hDD (((OwI_lit wz [] I64s_nil (by simp) (Nat.le_refl _)).alloc (.cells #[.int .i64 x] 3)).drew)
       have HOC:Hid (OwI ((wz.alloc (.cells #[.int .i64 x] 3)).alloc (.cells #[] 3)).drew wz.heap.size (.slice (some ⟨wz.heap.size+1,0,none⟩) 0 0) []):=hDD (OwI_litN (wz.alloc (.cells #[.int .i64 x] 3)) [] (wz.heap.size+1) (by simp) I64s_nil (by simp) (by omega))
       have HXB:Hid (RdI ((wz.alloc (.cells #[] 3)).alloc (.cells #[.int .i64 x] 3)).drew (.slice (some ⟨wz.heap.size+1,0,none⟩) 1 1) [x]):=hDD (by have:=RdI_new1 (wz.alloc (.cells #[] 3)) x HX64.out;simpa using this.drew)
       have HXC:Hid (RdI ((wz.alloc (.cells #[.int .i64 x] 3)).alloc (.cells #[] 3)).drew (.slice (some ⟨wz.heap.size,0,none⟩) 1 1) [x]):=hDD (((RdI_new1 wz x HX64.out).alloc (.cells #[] 3)).drew)
       have HBB:Hid (Below wz.heap.size wz ((wz.alloc (.cells #[] 3)).alloc (.cells #[.int .i64 x] 3)).drew):=hDD ((((Below.refl wz.heap.size wz).alloc (Nat.le_refl _) _).alloc (by simp) _).drew)
       have HBC:Hid (Below wz.heap.size wz ((wz.alloc (.cells #[.int .i64 x] 3)).alloc (.cells #[] 3)).drew):=hDD ((((Below.refl wz.heap.size wz).alloc (Nat.le_refl _) _).alloc (by simp) _).drew)
       go_region_held3 (fun w'=>w'.cell? ⟨b2,k,none⟩=some (.int .i64 u)∧w'.cell? ⟨P,u.toNat,none⟩=some (.slice (some ⟨bu,0,none⟩) wu.length capu)∧w'.cell? ⟨gl,m,none⟩=some (.int .i64 x))
        (first | go_keep | (exact⟨(hc1 _ _ hb2z).trans k0,(hc1 _ _ hPz).trans k1,(hc1 _ _ hglz).trans k2⟩) | (exact⟨HN0.out _ _ ((hc1 _ _ hb2z).trans k0),HN1.out _ _ _ ((hc1 _ _ hPz).trans k1),HN2.out _ _ ((hc1 _ _ hglz).trans k2)⟩) | (exact⟨(hc0 _ _ hb2z).trans k0,(hc0 _ _ hPz).trans k1,(hc0 _ _ hglz).trans k2⟩))
        (first
         | (refine step_append_ints rfl (.tmp 67) (.tmp 74) rfl wz.heap.size _ [] (OwI_litN _ [] wz.heap.size (by simp[World.drew,World.drewN]) I64s_nil (by simp) (Nat.le_refl _)) (by rfl) _ wu ?_ (by rfl) (by simp;omega) (by simp) ?_;(exact hRR.out);intro v1 w1 o1 g1 p1;rw[List.nil_append] at o1;have hb0:=(((Below.refl wz.heap.size wz).drew).alloc (Nat.le_refl _) (.cells #[] 3));have hb1:=hb0.grown g1 hb0.size (fun k hk=>by simp[Value.ownBlock] at hk;omega);have O1:=hDD o1;have B1:=hDD hb1;obtain⟨hc0,hf0⟩:=bcellN hb1;have hz1:=hb1.size;clear o1 hb0 hb1 g1 p1 hRR HRB HRC HOB HOC HXB HXC HBB HBC)
         | (refine step_append_ints rfl (.tmp 67) (.tmp 74) rfl wz.heap.size _ [] HOB.out (by rfl) _ wu HRB.out (by rfl) (by simp;omega) HBB.out.size ?_;intro v1 w1 o1 g1 p1;rw[List.nil_append] at o1;have hb1:=HBB.out.grown g1 HBB.out.size (fun k hk=>by simp[Value.ownBlock] at hk;omega);have HX:=hDD (HXB.out.grown g1 (fun b e1 e2=>by simp[Value.ownBlock] at e1 e2;omega));have O1:=hDD o1;have B1:=hDD hb1;obtain⟨hc0,hf0⟩:=bcellN hb1;have hz1:=hb1.size;clear o1 hb1 g1 p1 hRR HRB HRC HOB HOC HXB HXC HBB HBC)
         | (refine step_append_ints rfl (.tmp 67) (.tmp 74) rfl wz.heap.size _ [] HOC.out (by rfl) _ wu HRC.out (by rfl) (by simp;omega) HBC.out.size ?_;intro v1 w1 o1 g1 p1;rw[List.nil_append] at o1;have hb1:=HBC.out.grown g1 HBC.out.size (fun k hk=>by simp[Value.ownBlock] at hk;omega);have HX:=hDD (HXC.out.grown g1 (fun b e1 e2=>by simp[Value.ownBlock] at e1 e2;omega));have O1:=hDD o1;have B1:=hDD hb1;obtain⟨hc0,hf0⟩:=bcellN hb1;have hz1:=hb1.size;clear o1 hb1 g1 p1 hRR HRB HRC HOB HOC HXB HXC HBB HBC)
         | (refine step_append_ints rfl (.tmp 75) (.tmp 80) rfl wz.heap.size _ wu (O1.out.alloc _) (by rfl) _ [x] (RdI_new1 _ x HX64.out) (by rfl) (by simp;omega) (by simp;omega) ?_;intro v2 w2 o2 g2 p2;have hb2:=((B1.out.alloc hz1 (.cells #[.int .i64 x] 3)).grown g2 (by simp;omega) (fun k hk=>(O1.out.1.lt k hk).1));have B2:=hDD hb2;obtain⟨hc1,hf1⟩:=bcellN hb2;have k5:=(hf1 _ _ hPz).trans k4;have k6:=(hc1 _ _ hPz).trans k3;have hz2:=hb2.size;obtain⟨A8,c8,hv2,_,_,_,hf8⟩:=OwI.form o2;obtain⟨b8,hA8,hb81,hb82⟩:=hf8 (by simp);rw[List.length_append,List.length_singleton,hA8] at hv2;subst hv2;have O2:=hDD o2;clear o2 hb2 g2 p2 hz1 B1 hf8)
         | (refine step_append_ints rfl (.tmp 75) (.tmp 80) rfl wz.heap.size _ wu O1.out (by rfl) _ [x] HX.out (by rfl) (by simp;omega) hz1 ?_;intro v2 w2 o2 g2 p2;have hb2:=(B1.out.grown g2 hz1 (fun k hk=>(O1.out.1.lt k hk).1));have B2:=hDD hb2;obtain⟨hc1,hf1⟩:=bcellN hb2;have k5:=(hf1 _ _ hPz).trans k4;have k6:=(hc1 _ _ hPz).trans k3;have hz2:=hb2.size;obtain⟨A8,c8,hv2,_,_,_,hf8⟩:=OwI.form o2;obtain⟨b8,hA8,hb81,hb82⟩:=hf8 (by simp);rw[List.length_append,List.length_singleton,hA8] at hv2;subst hv2;have O2:=hDD o2;clear o2 hb2 g2 p2 hz1 B1 HX hf8))
       all_goals (
 have hgS:w2.grownBy (w2.setCell ⟨P,yn,none⟩ (.slice (some ⟨b8,0,none⟩) (wu.length+1) c8)) (some P):=set_grown _ _ _ _
 have hPw2:P<w2.heap.size:=by omega
 have TWS:=(HTZ.out.below B2.out).set (b:=b8) (cap:=c8) hynN HWY2.out (by have h:=O2.out.rd;rw[List.length_append,List.length_singleton];exact h) (by simp;omega) (by omega) (fun e=>by simp[Value.ownBlock] at e;omega) hb82
 simp only[List.length_append,List.length_cons,List.length_nil,Nat.zero_add] at TWS
 have HTS:=hDD TWS
 have HOS:Hid (OwI (w2.setCell ⟨P,yn,none⟩ (.slice (some ⟨b8,0,none⟩) (wu.length+1) c8)) (P+1) (.slice (some ⟨b2,0,none⟩) om.length cap2) om):=hDD ((HOZ.out.below B2.out).far (p:=⟨P,yn,none⟩) (by show P<P+1;omega) _)
 have HSS:Hid (OwB (w2.setCell ⟨P,yn,none⟩ (.slice (some ⟨b8,0,none⟩) (wu.length+1) c8)) S (.slice (some ⟨S,0,none⟩) N N) (snL N (om++ [(yn:Int)]))):=hDD (World.ownsRow.kept (HSZ.out.below B2.out) hgS (.inr fun e=>by simp[Value.ownBlock] at e;omega))
 have HRS:Hid (RdI (w2.setCell ⟨P,yn,none⟩ (.slice (some ⟨b8,0,none⟩) (wu.length+1) c8)) (.slice (some ⟨gl,0,none⟩) ls.length capl) ls):=hDD ((HRZ.out.below B2.out).grown hgS fun b hb hb'=>by simp[Value.ownBlock] at hb hb';omega)
 have HBS:Hid (Below (w.heap.size+1) W1 (w2.setCell ⟨P,yn,none⟩ (.slice (some ⟨b8,0,none⟩) (wu.length+1) c8))):=hDD ((HBZ.out.trans (B2.out.mono (by omega))).setCell (by show w.heap.size+1≤P;omega) _)
 have hsS:(w2.setCell ⟨P,yn,none⟩ (.slice (some ⟨b8,0,none⟩) (wu.length+1) c8)).heap.size=w2.heap.size:=by simp
 generalize w2.setCell ⟨P,yn,none⟩ (.slice (some ⟨b8,0,none⟩) (wu.length+1) c8)=wT at*
 clear k0 k1 k2 k3 k4 k5 k6 TWS hgS hc1 hf1
 have hwT1:w2.heap.size≤wT.heap.size:=by omega
 have hwT2:wT.heap.size≤w2.heap.size:=by omega
 clear hsS
 go_wp2_with (at_builtin;refine push_int rfl (.tmp 83) (.tmp 85) rfl _ _ _ (OwI.alloc HOS.out _) rfl _ _ rfl (cell_new1 _ _ _) HY.out (by first | omega | (simp<;>omega)) (by first | omega | (simp<;>omega)) ?_;intro v9 wv9 o9 g9 p9)
 have hz9:=g9.size
 simp at hz9
 go_roundw
 case rel=>
  refine⟨m+1,by omega,by go_num,by rw[HS.out,F0.out];exact o9,by rw[HS.out,F0.out];exact HTS.out.push g9 p9,by rw[HS.out,F0.out];exact World.ownsRow.kept (HSS.out.alloc _) g9 (.inr fun e=>by simp[Value.ownBlock] at e;omega),(HRS.out.alloc _).grown g9 (fun b hb hb'=> ?_),fun e=> ?_,by omega,bel_push HBS.out (by omega) HOS.out.1 (by omega) g9⟩
  ·simp only[Value.ownBlock,Option.some.injEq] at hb
   subst hb
   exact HNR.out hb'
  ·rcases p9 with p9 | p9
   ·rw[p9] at e;exact HNR.out e
   ·rw[p9] at e;simp at e;omega
 case measure=>simp[intOf];omega)
      ·have F0:=hDD (N1.out hy0 h1)
       rw[decide_eq_true (hasB_iff.1 h1)] at cS
       go_wp2
       go_roundw
       case rel=>exact⟨m+1,by omega,by go_num,by rw[HS.out,F0.out];exact HOQ.out,by rw[HS.out,F0.out];exact HTQ.out,by rw[HS.out,F0.out];exact HSQ.out,HRQ.out,HNR.out,by omega,HQ.out⟩
       case measure=>simp[intOf];omega
    ·obtain rfl:m=ls.length:=by omega
     rw[List.take_length] at hown HTW2 HSN2
     have hokm:=HOKm.out ls.length
     rw[List.take_length] at hokm
     have HOKF:=hDD hokm
     have HOM:=hDD hown
     have hlen:k+1≤(ls.foldl (cstep g.2.2 u) o).length:=by
      have:=HPU.out ls.length
      rw[List.take_length] at this
      have:=(List.getElem?_eq_some_iff.1 this).1
      omega
     obtain⟨A2,cap2,rfl,_⟩:=hown.form
     clear hown hrd hne hokm
     go_wp2
     go_roundw
     case rel=>exact⟨k+1,_,hlen,by go_num,HOKF.out,HTS1.out,HCF.out,HOM.out,HTW2.out,HSN2.out,HRR.out,HNR.out,hblr,HBI.out⟩
     case measure=>simp[intOf];omega
  ·obtain rfl:k=o.length:=by omega
   have F':Hid (canO g=o):=hDD (by rw[HC.out,canF_end])
   have HBW:Hid (Below w.heap.size w wo):=hDD (BX.out.trans (HB2.out.mono (by omega)))
   have HTF:Hid (TreeX F w.heap.size P N wo (.slice A1 o.length cap1) o):=hDD (HTW.out.base (by omega))
   clear hown hf2
   go_wp2
   exact bodyPost_ret (v:= .tuple #[.slice (some ⟨S,0,none⟩) N N, .slice (some ⟨P,0,none⟩) N N]) (by simp[results,Tryz.results94]) rfl ⟨S,P,_,rfl,by rw[F'.out];exact OwB.mono HSN.out (by omega),by rw[F'.out];exact HTF.out,HBW.out⟩
set_option maxHeartbeats 2000000 in
theorem specPathWord_any (v:Value) (g:GrD) (y:Int) (w:World) (h:ArgG w v g) (hf:foldB g=true) (hy:y∈canO g):
  Calls Tryz.prog 55 #[v, .int .i64 0, .int .i64 y] w fun e w'=> ∃r,e= .returned (.tuple #[r, .bool true])∧OwI w' w.heap.size r (wdO g y)∧Below w.heap.size w w':=by
 have HG:=hDD h
 have HF:=hDD hf
 obtain⟨hg,hfol⟩:=foldB_parts hf
 obtain⟨hr13,hsz40,hl120,_⟩:=grB_parts hg
 have hyr:=(canO_ok hg).2.1 y hy
 have hwl:=wd_len hg hy
 have HYM:=hDD hy
 obtain⟨s,rfl,hi1,hi2,ha⟩:=h
 obtain⟨A,cap,rfl⟩:=ha.form
 have HSE:=hDD (fun W' (h:ArgG W' (.agg #[.int .i64 g.1, .int .i64 g.2.1, .slice A g.2.2.length cap]) g)=>l5Search_any _ g W' h hf)
 have HFO:=hDD (fun W' (h:ArgG W' (.agg #[.int .i64 g.1, .int .i64 g.2.1, .slice A g.2.2.length cap]) g)=>specIsFolded_any _ g W' h)
 rw[HF.out] at HFO
 obtain⟨O,hO⟩: ∃O,O=canO g:=⟨_,rfl⟩
 obtain⟨F,hFF⟩: ∃F,F=wdO g:=⟨_,rfl⟩
 rw[←hO] at HYM HSE
 rw[←hFF] at HSE hwl⊢
 obtain⟨g1,n,es⟩:=g
 simp only at*
 clear hO hFF hy hg hfol ha hf
 obtain⟨N,rfl⟩: ∃N:Nat,n=(N:Int):=⟨n.toNat,by omega⟩
 simp only[Int.toNat_natCast] at HSE
 obtain⟨yn,rfl⟩: ∃yn:Nat,y=(yn:Int):=⟨y.toNat,by omega⟩
 have hwn:IntKind.i64.wrap ((N:Int)-1)=(N:Int)-1:=by rw[IntKind.wrap_i64];omega
 have hin0:inB 0 0 ((N:Int)-1)=true:=by unfold inB;simp;omega
 have hiny:inB (yn:Int) 0 ((N:Int)-1)=true:=by unfold inB;simp;omega
 have hy0:(0:Int)≤(yn:Int):=by omega
 have hyN:(yn:Int)<(N:Int):=hyr.2
 have hynN:yn<N:=by omega
 obtain⟨wu,hwu⟩: ∃wu,wu=F (yn:Int):=⟨_,rfl⟩
 rw[←hwu] at hwl⊢
 have HWU:=hDD hwu
 clear hwu
 go_enter Tryz.func55,Tryz.ntmps55
 go_wp2_with fail
 obtain⟨W,hW⟩: ∃W,W=w.alloc (Obj.cells #[Value.int IntKind.i64 g1,Value.int IntKind.i64 (N:Int), .slice A es.length cap] 31):=⟨_,rfl⟩
 obtain⟨hsW,b1,hc1⟩:=gboxE hW
 rw[←hW]
 have BX:=hDD b1
 have HCL:=hDD hc1
 have HA:Hid (∀w',Below (w.heap.size+1) W w'→ArgG w' (.agg #[.int .i64 g1, .int .i64 (N:Int), .slice A es.length cap]) (g1,(N:Int),es)):=hDD fun w' hb=>HG.out.below (BX.out.trans (hb.mono (by omega)))
 have hW1:w.heap.size+1≤W.heap.size:=by omega
 clear hW hc1 b1 hsW
 refine(HFO.out W (HA.out W ((Below.refl W.heap.size W).mono (by omega)))).mono ?_
 rintro e w2 ⟨rfl,b2⟩
 have hs2:=b2.size
 have B2:Hid (Below (w.heap.size+1) W w2):=hDD (b2.mono hW1)
 clear b2
 obtain⟨q0,q1,q2⟩:=HCL.out w2 B2.out
 go_wp2_with (go_at_call 57;refine(l1In_any _ _ _ _).mono ?_;rintro e w' ⟨rfl,rfl⟩)
 refine(HSE.out w2 (HA.out w2 B2.out)).mono ?_
 rintro e w3 ⟨S,P,ord,rfl,sn,tx,b3⟩
 have hs3:=b3.size
 have B3:Hid (Below (w.heap.size+1) W w3):=hDD (B2.out.trans (b3.mono (by omega)))
 have cS:=OwB.cellAt sn yn (by rw[snL_len];exact hynN)
 rw[snL_get N O yn hynN,decide_eq_true HYM.out] at cS
 obtain⟨bu,capu,cu,_,hru,hbu,hPb0⟩:=tx.at_old hynN HYM.out
 rw[←HWU.out] at cu hru
 have hPb:P<w3.heap.size:=by omega
 have cu2:=((((Below.refl w3.heap.size w3).alloc (Nat.le_refl _) (.cells #[] 3))).cell (p:=⟨P,yn,none⟩) hPb).trans cu
 have HRU:=hDD hru
 have HBF:=hDD (BX.out.trans (B3.out.mono (by omega)))
 clear sn tx b3 hru q0 q1 q2
 go_wp2_with (at_builtin;refine append_ints rfl (.tmp 42) (.tmp 46) rfl w3.heap.size _ [] (OwI_lit w3 [] I64s_nil (by simp) (Nat.le_refl _)) rfl _ wu (HRU.out.alloc _) rfl (by simp;omega) (by simp) ?_;intro v6 w6 o6 g6 p6;rw[List.nil_append] at o6;have O6:=hDD o6;have B6:Hid (Below w3.heap.size w3 w6):=hDD (((Below.refl w3.heap.size w3).alloc (Nat.le_refl _) (.cells #[] 3)).grown g6 (by simp) (fun k hk=>by simp[Value.ownBlock] at hk;omega));clear o6 g6 p6)
 have HB:=hDD (HBF.out.trans (B6.out.mono (by omega)))
 exact bodyPost_ret (v:= .tuple #[v6, .bool true]) (by simp[results,Tryz.results55]) rfl ⟨_,rfl,O6.out.mono (by omega),HB.out⟩
set_option maxHeartbeats 1000000 in
theorem specTreeWord_any (v:Value) (g:GrD) (y:Int) (w:World) (h:ArgG w v g) (hf:foldB g=true) (hy:y∈canO g):
  Calls Tryz.prog 27 #[v, .int .i64 y] w fun e w'=> ∃r,e= .returned r∧OwI w' w.heap.size r (wdO g y)∧Below w.heap.size w w':=by
 have HG:=hDD h
 obtain⟨s,rfl,hi1,hi2,ha⟩:=h
 obtain⟨A,cap,rfl⟩:=ha.form
 have HPW:=hDD (fun W' (h:ArgG W' (.agg #[.int .i64 g.1, .int .i64 g.2.1, .slice A g.2.2.length cap]) g)=>specPathWord_any _ g y W' h hf hy)
 obtain⟨g1,n,es⟩:=g
 simp only at*
 generalize wdO (g1,n,es) y=wu at*
 clear ha hf hy
 go_enter Tryz.func27,Tryz.ntmps27
 go_wp2_with fail
 obtain⟨W,hW⟩: ∃W,W=w.alloc (Obj.cells #[Value.int IntKind.i64 g1,Value.int IntKind.i64 n, .slice A es.length cap] 31):=⟨_,rfl⟩
 obtain⟨hsW,b1,hc1⟩:=gboxE hW
 rw[←hW]
 have BX:=hDD b1
 have hW1:w.heap.size+1≤W.heap.size:=by omega
 clear hW hc1 b1 hsW
 refine(HPW.out W (HG.out.below BX.out)).mono ?_
 rintro e w3 ⟨r3,rfl,o3,b3⟩
 have O3:=hDD o3
 have HB:=hDD (BX.out.trans (b3.mono (by omega)))
 clear o3 b3
 go_wp2
 go_ret
 exact⟨_,rfl,O3.out.mono (by omega),HB.out⟩
set_option maxHeartbeats 2000000 in
theorem specLoopOf_any (v:Value) (g:GrD) (e:EdD) (w:World) (h:ArgG w v g) (hf:foldB g=true) (he:e∈g.2.2) (h1:e.1∈canO g) (h3:e.2.2∈canO g):
  Calls Tryz.prog 31 #[v,edV e] w fun x w'=> ∃r,x= .returned r∧OwI w' w.heap.size r (redL [] ((wdO g e.1++ [e.2.1])++invL (wdO g e.2.2)))∧Below w.heap.size w w':=by
 have HG:=hDD h
 have HF:=hDD hf
 have HE:=hDD he
 obtain⟨hg,hfol⟩:=foldB_parts hf
 obtain⟨hr13,hsz40,hl120,_⟩:=grB_parts hg
 have hl1:=wd_len hg h1
 have hl3:=wd_len hg h3
 have hxr:=(edge_of_gr hg he).2.1
 obtain⟨s,rfl,hi1,hi2,ha⟩:=h
 obtain⟨A,cap,rfl⟩:=ha.form
 have HT1:=hDD (fun W' (h:ArgG W' (.agg #[.int .i64 g.1, .int .i64 g.2.1, .slice A g.2.2.length cap]) g)=>specTreeWord_any _ g e.1 W' h hf h1)
 have HT3:=hDD (fun W' (h:ArgG W' (.agg #[.int .i64 g.1, .int .i64 g.2.1, .slice A g.2.2.length cap]) g)=>specTreeWord_any _ g e.2.2 W' h hf h3)
 have HFO:=hDD (fun W' (h:ArgG W' (.agg #[.int .i64 g.1, .int .i64 g.2.1, .slice A g.2.2.length cap]) g)=>specIsFolded_any _ g W' h)
 rw[HF.out] at HFO
 obtain⟨u1,hu1⟩: ∃u,u=wdO g e.1:=⟨_,rfl⟩
 obtain⟨u3,hu3⟩: ∃u,u=wdO g e.2.2:=⟨_,rfl⟩
 rw[←hu1] at HT1 hl1⊢
 rw[←hu3] at HT3 hl3⊢
 obtain⟨g1,n,es⟩:=g
 obtain⟨e1,x,e3⟩:=e
 simp only at*
 have HX64:Hid (I64 x):=hDD ⟨by omega,by omega⟩
 clear hu1 hu3 hg hfol ha hf he h1 h3 hxr hr13
 unfold edV
 simp only
 have HEQ:Hid (∀(y:EdD) (w:World),(binOp .eql 54 (edV y) (edV (e1,x,e3))).run Tryz.prog w= .ok (.bool (decide (y=(e1,x,e3)))) w):=hDD fun y w=>edge_eql y (e1,x,e3) w
 have hgd:=edge_guard
 have HMT:Hid (∀m (hm:m<es.length),decide ((e1,x,e3)∈es.take (m+1))=(decide ((e1,x,e3)∈es.take m)||decide (es[m]=(e1,x,e3)))):=hDD fun m hm=>by
  rw[List.take_succ_eq_append_getElem hm,Bool.eq_iff_iff]
  simp only[List.mem_append,List.mem_singleton,decide_eq_true_eq,Bool.or_eq_true]
  exact⟨fun h=>h.imp_right Eq.symm,fun h=>h.imp_right Eq.symm⟩
 obtain⟨W1,hW1⟩: ∃W,W=w.alloc (Obj.cells #[Value.int IntKind.i64 g1,Value.int IntKind.i64 n, .slice A es.length cap] 31):=⟨_,rfl⟩
 obtain⟨hs1,b1,hc1⟩:=gboxE hW1
 obtain⟨W,hW⟩: ∃W,W=W1.alloc (Obj.cells #[Value.int IntKind.i64 e1,Value.int IntKind.i64 x,Value.int IntKind.i64 e3] 54):=⟨_,rfl⟩
 obtain⟨hs2,b2,hc2⟩:=gboxE hW
 rw[hs1] at hc2
 have HC1:=hDD hc1
 have HC2:=hDD hc2
 have BX:Hid (Below w.heap.size w W):=hDD (b1.trans (b2.mono (by omega)))
 have B12:Hid (Below (w.heap.size+1) W1 W):=hDD (b2.mono (by omega))
 have HCL:Hid (∀w',Below (w.heap.size+2) W w'→w'.cell? ⟨w.heap.size,0,none⟩=some (.int .i64 g1)∧w'.cell? ⟨w.heap.size,1,none⟩=some (.int .i64 n)∧w'.cell? ⟨w.heap.size,2,none⟩=some (.slice A es.length cap)):=hDD fun w' hb=>HC1.out w' (B12.out.trans (hb.mono (by omega)))
 have HCE:Hid (∀w',Below (w.heap.size+2) W w'→w'.cell? ⟨w.heap.size+1,0,none⟩=some (.int .i64 e1)∧w'.cell? ⟨w.heap.size+1,1,none⟩=some (.int .i64 x)∧w'.cell? ⟨w.heap.size+1,2,none⟩=some (.int .i64 e3)):=hDD fun w' hb=>HC2.out w' hb
 have HA:Hid (∀w',Below (w.heap.size+2) W w'→ArgG w' (.agg #[.int .i64 g1, .int .i64 n, .slice A es.length cap]) (g1,n,es)):=hDD fun w' hb=>HG.out.below (BX.out.trans (hb.mono (by omega)))
 have HW1:=hDD hW1
 have HW:=hDD hW
 have hWs:w.heap.size+2≤W.heap.size:=by omega
 clear hW1 hW hc1 hc2 b1 b2 hs1 hs2 HC1 HC2
 go_enter Tryz.func31,Tryz.ntmps31
 go_wp2_with fail
 rw[←HW1.out,←HW.out]
 go_loopw [5,6] (fun f j wr=> ∃m:Nat,m≤es.length∧j= .int .i64 m∧f= .bool (decide ((e1,x,e3)∈es.take m))∧ ∃q,wr=W.drewN q) (fun _ j _=>es.length-(intOf j).toNat)
 case atStart=>exact⟨0,Nat.zero_le _,rfl,by simp,0,rfl⟩
 case round=>
  obtain⟨m,hm,rfl,rfl,q,rfl⟩:=hrel
  obtain⟨q0,q1,q2⟩:=HCL.out W ((Below.refl W.heap.size W).mono hWs)
  obtain⟨z0,z1,z2⟩:=HCE.out W ((Below.refl W.heap.size W).mono hWs)
  by_cases hlt2:m<es.length
  ·have HMm:=hDD (HMT.out m hlt2)
   have hmI:(m:Int)<(es.length:Int):=by omega
   rcases ef:decide ((e1,x,e3)∈es.take m) with _ | _
   rotate_left
   ·have F:Hid (decide ((e1,x,e3)∈es.take (m+1))=true):=hDD (by rw[HMm.out,ef];rfl)
    clear ef
    go_wp2
    go_quiet (fail)
    go_wp2
    go_roundw
    case rel=>exact⟨m+1,by omega,by go_num,by rw[F.out],_,rfl⟩
    case measure=>simp[intOf];omega
   ·obtain⟨_,_,hIN,hAE,_,_⟩:=(HA.out W ((Below.refl W.heap.size W).mono hWs)).inner
    injection hIN with i1 i2 i3
    subst i1 i3
    clear i2
    obtain⟨bt,offt,rfl,hbt,d0,d1,d2,_⟩:=hAE.at hlt2
    have heql:=fun w=>HEQ.out es[m] w
    unfold edV at heql
    obtain⟨be,hbe⟩: ∃be,be=decide (es[m]=(e1,x,e3)):=⟨_,rfl⟩
    rw[←hbe] at heql
    have F:Hid (decide ((e1,x,e3)∈es.take (m+1))=be):=hDD (by rw[HMm.out,ef,←hbe];rfl)
    clear hbe ef hAE
    generalize es[m]=y at*
    obtain⟨y1,y2,y3⟩:=y
    simp only at*
    go_wp2
    go_quiet (fail)
    go_wp2
    go_roundw
    case rel=>exact⟨m+1,by omega,by go_num,by rw[F.out],_,rfl⟩
    case measure=>simp[intOf];omega
  ·obtain rfl:m=es.length:=by omega
   have B6:Below W.heap.size W (W.drewN q):=bel_drewN (Below.refl _ _) q
   have hfin:decide ((e1,x,e3)∈es.take es.length)=true:=by rw[List.take_length];exact decide_eq_true HE.out
   generalize W.drewN q=w3 at*
   have HB3:Hid (Below (w.heap.size+2) W w3):=hDD (B6.mono hWs)
   clear q0 q1 q2 z0 z1 z2 B6
   obtain⟨q0,q1,q2⟩:=HCL.out w3 HB3.out
   rw[hfin]
   clear hfin
   go_wp2_with fail
   refine(HFO.out w3 (HA.out w3 HB3.out)).mono ?_
   rintro e w4 ⟨rfl,b4⟩
   have HB4:Hid (Below (w.heap.size+2) W w4):=hDD (HB3.out.trans (b4.mono (by have:=HB3.out.size;omega)))
   clear b4 q0 q1 q2
   obtain⟨q0,q1,q2⟩:=HCL.out w4 HB4.out
   obtain⟨z0,z1,z2⟩:=HCE.out w4 HB4.out
   have hw4:=HB4.out.size
   go_wp2_with fail
   have HDd:Hid (Below w4.heap.size w4 w4.drew):=hDD (Below.refl w4.heap.size w4).drew
   have HDa:Hid (Below w4.heap.size w4 (w4.alloc (.cells #[.int .i64 x] 3)).drew):=hDD (((Below.refl w4.heap.size w4).alloc (Nat.le_refl _) _).drew)
   have HRX:Hid (RdI (w4.alloc (.cells #[.int .i64 x] 3)).drew (.slice (some ⟨w4.heap.size,0,none⟩) 1 1) [x]):=hDD (RdI_new1 w4 x HX64.out).drew
   have HUP:Hid (∀w',Below w4.heap.size w4 w'→Below (w.heap.size+2) W w'):=hDD fun w' hb=>HB4.out.trans (hb.mono (by omega))
   have hgb:w.heap.size<w4.heap.size:=by omega
   have heb:w.heap.size+1<w4.heap.size:=by omega
   go_region_held3 (fun w'=>w'.cell? ⟨w.heap.size,0,none⟩=some (.int .i64 g1)∧w'.cell? ⟨w.heap.size,1,none⟩=some (.int .i64 n)∧w'.cell? ⟨w.heap.size,2,none⟩=some (.slice A es.length cap)∧w'.cell? ⟨w.heap.size+1,0,none⟩=some (.int .i64 e1)∧w'.cell? ⟨w.heap.size+1,1,none⟩=some (.int .i64 x)∧w'.cell? ⟨w.heap.size+1,2,none⟩=some (.int .i64 e3))
    (first | go_keep | exact⟨s0,s1,s2,t0,t1,t2⟩)
    (first
     | (go_at_call 27;(with_reducible refine(HT1.out _ (HA.out _ (HUP.out _ HDd.out))).mono ?_);rintro e w5 ⟨r5,rfl,o5,b5⟩;have HB5:Hid (Below w4.heap.size w4 w5):=hDD (HDd.out.trans (b5.mono HDd.out.size));have HR5:=hDD (o5.mono HDd.out.size);have hs5:=HB5.out.size;obtain⟨s0,s1,s2⟩:=HCL.out w5 (HUP.out w5 HB5.out);obtain⟨t0,t1,t2⟩:=HCE.out w5 (HUP.out w5 HB5.out);clear o5 b5 HDd HDa HRX)
     | (go_at_call 27;(with_reducible refine(HT1.out _ (HA.out _ (HUP.out _ HDa.out))).mono ?_);rintro e w5 ⟨r5,rfl,o5,b5⟩;have HB5:Hid (Below w4.heap.size w4 w5):=hDD (HDa.out.trans (b5.mono HDa.out.size));have HR5:=hDD (o5.mono HDa.out.size);have HX5:=hDD (HRX.out.below b5);have hs5:=HB5.out.size;obtain⟨s0,s1,s2⟩:=HCL.out w5 (HUP.out w5 HB5.out);obtain⟨t0,t1,t2⟩:=HCE.out w5 (HUP.out w5 HB5.out);clear o5 b5 HDd HDa HRX)
     | (refine step_append_ints rfl (.tmp 35) (.tmp 38) rfl w4.heap.size _ u1 HR5.out (by rfl) _ [x] HX5.out (by rfl) (by simp;omega) hs5 ?_;intro v6 w6 o6 g6 p6;have HB6:Hid (Below w4.heap.size w4 w6):=hDD (HB5.out.grown g6 hs5 (fun c hc=>(HR5.out.1.lt c hc).1));have HR6:=hDD o6;have hs6:=HB6.out.size;obtain⟨s0,s1,s2⟩:=HCL.out w6 (HUP.out w6 HB6.out);obtain⟨t0,t1,t2⟩:=HCE.out w6 (HUP.out w6 HB6.out);clear o6 g6 p6 HR5 HX5)
     | (refine step_append_ints rfl (.tmp 35) (.tmp 38) rfl w4.heap.size _ u1 (HR5.out.alloc _) (by rfl) _ [x] (RdI_new1 _ x HX64.out) (by rfl) (by simp;omega) (by simp;omega) ?_;intro v6 w6 o6 g6 p6;have HB6:Hid (Below w4.heap.size w4 w6):=hDD ((HB5.out.alloc hs5 _).grown g6 (by simp;omega) (fun c hc=>(HR5.out.1.lt c hc).1));have HR6:=hDD o6;have hs6:=HB6.out.size;obtain⟨s0,s1,s2⟩:=HCL.out w6 (HUP.out w6 HB6.out);obtain⟨t0,t1,t2⟩:=HCE.out w6 (HUP.out w6 HB6.out);clear o6 g6 p6 HR5)
     | (go_at_call 27;(with_reducible refine(HT3.out _ (HA.out _ (HUP.out _ HB6.out))).mono ?_);rintro e w7 ⟨r7,rfl,o7,b7⟩;have HB7:Hid (Below w4.heap.size w4 w7):=hDD (HB6.out.trans (b7.mono hs6));have HR7:=hDD o7.rd;have HM7:=hDD (HR6.out.below b7);have hs7:=HB7.out.size;obtain⟨s0,s1,s2⟩:=HCL.out w7 (HUP.out w7 HB7.out);obtain⟨t0,t1,t2⟩:=HCE.out w7 (HUP.out w7 HB7.out);clear o7 b7 HR6 HB6)
     | (go_at_call 28;(with_reducible refine(specInvertWord_any _ u3 _ HR7.out (by omega)).mono ?_);rintro e w8 ⟨r8,rfl,o8,b8⟩;have HB8:Hid (Below w4.heap.size w4 w8):=hDD (HB7.out.trans (b8.mono hs7));have HR8:=hDD o8.rd;have HM8:=hDD (HM7.out.below b8);have hs8:=HB8.out.size;obtain⟨s0,s1,s2⟩:=HCL.out w8 (HUP.out w8 HB8.out);obtain⟨t0,t1,t2⟩:=HCE.out w8 (HUP.out w8 HB8.out);clear o8 b8 HR7 HM7 HB7)
     | (go_at_call 26;(with_reducible refine(specMultiplyWords_any _ _ (u1++ [x]) (invL u3) _ HM8.out.rd HR8.out (by simp;omega) (by rw[invL_length];omega)).mono ?_);rintro e w9 ⟨r9,rfl,o9,b9⟩;have HB9:Hid (Below w4.heap.size w4 w9):=hDD (HB8.out.trans (b9.mono hs8));have HR9:=hDD (o9.mono hs8);have hs9:=HB9.out.size;obtain⟨s0,s1,s2⟩:=HCL.out w9 (HUP.out w9 HB9.out);obtain⟨t0,t1,t2⟩:=HCE.out w9 (HUP.out w9 HB9.out);clear o9 b9 HR8 HM8 HB8))
   all_goals (
    have HBF:=hDD (BX.out.trans ((HUP.out _ HB9.out).mono (by omega)))
    go_wp2
    go_ret
    exact⟨_,rfl,HR9.out.mono (by omega),HBF.out⟩)
end Go.Proofs.YtfadnkjlilhneaaGreat
namespace Go.Proofs.YtfadnkjlilhneaaGreat
set_option maxRecDepth 20000
set_option linter.unusedVariables false
set_option linter.unusedSimpArgs false
open Go.RowKit
inductive Sp where
 | val (c:Value)
 | own (p:World→Value→Prop) (h: ∀W W' v,p W v→Below W.heap.size W W'→p W' v)
 | new (p:World→Value→Prop) (h: ∀W W' v,p W v→Below W.heap.size W W'→p W' v)
 | cp (j:Nat)
def Sp.R (vs:Nat→Value):Sp→World→Value→Prop
 | .val c,_,v=>v=c
 | .own p _,W,v=>p W v
 | .new p _,W,v=>p W v∧ ∀b,v.ownBlock=some b→b<W.heap.size
 | .cp j,_,v=>v=vs j
def Sp.S (vs:Nat→Value):Sp→World→World→Value→Prop
 | .val c,_,_,v=>v=c
 | .own p _,_,W',v=>p W' v
 | .new p _,W,W',v=>p W' v∧ ∀b,v.ownBlock=some b→W.heap.size≤b∧b<W'.heap.size
 | .cp j,_,_,v=>v=vs j
def Sp.fr:Sp→Bool
 | .new _ _=>true
 | _=>false
theorem Sp.stable (vs:Nat→Value): ∀(s:Sp) {W W':World} {v:Value},s.R vs W v→Below W.heap.size W W'→s.R vs W' v
 | .val _,_,_,_,h,_=>h
 | .own _ h,W,W',v,hv,hb=>h W W' v hv hb
 | .new _ h,W,W',v,hv,hb=>⟨h W W' v hv.1 hb,fun b e=>Nat.lt_of_lt_of_le (hv.2 b e) hb.size⟩
 | .cp _,_,_,_,h,_=>h
theorem Sp.made (vs:Nat→Value): ∀(s:Sp) {W W':World} {v:Value},s.S vs W W' v→s.R vs W' v
 | .val _,_,_,_,h=>h
 | .own _ _,_,_,_,h=>h
 | .new _ _,_,_,_,h=>⟨h.1,fun b e=>(h.2 b e).2⟩
 | .cp _,_,_,_,h=>h
def Sp.pick:Sp→Value→Value
 | .val c,_=>c
 | _,v=>v
theorem Sp.pick_of (vs:Nat→Value): ∀(s:Sp) {W:World} {v:Value},s.R vs W v→s.pick v=v
 | .val _,_,_,h=>h.symm
 | .own _ _,_,_,_=>rfl
 | .new _ _,_,_,_=>rfl
 | .cp _,_,_,_=>rfl
def spA (L:List Sp) (k:Nat):Sp:=L.getD k (.val undef)
def reachB (l:List Oper):Nat→Nat→Nat→Bool
 | 0,_,_=>false
 | f+1,i,j=>match l[i]? with
   | none=>false
   | some o=>o.after.toList.any fun e=>Region.binds .any e&&(e.on==j||reachB l f e.on j)
def freB (l:List Oper):Bool:=
 Region.noSelect l.toArray&&(List.range l.length).all fun i=>match l[i]? with
  | none=>true
  | some o=>o.guard.isNone&&(o.after.all fun e=> !Region.binds .any e||decide (e.on<i))&&
    ((List.range l.length).all fun k=>match l[k]? with
      | none=>true
      | some o'=>(decide (i=k)|| !(o.dst==o'.dst)||o.dst.isNone)&&
        (match o'.dst with
         | none=>true
         | some t=> !(o.looksAt l.toArray).contains t||reachB l l.length i k||reachB l l.length k i))
def actS (S:Nat→Bool) (vs:Nat→Value):List Oper→Nat→Act→Act
 | [],_,b=>b
 | o::r,k,b=>actS S vs r (k+1) (if S k then b.put o.dst (vs k) else b)
def Obl (P:Program) (w:World) (l:List Oper) (L:List Sp) (vs:Nat→Value) (Q:Exit→Act→World→Prop):List Oper→List Sp→Nat→Act→Prop
 | [],_,_,b=> ∀W',Hid (Below w.heap.size w W')→Hid (∀j,j<l.length→(spA L j).R vs W' (vs j))→Hid (∀i j,i<l.length→j<l.length→i≠j→(spA L i).fr=true→(spA L j).fr=true→ ∀x,(vs i).ownBlock=some x→(vs j).ownBlock≠some x)→Q .normal b W'
 | _::_,[],_,_=>False
 | o::r,s::ss,k,b=>(∀W K Q0,Hid (Below w.heap.size w W)→Hid (∀j,reachB l l.length k j=true→(spA L j).R vs W (vs j))→Hid (∀v W',Below W.heap.size W W'→s.S vs W W' v→K (b.put o.dst v) W')→o.wp P b W K Q0)∧Obl P w l L vs Q r ss (k+1) (b.put o.dst (s.pick (vs k)))
section
variable {l:List Oper}
theorem fre_parts (h:freB l=true):Region.noSelect l.toArray=true∧ ∀i o,l[i]? =some o→o.guard=none∧(∀e∈o.after,Region.binds .any e=true→e.on<i)∧(∀k o',l[k]? =some o'→i≠k→ ∀d,o.dst=some d→o'.dst≠some d)∧
  ∀k o' t,l[k]? =some o'→o'.dst=some t→t∈o.looksAt l.toArray→reachB l l.length i k=true∨reachB l l.length k i=true:=by
 unfold freB at h
 rw[Bool.and_eq_true,List.all_eq_true] at h
 refine⟨h.1,fun i o ho=> ?_⟩
 have hi:i<l.length:=(List.getElem?_eq_some_iff.1 ho).1
 have h1:=h.2 i (List.mem_range.2 hi)
 rw[ho] at h1
 simp only[Bool.and_eq_true,Option.isNone_iff_eq_none,List.all_eq_true,List.mem_range] at h1
 obtain⟨⟨h2,h3⟩,h4⟩:=h1
 refine⟨h2,fun e he hb=> ?_,fun k o' hk hik d hd hd'=> ?_,fun k o' t hk ht hl=> ?_⟩
 ·have:=Array.all_eq_true_iff_forall_mem.1 h3 e he
  rw[hb] at this
  simpa using this
 ·have h5:=h4 k ((List.getElem?_eq_some_iff.1 hk).1)
  rw[hk] at h5
  simp only[Bool.and_eq_true,Bool.or_eq_true,decide_eq_true_eq] at h5
  rcases h5.1 with (h6 | h6) | h6
  ·exact hik h6
  ·rw[hd,hd'] at h6;simp at h6
  ·rw[hd] at h6;simp at h6
 ·have h5:=h4 k ((List.getElem?_eq_some_iff.1 hk).1)
  rw[hk] at h5
  simp only[Bool.and_eq_true] at h5
  have h6:=h5.2
  rw[ht] at h6
  simp only[Bool.or_eq_true,Bool.not_eq_true'] at h6
  rcases h6 with (h6 | h6) | h6
  ·rw[List.contains_iff_mem.2 hl] at h6;cases h6
  ·exact .inl h6
  ·exact .inr h6
theorem reach_listed {listed:Array Bool} (hc:Cl l.toArray listed): ∀(f i j:Nat),(∀o,l[i]? =some o→ ∀e∈o.after,Region.binds .any e=true→listed.getD e.on false=true)→reachB l f i j=true→listed.getD j false=true
 | 0,_,_,_,h=>by cases h
 | f+1,i,j,hi,h=>by
   unfold reachB at h
   cases ho:l[i]? with
   | none=>rw[ho] at h;cases h
   | some o=>
     rw[ho] at h
     simp only[List.any_eq_true,Array.mem_toList_iff,Bool.and_eq_true,Bool.or_eq_true,beq_iff_eq] at h
     obtain⟨e,he,hb,h⟩:=h
     have h1:=hi o ho e he hb
     rcases h with h | h
     ·rwa [←h]
     ·exact reach_listed hc f e.on j (fun o' ho' e' he' hb'=>hc.2 e.on o' (by simpa using ho') h1 e' he' hb') h
theorem reach_lt (hB:freB l=true): ∀(f i j:Nat),reachB l f i j=true→j<i
 | 0,_,_,h=>by cases h
 | f+1,i,j,h=>by
   unfold reachB at h
   cases ho:l[i]? with
   | none=>rw[ho] at h;cases h
   | some o=>
     rw[ho] at h
     simp only[List.any_eq_true,Array.mem_toList_iff,Bool.and_eq_true,Bool.or_eq_true,beq_iff_eq] at h
     obtain⟨e,he,hb,h⟩:=h
     have h1:=((fre_parts hB).2 i o ho).2.1 e he hb
     rcases h with h | h
     ·omega
     ·have:=reach_lt hB f e.on j h;omega
theorem put_size (a:Act) (d:Option Tmp) (v:Value):(a.put d v).tmps.size=a.tmps.size:=by
 cases d<;>simp[Act.put]
theorem actS_eval {vs:Nat→Value} {S S':Nat→Bool} {t:Tmp}: ∀(r:List Oper) (k:Nat) (b b':Act),b.tmps.size=b'.tmps.size→b.eval (.tmp t)=b'.eval (.tmp t)→
  (∀j o,r[j]? =some o→o.dst=some t→S (k+j)=S' (k+j))→(actS S vs r k b).eval (.tmp t)=(actS S' vs r k b').eval (.tmp t)
 | [],_,_,_,_,he,_=>he
 | o::r,k,b,b',hs,he,h=>by
   unfold actS
   have hz:(if S k then b.put o.dst (vs k) else b).tmps.size=(if S' k then b'.put o.dst (vs k) else b').tmps.size:=by
    split<;>split<;>simp only[put_size,hs]
   refine actS_eval r (k+1) _ _ hz ?_ fun j o' ho' hd'=>by have:=h (j+1) o' (by simpa using ho') hd';rwa [show k+(j+1)=k+1+j by omega] at this
   by_cases hd:o.dst=some t
   ·have h0:=h 0 o rfl hd
    rw[Nat.add_zero] at h0
    rw[←h0]
    split
    ·rw[hd]
     simp only[Act.put,Act.eval,Array.getD_eq_getD_getElem?]
     by_cases ht:t<b.tmps.size
     ·rw[Array.getElem?_setIfInBounds_self_of_lt ht,Array.getElem?_setIfInBounds_self_of_lt (hs▸ht)]
     ·rw[Array.getElem?_eq_none (by rw[Array.size_setIfInBounds];exact Nat.le_of_not_lt ht),Array.getElem?_eq_none (by rw[Array.size_setIfInBounds,←hs];exact Nat.le_of_not_lt ht)]
    ·exact he
   ·have e1: ∀(c:Act) (S:Nat→Bool),(if S k then c.put o.dst (vs k) else c).eval (.tmp t)=c.eval (.tmp t):=fun c S=>by
     split
     ·exact Act.eval_put fun d hd2 e=>hd (by rw[hd2];injection e with e;rw[e])
     ·rfl
    rw[e1,e1,he]
theorem actS_put {S:Nat→Bool} {vs:Nat→Value} {x:Option Tmp} {v:Value}: ∀(r:List Oper) (k:Nat) (b:Act),(∀o∈r,∀d,o.dst=some d→x≠some d)→(actS S vs r k b).put x v=actS S vs r k (b.put x v)
 | [],_,_,_=>rfl
 | o::r,k,b,h=>by
   unfold actS
   rw[actS_put r (k+1) _ fun o' ho'=>h o' (by simp[ho'])]
   congr 1
   split
   ·exact Act.put_comm _ _ _ fun d hd=>h o (by simp) d hd
   ·rfl
theorem actS_congr {S S':Nat→Bool} {vs vs':Nat→Value}: ∀(r:List Oper) (k:Nat) (b:Act),(∀j,j<r.length→S (k+j)=S' (k+j)∧(S (k+j)=true→vs (k+j)=vs' (k+j)))→actS S vs r k b=actS S' vs' r k b
 | [],_,_,_=>rfl
 | o::r,k,b,h=>by
   unfold actS
   have h0:=h 0 (by simp)
   rw[Nat.add_zero] at h0
   rw[actS_congr r (k+1) _ fun j hj=>by have:=h (j+1) (by simp;omega);rwa [show k+(j+1)=k+1+j by omega] at this]
   congr 1
   rw[←h0.1]
   split
   ·rename_i q;rw[h0.2 q]
   ·rfl
theorem actS_set {S:Nat→Bool} {vs:Nat→Value} {v:Value}: ∀(r:List Oper) (k:Nat) (b:Act) (i:Nat) (o:Oper),r[i]? =some o→S (k+i)=false→
  (∀j o',r[j]? =some o'→i≠j→ ∀d,o.dst=some d→o'.dst≠some d)→
  (actS S vs r k b).put o.dst v=actS (fun j=>S j||decide (j=k+i)) (fun j=>if j=k+i then v else vs j) r k b
 | [],_,_,_,_,h,_,_=>by simp at h
 | o'::r,k,b,0,o,h,hS,hd=>by
   obtain rfl:o'=o:=by simpa using h
   rw[Nat.add_zero] at hS
   unfold actS
   rw[hS,actS_put r (k+1) _ fun o2 ho2 d hd2 e=> ?_]
   ·simp only[Nat.add_zero,decide_true,Bool.or_true,if_true,Bool.false_eq_true,if_false]
    refine actS_congr r (k+1) _ fun j hj=>⟨by rw[decide_eq_false (by omega),Bool.or_false],fun _=>by rw[if_neg (by omega)]⟩
   ·obtain⟨j,hj⟩:=List.mem_iff_getElem?.1 ho2
    exact hd (j+1) o2 (by simpa using hj) (by omega) d e hd2
 | o'::r,k,b,i+1,o,h,hS,hd=>by
   unfold actS
   have e:k+(i+1)=k+1+i:=by omega
   rw[actS_set r (k+1) _ i o (by simpa using h) (by rw[←e];exact hS) fun j o2 hj hij=>hd (j+1) o2 (by simpa using hj) (by omega),e]
   congr 1
   have hk:decide (k=k+1+i)=false:=decide_eq_false (by omega)
   simp only[hk,Bool.or_false]
   rw[if_neg (show ¬k=k+1+i by omega)]
end
theorem wp_swap {P:Program} {o:Oper} {b b':Act} {W:World} {next:Act→World→Prop} {Q:Exit→Act→World→Prop} {G:Value→World→Prop} (he:execOp b'.eval o=execOp b.eval o)
  (h:o.wp P b W (fun c W'=> ∃v,c=b.put o.dst v∧G v W') (fun e _ _=>e= .outgrown∧False))
  (hz: ∀t,o.dst=some t→t<b.tmps.size) (hn: ∀v W',G v W'→next (b'.put o.dst v) W'):o.wp P b' W next Q:=by
 have key: ∀v W',(∃u,b.put o.dst v=b.put o.dst u∧G u W')→next (b'.put o.dst v) W':=fun v W' ⟨u,hu,hg⟩=>by
  have:=hn u W' hg
  cases hd:o.dst with
  | none=>rw[hd] at this;exact this
  | some t=>
    rw[hd] at this hu
    have e:v=u:=by
     have h1:=congrArg (fun c:Act=>c.tmps[t]?) hu
     simp only[Act.put] at h1
     rw[Array.getElem?_setIfInBounds_self_of_lt (hz t hd),Array.getElem?_setIfInBounds_self_of_lt (hz t hd)] at h1
     injection h1
    rw[e];exact this
 unfold Oper.wp at*
 rw[he]
 generalize (execOp b.eval o).run P W=r at*
 cases r with
 | ok n w'=>
   cases n<;>simp only[Oper.upon] at h⊢
   case value v=>exact key v w' h
   case skip=>exact key undef w' h
   case defer d=> 
    obtain⟨v,hv,_⟩:=h
    exfalso
    have h1:=congrArg (fun c:Act=>c.defers.length) hv
    have e1: ∀(c:Act) (v:Value),(c.put o.dst v).defers=c.defers:=fun c v=>by cases o.dst<;>rfl
    simp[e1] at h1
   case enter f args=>
    refine Calls.mono h fun e w'' he=> ?_
    cases e with
    | returned v=>exact key v w'' he
    | panicked c=>exact he.2.elim
    | outgrown=>obtain⟨_,_,h1⟩:=he;exact h1.2.elim
   case row row args=>exact Rows.mono h fun v w'' he=>key v w'' he
 | halt x w'=>cases x<;>simp only[Oper.upon] at h⊢ <;>exact h.2.elim
section
variable {P:Program} {l:List Oper} {L:List Sp} {w:World} {a:Act} {Q:Exit→Act→World→Prop}
theorem obl_at {vs:Nat→Value} (hvs: ∀j,j<l.length→(spA L j).pick (vs j)=vs j): ∀(r:List Oper) (ss:List Sp) (k:Nat) (b:Act),(∀j,r[j]? =l[k+j]?)→(∀j,ss.getD j (.val undef)=spA L (k+j))→Obl P w l L vs Q r ss k b→
  (∀i o,r[i]? =some o→ ∀W K Q0,Hid (Below w.heap.size w W)→Hid (∀j,reachB l l.length (k+i) j=true→(spA L j).R vs W (vs j))→Hid (∀v W',Below W.heap.size W W'→(spA L (k+i)).S vs W W' v→K ((actS (fun j=>decide (j<k+i)) vs r k b).put o.dst v) W')→o.wp P (actS (fun j=>decide (j<k+i)) vs r k b) W K Q0)∧
  (∀W',Hid (Below w.heap.size w W')→Hid (∀j,j<l.length→(spA L j).R vs W' (vs j))→Hid (∀i j,i<l.length→j<l.length→i≠j→(spA L i).fr=true→(spA L j).fr=true→ ∀x,(vs i).ownBlock=some x→(vs j).ownBlock≠some x)→Q .normal (actS (fun _=>true) vs r k b) W')
 | [],_,_,_,_,_,h=>⟨fun i o ho=>by simp at ho,h⟩
 | _::_,[],_,_,_,_,h=>h.elim
 | o::r,s::ss,k,b,hr,hs,h=>by
   obtain⟨h1,h2⟩:=h
   have hs0:s=spA L k:=by simpa using hs 0
   have hk:k<l.length:=by
    have:=hr 0
    rw[Nat.add_zero] at this
    exact(List.getElem?_eq_some_iff.1 this.symm).1
   rw[hs0,hvs k hk] at h2
   have hn:=obl_at hvs r ss (k+1) _ (fun j=>by have:=hr (j+1);rw[show k+(j+1)=k+1+j by omega] at this;simpa using this) (fun j=>by have:=hs (j+1);rw[show k+(j+1)=k+1+j by omega] at this;simpa using this) h2
   refine⟨fun i o' ho'=> ?_,?_⟩
   ·cases i with
    | zero=>
      obtain rfl:o=o':=by simpa using ho'
      have e:actS (fun j=>decide (j<k+0)) vs (o::r) k b=b:=by
       unfold actS
       rw[decide_eq_false (by omega)]
       have: ∀(r:List Oper) (k2:Nat) (b:Act),k≤k2→actS (fun j=>decide (j<k+0)) vs r k2 b=b:=by
        intro r
        induction r with
        | nil=>intros;rfl
        | cons o r ih=>
          intro k2 b hk2
          unfold actS
          rw[decide_eq_false (by omega)]
          exact ih (k2+1) b (by omega)
       exact this r (k+1) b (by omega)
      rw[e,Nat.add_zero,←hs0]
      exact h1
    | succ i=>
      have e:k+(i+1)=k+1+i:=by omega
      have:=hn.1 i o' (by simpa using ho')
      rw[e]
      unfold actS
      rw[decide_eq_true (by omega)]
      exact this
   ·exact hn.2
theorem nlisted_set {listed:Array Bool} {i:Nat} (hi:i<listed.size) (h:listed.getD i false=false) (n:Nat) (hn:i<n):
  ((List.range n).filter fun j=> !(listed.setIfInBounds i true).getD j false).length+1=((List.range n).filter fun j=> !listed.getD j false).length:=by
 induction n with
 | zero=>omega
 | succ n ih=>
   rw[List.range_succ,List.filter_append,List.filter_append,List.length_append,List.length_append]
   by_cases e:i=n
   ·subst e
    have e1:(List.range i).filter (fun j=> !(listed.setIfInBounds i true).getD j false)=(List.range i).filter fun j=> !listed.getD j false:=by
     refine List.filter_congr fun j hj=> ?_
     rw[getD_set_ne false (by have:=List.mem_range.1 hj;omega)]
    have e2:(listed.setIfInBounds i true).getD i false=true:=by simp[hi]
    rw[e1]
    simp only[List.filter_cons,List.filter_nil,e2,h,Bool.not_true,Bool.not_false,Bool.false_eq_true,if_false,if_true,List.length_nil,List.length_singleton]
   ·have:=ih (by omega)
    simp only[List.filter_cons,List.filter_nil,getD_set_ne false e]
    omega
def cpB (l:List Oper) (L:List Sp):Bool:=(List.range l.length).all fun k=>match spA L k with
 | .cp j=>reachB l l.length k j
 | _=>true
theorem fre_any (hB:freB l=true) (hcp:cpB l L=true) (hsz: ∀(i:Nat) (o:Oper),l[i]? =some o→ ∀t,o.dst=some t→t<a.tmps.size) (h: ∀vs,Obl P w l L vs Q l L 0 a): ∀(fuel:Nat) (listed:Array Bool) (vs:Nat→Value) (W:World),
  ((List.range l.length).filter fun j=> !listed.getD j false).length=fuel→Cl l.toArray listed→Below w.heap.size w W→(∀j,j<l.length→(spA L j).pick (vs j)=vs j)→(∀j,listed.getD j false=true→(spA L j).R vs W (vs j))→(∀i j,listed.getD i false=true→listed.getD j false=true→i≠j→(spA L i).fr=true→(spA L j).fr=true→ ∀x,(vs i).ownBlock=some x→(vs j).ownBlock≠some x)→
  wpAny P .any l.toArray Q fuel listed (actS (fun j=>listed.getD j false) vs l 0 a) W:=by
 have all: ∀(listed:Array Bool) (vs:Nat→Value) (W:World),Cl l.toArray listed→Below w.heap.size w W→(∀j,j<l.length→(spA L j).pick (vs j)=vs j)→(∀j,listed.getD j false=true→(spA L j).R vs W (vs j))→(∀i j,listed.getD i false=true→listed.getD j false=true→i≠j→(spA L i).fr=true→(spA L j).fr=true→ ∀x,(vs i).ownBlock=some x→(vs j).ownBlock≠some x)→(∀j,j<l.length→listed.getD j false=true)→Q .normal (actS (fun j=>listed.getD j false) vs l 0 a) W:=fun listed vs W _ hb hp hr hdj hl=>by
  have:=(obl_at hp l L 0 a (fun j=>by rw[Nat.zero_add]) (fun j=>by rw[Nat.zero_add];rfl) (h vs)).2 W (hDD hb) (hDD fun j hj=>hr j (hl j hj)) (hDD fun i j hi hj=>hdj i j (hl i hi) (hl j hj))
  rwa [actS_congr (S':=fun _=>true) (vs':=vs) l 0 a fun j hj=>by rw[Nat.zero_add];exact⟨hl j hj,fun _=>rfl⟩]
 have none_ready: ∀(listed:Array Bool),Cl l.toArray listed→Region.ready .any l.toArray listed= []→ ∀j,j<l.length→listed.getD j false=true:=fun listed hc hr j=>by
  induction j using Nat.strongRecOn with
  | _ j ih=>
    intro hj
    by_cases q:listed.getD j false=true
    ·exact q
    ·exfalso
     have:j∈Region.ready .any l.toArray listed:=by
      rw[mem_ready]
      refine⟨by rw[getD_tf (by rw[hc.1];simpa using hj)];simpa using q,l[j],by simp[hj],fun e he hb=> ?_⟩
      have:=((fre_parts hB).2 j l[j] (List.getElem?_eq_getElem hj)).2.1 e he hb
      exact ih e.on this (by omega)
     rw[hr] at this
     cases this
 intro fuel
 induction fuel with
 | zero=>
   intro listed vs W hf hc hb hp hr hdj
   have hl: ∀j,j<l.length→listed.getD j false=true:=fun j hj=>by
    have:=List.filter_eq_nil_iff.1 (List.eq_nil_of_length_eq_zero hf) j (List.mem_range.2 hj)
    simpa using this
   refine⟨?_,all listed vs W hc hb hp hr hdj hl⟩
   cases hq:Region.ready .any l.toArray listed with
   | nil=>rfl
   | cons i r=>
     obtain⟨h1,o,ho,_⟩:=mem_ready.1 (show i∈Region.ready .any l.toArray listed by rw[hq];simp)
     have hi:i<l.length:=by simpa using (Array.getElem?_eq_some_iff.1 ho).1
     rw[getD_tf (by rw[hc.1];simpa using hi),hl i hi] at h1
     cases h1
 | succ fuel ih=>
   intro listed vs W hf hc hb hp hr hdj
   refine⟨fun h0=>all listed vs W hc hb hp hr hdj (none_ready listed hc h0),fun i hi=> ?_⟩
   obtain⟨h1,o,ho,hdeps⟩:=mem_ready.1 hi
   have ho':l[i]? =some o:=by simpa using ho
   have hil:i<l.length:=(List.getElem?_eq_some_iff.1 ho').1
   have his:i<listed.size:=by rw[hc.1];simpa using hil
   have hif:listed.getD i false=false:=by rw[←getD_tf his];exact h1
   obtain⟨hgd,_,hdst,hlook⟩:=(fre_parts hB).2 i o ho'
   have hsel:=fun (cs:Array SelectCase) (b:Bool)=>Region.noSelect_spec (fre_parts hB).1 i o cs b ho
   have hob:=(obl_at hp l L 0 a (fun j=>by rw[Nat.zero_add]) (fun j=>by rw[Nat.zero_add];rfl) (h vs)).1 i o ho'
   rw[Nat.zero_add] at hob
   have hlst: ∀j,reachB l l.length i j=true→listed.getD j false=true:=fun j hj=>reach_listed hc l.length i j (fun o2 ho2 e he hb=>by rw[ho'] at ho2;injection ho2 with ho2;subst ho2;exact hdeps e he hb) hj
   have hwp:=hob W (fun c W'=> ∃v,c=(actS (fun j=>decide (j<i)) vs l 0 a).put o.dst v∧(Below W.heap.size W W'∧(spA L i).S vs W W' v)) (fun e _ _=>e= .outgrown∧False) (hDD hb) (hDD fun j hj=>hr j (hlst j hj)) (hDD fun v W' hbv hv=>⟨v,rfl,hbv,hv⟩)
   unfold wpOp
   simp only[ho]
   rw[if_pos (wanted_none hgd _)]
   refine .inl (wp_swap ?_ hwp (fun t ht=> ?_) fun v W' ⟨hbv,hv⟩=> ?_)
   ·refine execOp_congr o (fun cs b e=>hsel cs b e) fun x hx=> ?_
    cases x with
    | tmp t=>
      refine actS_eval l 0 a a rfl rfl fun k o' hk hd=> ?_
      rw[Nat.zero_add]
      have ht:t∈o.looksAt l.toArray:=List.mem_append_left _ (List.mem_filterMap.2 ⟨.tmp t,by simpa using hx,rfl⟩)
      rcases hlook k o' t hk hd ht with q | q
      ·rw[hlst k q,decide_eq_true (reach_lt hB _ _ _ q)]
      ·have hki:=reach_lt hB _ _ _ q
       rw[decide_eq_false (by omega)]
       cases hkl:listed.getD k false with
       | false=>rfl
       | true=>
         exfalso
         have:=reach_listed hc l.length k i (fun o2 ho2 e he hb=>hc.2 k o2 (by simpa using ho2) hkl e he hb) q
         rw[hif] at this
         cases this
    | const v=>rfl
    | global g=>rfl
    | func f=>rfl
   ·have: ∀(S:Nat→Bool) (r:List Oper) (k:Nat) (b:Act),(actS S vs r k b).tmps.size=b.tmps.size:=by
     intro S r
     induction r with
     | nil=>intros;rfl
     | cons o r ih=>intro k b;unfold actS;rw[ih];split;exact put_size _ _ _;rfl
    rw[this]
    exact hsz i o ho' t ht
   ·have e:=actS_set (S:=fun j=>listed.getD j false) (vs:=vs) (v:=v) l 0 a i o ho' (by rw[Nat.zero_add];exact hif) fun j o2 hj hij d hd=>hdst j o2 hj hij d hd
    rw[Nat.zero_add] at e
    rw[e]
    rw[actS_congr (S':=fun j=>(listed.setIfInBounds i true).getD j false) (vs':=fun j=>if j=i then v else vs j) l 0 a fun j hj=>⟨by
     rw[Nat.zero_add]
     by_cases q:j=i
     ·subst q;simp[his]
     ·rw[decide_eq_false q,Bool.or_false,getD_set_ne false (fun e=>q e.symm)],fun _=>rfl⟩]
    have hset: ∀j,(listed.setIfInBounds i true).getD j false=true→j≠i→listed.getD j false=true:=fun j hj q=>by
     rwa [getD_set_ne false (fun e=>q e.symm)] at hj
    have hkeep: ∀j W'',listed.getD j false=true→(spA L j).R vs W'' (vs j)→(spA L j).R (fun j=>if j=i then v else vs j) W'' (vs j):=fun j W'' hj h=>by
     have hjl:j<l.length:=by
      by_cases q:j<l.length
      ·exact q
      ·rw[Array.getD_eq_getD_getElem?,Array.getElem?_eq_none (by rw[hc.1];simpa using q)] at hj
       cases hj
     have h1:=List.all_eq_true.1 hcp j (List.mem_range.2 hjl)
     cases hs:spA L j with
     | val c=>rw[hs] at h;exact h
     | own p q=>rw[hs] at h;exact h
     | new p q=>rw[hs] at h;exact h
     | cp m=>
       rw[hs] at h h1
       have hml:=reach_listed hc l.length j m (fun o2 ho2 e he hb=>hc.2 j o2 (by simpa using ho2) hj e he hb) h1
       have hmi:m≠i:=fun e=>by rw[e,hif] at hml;cases hml
       show vs j=if m=i then v else vs m
       rw[if_neg hmi]
       exact h
    have hSi:(spA L i).S (fun j=>if j=i then v else vs j) W W' v:=by
     have h1:=List.all_eq_true.1 hcp i (List.mem_range.2 hil)
     cases hs:spA L i with
     | val c=>rw[hs] at hv;exact hv
     | own p q=>rw[hs] at hv;exact hv
     | new p q=>rw[hs] at hv;exact hv
     | cp m=>
       rw[hs] at hv h1
       have hmi:m≠i:=fun e=>by have:=reach_lt hB _ _ _ h1;omega
       show v=if m=i then v else vs m
       rw[if_neg hmi]
       exact hv
    refine ih (listed.setIfInBounds i true) _ W' ?_ (hc.set hi) (hb.trans (hbv.mono hb.size)) (fun j hj=> ?_) (fun j hj=> ?_) fun p q hp2 hq2 hpq fp fq x ep eq=> ?_
    ·have:=nlisted_set his hif l.length hil
     omega
    ·by_cases q:j=i
     ·subst q;simp only[if_true];exact Sp.pick_of vs _ ((spA L j).made vs hv)
     ·simp only[if_neg q];exact hp j hj
    ·by_cases q:j=i
     ·subst q;simp only[if_true];exact(spA L j).made _ hSi
     ·simp only[if_neg q]
      exact hkeep j W' (hset j hj q) ((spA L j).stable vs (hr j (hset j hj q)) hbv)
    ·have newS: ∀(s:Sp) (z:Value),s.fr=true→s.S vs W W' z→ ∀y,z.ownBlock=some y→W.heap.size≤y:=fun s z hs h y hy=>by
      cases s with
      | new p q=>exact(h.2 y hy).1
      | _=>cases hs
     have newR: ∀(s:Sp) (z:Value),s.fr=true→s.R vs W z→ ∀y,z.ownBlock=some y→y<W.heap.size:=fun s z hs h y hy=>by
      cases s with
      | new p q=>exact h.2 y hy
      | _=>cases hs
     by_cases e1:p=i
     ·have e2:q≠i:=fun e=>hpq (e1.trans e.symm)
      rw[if_neg e2] at eq
      rw[if_pos e1] at ep
      rw[e1] at fp
      have h1:=newS _ _ fp hv x ep
      have h2:=newR _ _ fq (hr q (hset q hq2 e2)) x eq
      omega
     ·by_cases e2:q=i
      ·rw[if_pos e2] at eq
       rw[if_neg e1] at ep
       rw[e2] at fq
       have h1:=newS _ _ fq hv x eq
       have h2:=newR _ _ fp (hr p (hset p hp2 e1)) x ep
       omega
      ·rw[if_neg e2] at eq
       rw[if_neg e1] at ep
       exact hdj p q (hset p hp2 e1) (hset q hq2 e2) hpq fp fq x ep eq
theorem wp_region_fresh {id:Nat} (L:List Sp) (hm:P.follows .mixedOrders=true) (hB:freB l=true) (hcp:cpB l L=true) (hsz:(l.all fun o=>match o.dst with | some t=>decide (t<a.tmps.size) | none=>true)=true)
  (h: ∀vs,Obl P w l L vs Q l L 0 a):(Code.region id l.toArray true).wp P Q a w:=by
 refine wp_region_any hm ?_
 have hv: ∀j,j<l.length→(spA L j).pick ((spA L j).pick undef)=(spA L j).pick undef:=fun j _=>by cases spA L j<;>rfl
 have h0: ∀j,(Array.replicate l.toArray.size false).getD j false=false:=fun j=>by
  simp only[Array.getD_eq_getD_getElem?,Array.getElem?_replicate]
  split<;>rfl
 have:=fre_any (P:=P) (Q:=Q) (w:=w) hB hcp (fun i o ho t ht=>by
  have:=List.all_eq_true.1 hsz o (List.mem_of_getElem? ho)
  rw[ht] at this
  simpa using this) h l.toArray.size (Array.replicate l.toArray.size false) (fun j=>(spA L j).pick undef) {w with drawn:=w.drawn+1} (by
   have:(List.range l.length).filter (fun j=> !(Array.replicate l.toArray.size false).getD j false)=List.range l.length:=List.filter_eq_self.2 fun j _=>by rw[h0];rfl
   rw[this];simp) ⟨by simp,fun j o _ hj=>by rw[h0] at hj;cases hj⟩ (Below.refl _ _).drew hv (fun j hj=>by rw[h0] at hj;cases hj) (fun i j hi=>by rw[h0] at hi;cases hi)
 have e:actS (fun j=>(Array.replicate l.toArray.size false).getD j false) (fun j=>(spA L j).pick undef) l 0 a=a:=by
  have: ∀(r:List Oper) (k:Nat) (b:Act),actS (fun j=>(Array.replicate l.toArray.size false).getD j false) (fun j=>(spA L j).pick undef) r k b=b:=by
   intro r
   induction r with
   | nil=>intros;rfl
   | cons o r ih=>intro k b;unfold actS;rw[h0];exact ih _ _
  exact this l 0 a
 rw[e] at this
 exact this
end
end Go.Proofs.YtfadnkjlilhneaaGreat
namespace Go.Proofs.YtfadnkjlilhneaaGreat
set_option maxRecDepth 20000
set_option linter.unusedVariables false
set_option linter.unusedSimpArgs false
open Go.RowKit
def fwI (g:GrD):Int×Int:=match fstW g with
 | some p=>(((p/g.2.1.toNat:Nat):Int),((p%g.2.1.toNat:Nat):Int))
 | none=>(-1,-1)
theorem fstW_some {g:GrD} {p:Nat} (hp:p<g.2.1.toNat*g.2.1.toNat) (h:okW g g.2.1.toNat g.1.toNat p=true) (hn: ∀q,q<p→okW g g.2.1.toNat g.1.toNat q=false):fstW g=some p:=by
 unfold fstW
 rw[List.find?_range_eq_some]
 exact⟨h,List.mem_range.2 hp,fun j hj=>by rw[hn j hj];rfl⟩
theorem fstW_none {g:GrD} (hn: ∀q,q<g.2.1.toNat*g.2.1.toNat→okW g g.2.1.toNat g.1.toNat q=false):fstW g=none:=by
 unfold fstW
 rw[List.find?_eq_none]
 exact fun q hq=>by rw[hn q (List.mem_range.1 hq)];decide
theorem fstW_lt {g:GrD} {p:Nat} (h:fstW g=some p):p<g.2.1.toNat*g.2.1.toNat∧okW g g.2.1.toNat g.1.toNat p=true:=by
 unfold fstW at h
 exact⟨List.mem_range.1 (List.mem_of_find?_eq_some h),List.find?_some h⟩
set_option maxHeartbeats 2000000 in
theorem l24First_any (v:Value) (g:GrD) (w:World) (h:ArgG w v g) (hf:foldB g=true):
  Calls Tryz.prog 25 #[v] w fun e w'=>e= .returned (.tuple #[.int .i64 (fwI g).1, .int .i64 (fwI g).2])∧Below w.heap.size w w':=by
 have HG:=hDD h
 have hgr:=(foldB_parts hf).1
 obtain⟨h13,h40,h120,_⟩:=grB_parts hgr
 have H2:=hDD (two_fold hf hf)
 have HS:=hDD (fun p h1 h2 h3=>fstW_some (g:=g) (p:=p) h1 h2 h3)
 have HN:=hDD (fun h=>fstW_none (g:=g) h)
 have HFW:Hid (fwI g=match fstW g with | some p=>(((p/g.2.1.toNat:Nat):Int),((p%g.2.1.toNat:Nat):Int)) | none=>(-1,-1)):=hDD rfl
 generalize fstW g=FW at*
 generalize fwI g=R at*
 obtain⟨s,rfl,hi1,hi2,hga⟩:=h
 obtain⟨A,cap,rfl⟩:=hga.form
 obtain⟨g1,N,es⟩:=g
 simp only at*
 clear hga hf hgr
 obtain⟨n,rfl⟩: ∃n:Nat,N=(n:Int):=⟨N.toNat,by omega⟩
 obtain⟨rr,rfl⟩: ∃r:Nat,g1=(r:Int):=⟨g1.toNat,by omega⟩
 simp only[Int.toNat_natCast] at H2 HS HN HFW
 go_enter Tryz.func25,Tryz.ntmps25
 go_wp2_with fail
 obtain⟨W,hW⟩: ∃W,W=w.alloc (Obj.cells #[.int .i64 (rr:Int), .int .i64 (n:Int), .slice A es.length cap] 31):=⟨_,rfl⟩
 rw[←hW]
 obtain⟨xG,bG,sG⟩:=CBx.new hW
 clear hW
 have XG:=hDD xG
 have BX:=hDD bG
 have hsW:w.heap.size+1≤W.heap.size:=by omega
 clear xG bG sG
 have HA:Hid (∀w',Below W.heap.size W w'→ArgG w' (.agg #[.int .i64 (rr:Int), .int .i64 (n:Int), .slice A es.length cap]) ((rr:Int),(n:Int),es)):=hDD fun w' hb=>HG.out.below (BX.out.trans (hb.mono (by omega)))
 go_loopw [4] (fun i wr=> ∃k:Nat,k≤n∧i= .int .i64 k∧Hid (∀q,q<k*n→okW ((rr:Int),(n:Int),es) n rr q=false)∧Below W.heap.size W wr) (fun i _=>n-(intOf i).toNat)
 case atStart=>exact⟨0,Nat.zero_le _,rfl,hDD fun q hq=>by omega,Below.refl _ _⟩
 case round=>
  obtain⟨k,hk,rfl,hno,hb⟩:=hrel
  obtain⟨wk,rfl⟩: ∃wk:World,wk=wr:=⟨_,rfl⟩
  have B1:=hDD hb
  have hs1:=hb.size
  clear hb
  have uXG0:=(XG.out.below B1.out).c0
  have uXG1:=(XG.out.below B1.out).c1
  have uXG2:=(XG.out.below B1.out).c2
  rcases Nat.lt_or_ge k n with hlt | hge
  ·have hkI:(k:Int)<(n:Int):=by omega
   go_wp2
   go_loopw [5] (fun j wr=> ∃m:Nat,m≤n∧j= .int .i64 m∧Hid (∀q,q<k*n+m→okW ((rr:Int),(n:Int),es) n rr q=false)∧Below W.heap.size W wr) (fun j _=>n-(intOf j).toNat)
   case atStart=>exact⟨0,Nat.zero_le _,rfl,hno,B1.out⟩
   case round=>
    clear uXG0 uXG1 uXG2
    clear B1 hs1 hno
    obtain⟨m,hm,rfl,hno,hb⟩:=hrel
    obtain⟨wm,rfl⟩: ∃wk:World,wk=wr:=⟨_,rfl⟩
    have B1:=hDD hb
    have hs1:=hb.size
    clear hb
    have uXG0:=(XG.out.below B1.out).c0
    have uXG1:=(XG.out.below B1.out).c1
    have uXG2:=(XG.out.below B1.out).c2
    rcases Nat.lt_or_ge m n with hlt2 | hge2
    ·have hmI:(m:Int)<(n:Int):=by omega
     have hp:k*n+m<n*n:=pair_lt hlt hlt2
     have HP:=hDD hp
     clear hp
     go_wp2_with fail
     clear uXG0 uXG1 uXG2
     refine(l14Pairs_any _ _ _ _ n n rr (k*n+m) k m wm (HA.out wm B1.out) (HA.out wm B1.out) H2.out rfl rfl HP.out rfl).mono ?_
     rintro e w3 ⟨sP,rfl,oP,b3⟩
     have B3:=hDD (B1.out.trans (b3.mono hs1))
     have hs3:=b3.size
     clear b3
     have HNE:Hid ((k*n+m)/n=k∧(k*n+m)%n=m):=hDD ⟨by rw[Nat.mul_comm,Nat.mul_add_div (by omega),Nat.div_eq_of_lt hlt2,Nat.add_zero],by rw[Nat.mul_comm,Nat.mul_add_mod,Nat.mod_eq_of_lt hlt2]⟩
     have HOK:Hid (okW ((rr:Int),(n:Int),es) n rr (k*n+m)=(decide (k≠m)&&decide ((prsL ((rr:Int),(n:Int),es) ((rr:Int),(n:Int),es) n n (lettersL rr) (k*n+m)).length≤edgL es es n rr (prsL ((rr:Int),(n:Int),es) ((rr:Int),(n:Int),es) n n (lettersL rr) (k*n+m))))):=hDD (by unfold okW;rw[HNE.out.1,HNE.out.2])
     have HPL:=hDD (prs_lt (ls:=lettersL rr) H2.out HP.out)
     have hp16:(prsL ((rr:Int),(n:Int),es) ((rr:Int),(n:Int),es) n n (lettersL rr) (k*n+m)).length≤1600:=by
      have h1:=nodup_lt (prs_nodup (a:=((rr:Int),(n:Int),es)) (b:=((rr:Int),(n:Int),es)) (A:=n) (B:=n) (p:=k*n+m) (lettersL rr)) (HPL.out)
      have h2:n*n≤40*40:=Nat.mul_le_mul (by omega) (by omega)
      omega
     generalize prsL ((rr:Int),(n:Int),es) ((rr:Int),(n:Int),es) n n (lettersL rr) (k*n+m)=PS at*
     have HOP:=hDD oP
     obtain⟨AP,cP,rfl,_⟩:=oP.form
     have hnl:(ns PS).length=PS.length:=ns_len PS
     have HED:=hDD (l14Edges_any (.agg #[.int .i64 (rr:Int), .int .i64 (n:Int), .slice A es.length cap]) (.agg #[.int .i64 (rr:Int), .int .i64 (n:Int), .slice A es.length cap]) (.slice AP (ns PS).length cP) ((rr:Int),(n:Int),es) ((rr:Int),(n:Int),es) n n rr PS w3 (HA.out w3 B3.out) (HA.out w3 B3.out) HOP.out.rd H2.out rfl rfl HPL.out hp16)
     have hel:=edgL_le es es n rr (by omega) PS
     obtain⟨E,hE⟩: ∃E,E=edgL es es n rr PS:=⟨_,rfl⟩
     rw[←hE] at HOK hel
     simp only at HED
     rw[←hE] at HED
     rw[hnl] at HED⊢
     clear oP hnl hE
     have hstep: ∀(hf:okW ((rr:Int),(n:Int),es) n rr (k*n+m)=false),∀q,q<k*n+(m+1)→okW ((rr:Int),(n:Int),es) n rr q=false:=fun hf q hq=>by
      rcases Nat.lt_or_ge q (k*n+m) with h1 | h1
      ·exact hno.out q h1
      ·rwa [show q=k*n+m by omega]
     have HST:=hDD hstep
     clear hstep
     rcases Nat.lt_or_ge k m with hkm | hkm
     rotate_left
     rcases Nat.lt_or_ge m k with hmk | hmk
     rotate_left
     ·have hkm2:k=m:=by omega
      have F:=hDD (HST.out (by rw[HOK.out,decide_eq_false (by omega)];rfl))
      subst hkm2
      have hbq:((k:Int) != (k:Int))=false:=by simp
      go_wp2
      go_roundw
      case rel=>exact⟨k+1,by omega,by go_num,F,B3.out⟩
      case measure=>simp[intOf];omega
     all_goals
      have hbq:((k:Int) != (m:Int))=true:=by simp;omega
      have hkme:decide (k≠m)=true:=decide_eq_true (by omega)
      rw[hkme,Bool.true_and] at HOK
      clear hkme
      have uXG0:=(XG.out.below B3.out).c0
      have uXG1:=(XG.out.below B3.out).c1
      have uXG2:=(XG.out.below B3.out).c2
      go_wp2_with fail
      clear uXG0 uXG1 uXG2
      refine HED.out.mono ?_
      rintro e w4 ⟨rfl,b4⟩
      have B4:=hDD (B3.out.trans (b4.mono (by omega)))
      clear b4 HED
      rcases Nat.lt_or_ge E PS.length with hlE | hgE
      ·have F:=hDD (HST.out (by rw[HOK.out,decide_eq_false (by omega)]))
       have hIE: ¬(PS.length:Int)≤(E:Int):=by omega
       go_wp2
       go_roundw
       case rel=>exact⟨m+1,by omega,by go_num,F,B4.out⟩
       case measure=>simp[intOf];omega
      ·have F:=hDD (HS.out _ HP.out (by rw[HOK.out,decide_eq_true (by omega)]) hno.out)
       have hIE:(PS.length:Int)≤(E:Int):=by omega
       have HR:Hid (R=((k:Int),(m:Int))):=hDD (by rw[HFW.out,F.out];simp only;rw[HNE.out.1,HNE.out.2])
       go_wp2
       exact bodyPost_ret (v:= .tuple #[.int .i64 (k:Int), .int .i64 (m:Int)]) (by simp[results,Tryz.results25]) rfl ⟨by rw[HR.out],BX.out.trans (B4.out.mono (by omega))⟩
    ·have hme:m=n:=by omega
     subst hme
     have F:Hid (∀q,q<(k+1)*m→okW ((rr:Int),(m:Int),es) m rr q=false):=hDD fun q hq=>hno.out q (by rw[Nat.add_mul,Nat.one_mul] at hq;exact hq)
     go_wp2
     go_roundw
     case rel=>exact⟨k+1,by omega,by go_num,F,B1.out⟩
     case measure=>simp[intOf];omega
  ·have hke:k=n:=by omega
   subst hke
   have F:=hDD (HN.out hno.out)
   have HR:Hid (R=(-1,-1)):=hDD (by rw[HFW.out,F.out])
   go_wp2
   exact bodyPost_ret (v:= .tuple #[.int .i64 (-1), .int .i64 (-1)]) (by simp[results,Tryz.results25]) rfl ⟨by rw[HR.out],BX.out.trans (B1.out.mono (by omega))⟩
theorem red_more (x y:List Int):redL [] (redL [] x++y)=redL [] (x++y):=by
 have h1:redL [] (redL [] x++y)=redL (redL [] (redL [] x)) y:=by unfold redL;rw[List.foldl_append]
 rw[h1,show redL [] (redL [] x)=redL [] x from by simpa using redL_id (acc:= []) (xs:=redL [] x) (by simpa using redL_red redP_nil)]
 unfold redL
 rw[List.foldl_append]
def lp0 (P:GrD):List Int:=match extL P with
 | []=> []
 | e::_=>redL [] ((wdO P e.1++ [e.2.1])++invL (wdO P e.2.2))
def malF (g:GrD):List Int×List Int×Bool:=
 if coreB g=true then(match fstW g with
  | none=>([],[],false)
  | some p=>if(pbRes g g (p/g.2.1.toNat) (p%g.2.1.toNat)).2=true then
    (redL [] (wdO g ((p/g.2.1.toNat:Nat):Int)++invL (wdO g ((p%g.2.1.toNat:Nat):Int))),redL [] ((wdO g ((p%g.2.1.toNat:Nat):Int)++lp0 (pbRes g g (p/g.2.1.toNat) (p%g.2.1.toNat)).1)++invL (wdO g ((p%g.2.1.toNat:Nat):Int))),true)
    else([],[],false))
 else([],[],false)
structure MalH (g:GrD) (R:List Int×List Int×Bool):Prop where
 c0:coreB g=false→R=([],[],false)
 c1:fstW g=none→R=([],[],false)
 c2: ∀p,fstW g=some p→(pbRes g g (p/g.2.1.toNat) (p%g.2.1.toNat)).2=false→R=([],[],false)
 c3:coreB g=true→ ∀p,fstW g=some p→(pbRes g g (p/g.2.1.toNat) (p%g.2.1.toNat)).2=true→R=(redL [] (wdO g ((p/g.2.1.toNat:Nat):Int)++invL (wdO g ((p%g.2.1.toNat:Nat):Int))),redL [] ((wdO g ((p%g.2.1.toNat:Nat):Int)++lp0 (pbRes g g (p/g.2.1.toNat) (p%g.2.1.toNat)).1)++invL (wdO g ((p%g.2.1.toNat:Nat):Int))),true)
theorem malF_h (g:GrD):MalH g (malF g):=by
 refine⟨fun h=> ?_,fun h=> ?_,fun p h1 h2=> ?_,fun h0 p h1 h2=> ?_⟩<;>unfold malF
 ·rw[if_neg (by rw[h];decide)]
 ·rw[h];split<;>rfl
 ·rw[h1];simp only[h2];split<;>rfl
 ·rw[if_pos h0,h1];simp only[h2,if_true]
theorem mal_pb {g:GrD} {p:Nat} (hc:coreB g=true) (h:fstW g=some p) (hok:(pbRes g g (p/g.2.1.toNat) (p%g.2.1.toNat)).2=true):
  ((p/g.2.1.toNat:Nat):Int)<g.2.1∧((p%g.2.1.toNat:Nat):Int)<g.2.1∧foldB (pbRes g g (p/g.2.1.toNat) (p%g.2.1.toNat)).1=true∧ ∃e l,extL (pbRes g g (p/g.2.1.toNat) (p%g.2.1.toNat)).1=e::l∧e∈(pbRes g g (p/g.2.1.toNat) (p%g.2.1.toNat)).1.2.2∧e.1∈canO (pbRes g g (p/g.2.1.toNat) (p%g.2.1.toNat)).1∧e.2.2∈canO (pbRes g g (p/g.2.1.toNat) (p%g.2.1.toNat)).1:=by
 have hf:=core_fold hc
 have hN:=(grB_parts (foldB_parts hf).1).2.1
 obtain⟨h1,h2⟩:=fstW_lt h
 have hn:0<g.2.1.toNat:=by omega
 have hu:((p/g.2.1.toNat:Nat):Int)<g.2.1:=by have:=Nat.div_lt_of_lt_mul h1;omega
 have hv:((p%g.2.1.toNat:Nat):Int)<g.2.1:=by have:=Nat.mod_lt p hn;omega
 obtain⟨hR,hfo⟩:=pbRes_ok hf hf hu hv hok
 refine⟨hu,hv,hfo,?_⟩
 have hpo:pbOk g g (p/g.2.1.toNat) (p%g.2.1.toNat)=true:=by
  unfold pbRes at hok
  split at hok
  ·rename_i q;exact q.2
  ·cases hok
 unfold okW at h2
 simp only[Bool.and_eq_true,decide_eq_true_eq] at h2
 have hdm:p/g.2.1.toNat*g.2.1.toNat+p%g.2.1.toNat=p:=by rw[Nat.mul_comm];exact Nat.div_add_mod p _
 have hE:(pbP g g (p/g.2.1.toNat) (p%g.2.1.toNat)).length≤edgL g.2.2 g.2.2 g.2.1.toNat g.1.toNat (pbP g g (p/g.2.1.toNat) (p%g.2.1.toNat)):=by
  unfold pbP
  rw[hdm]
  exact h2.2
 obtain⟨hx,hall⟩:=pb_ext hf hf hu hv hpo hE
 rw[hR]
 simp only
 rw[hR] at hfo
 cases he:extL (pbG g g (p/g.2.1.toNat) (p%g.2.1.toNat)) with
 | nil=>exact absurd he hx
 | cons e l=>
   have hem:e∈extL (pbG g g (p/g.2.1.toNat) (p%g.2.1.toNat)):=by rw[he];simp
   have hm:=(List.mem_filter.1 hem).1
   have hr:=edge_of_gr (foldB_parts hfo).1 hm
   exact⟨e,l,rfl,hm,hall _ hr.1,hall _ hr.2.2⟩
set_option maxHeartbeats 2000000 in
theorem specMalnormalWitness_any (v:Value) (g:GrD) (w:World) (h:ArgG w v g):
  Calls Tryz.prog 8 #[v] w fun e w'=> ∃r s,e= .returned (.tuple #[r,s, .bool (malF g).2.2])∧OwI w' w.heap.size r (malF g).1∧OwI w' w.heap.size s (malF g).2.1∧(∀b,r.ownBlock=some b→s.ownBlock≠some b)∧Below w.heap.size w w':=by
 have HG:=hDD h
 have HC:=hDD (malF_h g)
 have HPB:=hDD (fun p h1 h2 h3=>mal_pb (g:=g) (p:=p) h1 h2 h3)
 have HLT:=hDD (fun p h=>fstW_lt (g:=g) (p:=p) h)
 have HFI:Hid (fwI g=match fstW g with | some p=>(((p/g.2.1.toNat:Nat):Int),((p%g.2.1.toNat:Nat):Int)) | none=>(-1,-1)):=hDD rfl
 generalize malF g=RES at*
 obtain⟨s,rfl,hi1,hi2,hga⟩:=h
 obtain⟨A,cap,rfl⟩:=hga.form
 obtain⟨g1,N,es⟩:=g
 simp only at*
 clear hga
 go_enter Tryz.func8,Tryz.ntmps8
 go_wp2_with fail
 obtain⟨W,hW⟩: ∃W,W=w.alloc (Obj.cells #[.int .i64 g1, .int .i64 N, .slice A es.length cap] 31):=⟨_,rfl⟩
 rw[←hW]
 obtain⟨xG,bG,sG⟩:=CBx.new hW
 clear hW
 have XG:=hDD xG
 have BX:=hDD bG
 have hsW:w.heap.size+1≤W.heap.size:=by omega
 clear xG bG sG
 have HA:Hid (∀w',Below W.heap.size W w'→ArgG w' (.agg #[.int .i64 g1, .int .i64 N, .slice A es.length cap]) (g1,N,es)):=hDD fun w' hb=>HG.out.below (BX.out.trans (hb.mono (by omega)))
 have ZERO:Hid (∀w':World,w.heap.size≤w'.heap.size→OwI ((w'.alloc (Obj.cells #[] 3)).alloc (Obj.cells #[] 3)) w.heap.size (.slice (some ⟨w'.heap.size,0,none⟩) 0 0) []∧OwI ((w'.alloc (Obj.cells #[] 3)).alloc (Obj.cells #[] 3)) w.heap.size (.slice (some ⟨w'.heap.size+1,0,none⟩) 0 0) []):=hDD fun w' hw=>⟨(OwI_lit w' [] I64s_nil (by simp) hw).alloc _,OwI_litN (w'.alloc (Obj.cells #[] 3)) [] _ (by simp) I64s_nil (by simp) (by omega)⟩
 refine(specIsSubgroup_any _ (g1,N,es) W (HA.out W (Below.refl _ _))).mono ?_
 rintro e w1 ⟨rfl,b1⟩
 have B1:=hDD b1
 have hw1:=b1.size
 clear b1
 rcases e1:coreB (g1,N,es) with _ | _
 ·have F:=hDD (HC.out.c0 e1)
  clear e1
  go_wp2
  obtain⟨z1,z2⟩:=ZERO.out w1 (by omega)
  exact bodyPost_ret (v:= .tuple #[.slice (some ⟨w1.heap.size,0,none⟩) 0 0, .slice (some ⟨w1.heap.size+1,0,none⟩) 0 0, .bool false]) (by simp[results,Tryz.results8,go_sem]) rfl ⟨_,_,by rw[F.out],by rw[F.out];exact z1,by rw[F.out];exact z2,by simp[Value.ownBlock],((BX.out.trans (B1.out.mono (by omega))).alloc (by omega) _).alloc (by simp;omega) _⟩
 have hf:=core_fold e1
 have HF:=hDD hf
 obtain⟨h13,h40,h120,_⟩:=grB_parts (foldB_parts hf).1
 simp only at h13 h40 h120
 have HCO:=hDD e1
 clear e1 hf
 have uXG0:=(XG.out.below B1.out).c0
 have uXG1:=(XG.out.below B1.out).c1
 have uXG2:=(XG.out.below B1.out).c2
 go_wp2_with fail
 clear uXG0 uXG1 uXG2
 refine(l24First_any _ (g1,N,es) w1 (HA.out w1 B1.out) HF.out).mono ?_
 rintro e w2 ⟨rfl,b2⟩
 have B2:=hDD (B1.out.trans (b2.mono hw1))
 have hw2:=b2.size
 clear b2
 have HLT2:=hDD (fun p h=>HLT.out p h)
 rcases e2:fstW (g1,N,es) with _ | p
 ·have F:=hDD (HC.out.c1 e2)
  have E:=HFI.out
  rw[e2] at E
  simp only at E
  rw[E]
  clear e2 E HC HFI HLT HLT2 HPB
  go_wp2
  obtain⟨z1,z2⟩:=ZERO.out w2 (by omega)
  exact bodyPost_ret (v:= .tuple #[.slice (some ⟨w2.heap.size,0,none⟩) 0 0, .slice (some ⟨w2.heap.size+1,0,none⟩) 0 0, .bool false]) (by simp[results,Tryz.results8,go_sem]) rfl ⟨_,_,by rw[F.out],by rw[F.out];exact z1,by rw[F.out];exact z2,by simp[Value.ownBlock],((BX.out.trans (B2.out.mono (by omega))).alloc (by omega) _).alloc (by simp;omega) _⟩
 have HQ2:=hDD (HC.out.c2 p e2)
 have HQ3:=hDD (HC.out.c3 HCO.out p e2)
 have HPB:=hDD (HPB.out p HCO.out e2)
 have hplt:=(HLT.out p e2).1
 have E:=HFI.out
 rw[e2] at E
 simp only at E HQ2 HQ3 HPB hplt
 rw[E]
 simp only
 clear E e2 HC HFI HLT HLT2
 obtain⟨n,rfl⟩: ∃n:Nat,N=(n:Int):=⟨N.toNat,by omega⟩
 simp only[Int.toNat_natCast] at HQ2 HQ3 HPB hplt⊢
 have hun:p/n<n:=Nat.div_lt_of_lt_mul hplt
 have hvn:p%n<n:=Nat.mod_lt p (by omega)
 generalize p/n=u at*
 generalize p%n=v at*
 clear hplt
 have hu0: ¬(u:Int)<0:=by omega
 go_wp2_with fail
 have hcu:(u:Int)∈canO (g1,(n:Int),es):=core_all HCO.out ⟨by omega,by show(u:Int)<(n:Int);omega⟩
 have hcv:(v:Int)∈canO (g1,(n:Int),es):=core_all HCO.out ⟨by omega,by show(v:Int)<(n:Int);omega⟩
 have HCU:=hDD hcu
 have HCV:=hDD hcv
 have hlu:=wd_len (foldB_parts HF.out).1 hcu
 have hlv:=wd_len (foldB_parts HF.out).1 hcv
 clear hcu hcv
 have HLO:=hDD (fun W' h=>specTreeWord_any (.agg #[.int .i64 g1, .int .i64 (n:Int), .slice A es.length cap]) (g1,(n:Int),es) u W' h HF.out HCU.out)
 have HLV:=hDD (fun W' h=>specTreeWord_any (.agg #[.int .i64 g1, .int .i64 (n:Int), .slice A es.length cap]) (g1,(n:Int),es) v W' h HF.out HCV.out)
 generalize wdO (g1,(n:Int),es) (u:Int)=wu at*
 generalize wdO (g1,(n:Int),es) (v:Int)=wv at*
 refine wp_region_fresh [.val (.agg #[.int .i64 g1, .int .i64 (n:Int), .slice A es.length cap]), .val (.int .i64 (u:Int)), .own (fun W x=>RdI W x wu) (fun _ _ _ h b=>h.below b), .val (.agg #[.int .i64 g1, .int .i64 (n:Int), .slice A es.length cap]), .val (.int .i64 (v:Int)), .own (fun W x=>RdI W x wv) (fun _ _ _ h b=>h.below b), .own (fun W x=>RdI W x (invL wv)) (fun _ _ _ h b=>h.below b), .own (fun W x=>OwI W w.heap.size x (redL [] (wu++invL wv))) (fun _ _ _ h b=>h.below b), .cp 7] (by kernel_rfl) (by kernel_rfl) (by rfl) (by rfl) (fun vs=> ?_)
 refine⟨fun W' K' Q0 hB hD hK=> ?_,?_⟩
 ·obtain⟨q0,q1,q2,_,_⟩:=XG.out.below (B2.out.trans (hB.out.mono (by omega)))
  go_simp
  exact hK.out _ _ (Below.refl _ _) rfl
 simp only[Act.put,List.setIfInBounds_toArray,List.set_cons_zero,List.set_cons_succ,Sp.pick,Nat.reduceAdd]
 refine⟨fun W' K' Q0 hB hD hK=> ?_,?_⟩
 ·skip
  go_simp
  exact hK.out _ _ (Below.refl _ _) rfl
 simp only[Act.put,List.setIfInBounds_toArray,List.set_cons_zero,List.set_cons_succ,Sp.pick,Nat.reduceAdd]
 refine⟨fun W' K' Q0 hB hD hK=> ?_,?_⟩
 ·go_simp
  (refine(HLO.out W' (HA.out W' (B2.out.trans (hB.out.mono (by omega))))).mono ?_;rintro e w' ⟨r,rfl,o,b⟩;exact hK.out _ _ b o.rd)
 simp only[Act.put,List.setIfInBounds_toArray,List.set_cons_zero,List.set_cons_succ,Sp.pick,Nat.reduceAdd]
 refine⟨fun W' K' Q0 hB hD hK=> ?_,?_⟩
 ·obtain⟨q0,q1,q2,_,_⟩:=XG.out.below (B2.out.trans (hB.out.mono (by omega)))
  go_simp
  exact hK.out _ _ (Below.refl _ _) rfl
 simp only[Act.put,List.setIfInBounds_toArray,List.set_cons_zero,List.set_cons_succ,Sp.pick,Nat.reduceAdd]
 refine⟨fun W' K' Q0 hB hD hK=> ?_,?_⟩
 ·skip
  go_simp
  exact hK.out _ _ (Below.refl _ _) rfl
 simp only[Act.put,List.setIfInBounds_toArray,List.set_cons_zero,List.set_cons_succ,Sp.pick,Nat.reduceAdd]
 refine⟨fun W' K' Q0 hB hD hK=> ?_,?_⟩
 ·go_simp
  (refine(HLV.out W' (HA.out W' (B2.out.trans (hB.out.mono (by omega))))).mono ?_;rintro e w' ⟨r,rfl,o,b⟩;exact hK.out _ _ b o.rd)
 simp only[Act.put,List.setIfInBounds_toArray,List.set_cons_zero,List.set_cons_succ,Sp.pick,Nat.reduceAdd]
 refine⟨fun W' K' Q0 hB hD hK=> ?_,?_⟩
 ·go_simp
  (refine(specInvertWord_any _ _ _ (show RdI W' (vs 5) _ from hD.out 5 (by kernel_rfl)) (by omega)).mono ?_;rintro e w' ⟨r,rfl,o,b⟩;exact hK.out _ _ b o.rd)
 simp only[Act.put,List.setIfInBounds_toArray,List.set_cons_zero,List.set_cons_succ,Sp.pick,Nat.reduceAdd]
 refine⟨fun W' K' Q0 hB hD hK=> ?_,?_⟩
 ·go_simp
  (refine(specMultiplyWords_any _ _ _ _ _ (show RdI W' (vs 2) _ from hD.out 2 (by kernel_rfl)) (show RdI W' (vs 6) _ from hD.out 6 (by kernel_rfl)) (by omega) (by rw[invL_length];omega)).mono ?_;rintro e w' ⟨r,rfl,o,b⟩;exact hK.out _ _ b (o.mono (by have:=hB.out.size;omega)))
 simp only[Act.put,List.setIfInBounds_toArray,List.set_cons_zero,List.set_cons_succ,Sp.pick,Nat.reduceAdd]
 refine⟨fun W' K' Q0 hB hD hK=> ?_,?_⟩
 ·go_simp
  exact hK.out _ _ (Below.refl _ _) rfl
 simp only[Act.put,List.setIfInBounds_toArray,List.set_cons_zero,List.set_cons_succ,Sp.pick,Nat.reduceAdd]
 intro w4 hB hD _
 have O1:Hid (OwI w4 w.heap.size (vs 7) (redL [] (wu++invL wv))):=hDD (hD.out 7 (by decide))
 have e78:vs 8=vs 7:=hD.out 8 (by decide)
 rw[e78]
 have B4:=hDD (B2.out.trans (hB.out.mono (by omega)))
 have hs4:=hB.out.size
 clear hB hD e78 HLO
 generalize vs 7=r1 at*
 generalize vs 2=j2 at*
 generalize vs 5=j5 at*
 generalize vs 6=j6 at*
 have uXG0:=(XG.out.below B4.out).c0
 have uXG1:=(XG.out.below B4.out).c1
 have uXG2:=(XG.out.below B4.out).c2
 go_wp2_with fail
 clear uXG0 uXG1 uXG2
 refine(specPullbackAt_any _ _ (g1,(n:Int),es) (g1,(n:Int),es) u v w4 (HA.out w4 B4.out) (HA.out w4 B4.out) HF.out HF.out (by simp only;omega) (by simp only;omega)).mono ?_
 rintro e w5 ⟨r5,rfl,o5,b5⟩
 have B5:=hDD (B4.out.trans (b5.mono (by omega)))
 have O15:=hDD (O1.out.below b5)
 have hs5:=b5.size
 clear b5
 generalize pbRes (g1,(n:Int),es) (g1,(n:Int),es) u v=M at*
 obtain⟨⟨m1,m2,ms⟩,ok⟩:=M
 simp only at HQ2 HQ3 HPB
 obtain⟨s5,rfl,hj1,hj2,oe5⟩:=o5
 obtain⟨A5,c5,rfl,_⟩:=oe5.form
 simp only at hj1 hj2 oe5⊢
 obtain⟨W6,hW6⟩: ∃W,W=w5.alloc (Obj.cells #[Value.int IntKind.i64 m1,Value.int IntKind.i64 m2, .slice A5 ms.length c5] 31):=⟨_,rfl⟩
 have GB6:=hDD (GBx.new (m:=(m1,m2,ms)) oe5 hj1 hj2 hW6)
 obtain⟨hs6,b6,_,_⟩:=gbox hW6
 have B6:Hid (Below W.heap.size W W6):=hDD (B5.out.trans (b6.mono (by omega)))
 have O16:=hDD (O15.out.below b6)
 have hs6':w5.heap.size+1≤W6.heap.size:=by omega
 clear b6 oe5
 cases ok
 ·have F:=hDD (HQ2.out rfl)
  go_wp2
  obtain⟨z1,z2⟩:=ZERO.out W6 (by omega)
  rw[hs6] at z1 z2
  have hs6w:W6.heap.size=w5.heap.size+1:=hs6
  clear hs6 hs6'
  subst hW6
  exact bodyPost_ret (v:= .tuple #[.slice (some ⟨w5.heap.size+1,0,none⟩) 0 0, .slice (some ⟨w5.heap.size+1+1,0,none⟩) 0 0, .bool false]) (by simp[results,Tryz.results8,go_sem]) rfl ⟨_,_,by rw[F.out],by rw[F.out];exact z1,by rw[F.out];exact z2,by simp[Value.ownBlock],((BX.out.trans (B6.out.mono (by omega))).alloc (by omega) _).alloc (by simp;omega) _⟩
 clear hs6
 have F:=hDD (HQ3.out rfl)
 obtain⟨_,_,hfP,e0,le,hex,hem,he1,he3⟩:=HPB.out rfl
 have HFP:=hDD hfP
 have HEX:=hDD hex
 have HLP:Hid (lp0 (m1,m2,ms)=redL [] ((wdO (m1,m2,ms) e0.1++ [e0.2.1])++invL (wdO (m1,m2,ms) e0.2.2))):=hDD (by unfold lp0;rw[hex])
 have HLL:=hDD (fun W' h=>specLoopOf_any (.agg #[.int .i64 m1, .int .i64 m2, .slice A5 ms.length c5]) (m1,m2,ms) e0 W' h hfP hem he1 he3)
 have hlp:(lp0 (m1,m2,ms)).length≤200:=by
  have h1:=wd_len (foldB_parts hfP).1 he1
  have h3:=wd_len (foldB_parts hfP).1 he3
  have h4:=redL_len [] ((wdO (m1,m2,ms) e0.1++ [e0.2.1])++invL (wdO (m1,m2,ms) e0.2.2))
  rw[HLP.out]
  simp[invL_length] at h4⊢
  omega
 rw[←HLP.out] at HLL
 clear HQ2 HQ3 HPB hem he1 he3 hfP hex
 generalize lp0 (m1,m2,ms)=lp at*
 obtain⟨z0,z1,z2⟩:=GB6.out.cbx
 simp only at z0 z1 z2
 rw[hW6] at z0 z1 z2
 go_wp2_with fail
 rw[←hW6]
 clear z0 z1 z2 hW6
 refine(specExtraEdges_any _ (m1,m2,ms) W6 GB6.out.arg HFP.out).mono ?_
 rw[HEX.out]
 rintro e w7 ⟨r7,rfl,o7,b7⟩
 have B7:=hDD (B6.out.trans (b7.mono (by omega)))
 have O17:=hDD (O16.out.below b7)
 have GB7:=hDD (GB6.out.below b7)
 have hs7:=b7.size
 clear b7
 obtain⟨A7,c7,rfl,_,_,_,hf7⟩:=o7.form
 obtain⟨q7,rfl,hq71,hq72⟩:=hf7 (by simp)
 have OX:=hDD o7
 have hcx:=o7.cellAt 0 (by simp)
 simp only[List.getElem_cons_zero,Nat.zero_mul,Nat.zero_add] at hcx
 have HCX:=hDD hcx
 clear o7 hf7 hcx
 have HP7:Hid (∀W',Below w7.heap.size w7 W'→CBx W' w5.heap.size (.int .i64 m1) (.int .i64 m2) (.slice A5 ms.length c5)∧W'.cell? ⟨q7,0,none⟩=some (.int .i64 e0.1)∧W'.cell? ⟨q7,1,none⟩=some (.int .i64 e0.2.1)∧W'.cell? ⟨q7,2,none⟩=some (.int .i64 e0.2.2)):=hDD fun W' hb=>⟨GB7.out.cbx.below hb,(hb.cell (p:=⟨q7,0,none⟩) hq72).trans HCX.out.1,(hb.cell (p:=⟨q7,1,none⟩) hq72).trans HCX.out.2.1,(hb.cell (p:=⟨q7,2,none⟩) hq72).trans HCX.out.2.2⟩
 have hll:((e0::le).length:Int)=(le.length:Int)+1:=by simp
 have hi0:(0:Int)<((e0::le).length:Int):=by omega
 go_wp2_with fail
 refine wp_region_fresh [.val (.agg #[.int .i64 m1, .int .i64 m2, .slice A5 ms.length c5]), .val (.slice (some ⟨q7,0,none⟩) (e0::le).length c7), .val (.pointer (some ⟨q7,0,none⟩)), .val (edV e0), .own (fun W x=>RdI W x lp) (fun _ _ _ h b=>h.below b), .cp 4] (by kernel_rfl) (by kernel_rfl) (by rfl) (by rfl) (fun vs=> ?_)
 refine⟨fun W' K' Q0 hB hD hK=> ?_,?_⟩
 ·obtain⟨⟨q0,q1,q2,_,_⟩,_⟩:=HP7.out W' hB.out
  go_simp
  exact hK.out _ _ (Below.refl _ _) rfl
 simp only[Act.put,List.setIfInBounds_toArray,List.set_cons_zero,List.set_cons_succ,Sp.pick,Nat.reduceAdd]
 refine⟨fun W' K' Q0 hB hD hK=> ?_,?_⟩
 ·skip
  go_simp
  exact hK.out _ _ (Below.refl _ _) rfl
 simp only[Act.put,List.setIfInBounds_toArray,List.set_cons_zero,List.set_cons_succ,Sp.pick,Nat.reduceAdd]
 refine⟨fun W' K' Q0 hB hD hK=> ?_,?_⟩
 ·skip
  go_simp
  exact hK.out _ _ (Below.refl _ _) rfl
 simp only[Act.put,List.setIfInBounds_toArray,List.set_cons_zero,List.set_cons_succ,Sp.pick,Nat.reduceAdd]
 refine⟨fun W' K' Q0 hB hD hK=> ?_,?_⟩
 ·obtain⟨_,q0,q1,q2⟩:=HP7.out W' hB.out
  go_simp
  exact hK.out _ _ (Below.refl _ _) rfl
 simp only[Act.put,List.setIfInBounds_toArray,List.set_cons_zero,List.set_cons_succ,Sp.pick,Nat.reduceAdd]
 refine⟨fun W' K' Q0 hB hD hK=> ?_,?_⟩
 ·go_simp
  (refine(show Calls Tryz.prog 31 #[.agg #[.int .i64 m1, .int .i64 m2, .slice A5 ms.length c5],edV e0] W' _ from ?_);refine(HLL.out W' (GB7.out.arg.below hB.out)).mono ?_;rintro e w' ⟨r,rfl,o,b⟩;exact hK.out _ _ b o.rd)
 simp only[Act.put,List.setIfInBounds_toArray,List.set_cons_zero,List.set_cons_succ,Sp.pick,Nat.reduceAdd]
 refine⟨fun W' K' Q0 hB hD hK=> ?_,?_⟩
 ·go_simp
  exact hK.out _ _ (Below.refl _ _) rfl
 simp only[Act.put,List.setIfInBounds_toArray,List.set_cons_zero,List.set_cons_succ,Sp.pick,Nat.reduceAdd]
 intro w8 hB hD _
 have R8:Hid (RdI w8 (vs 4) lp):=hDD (hD.out 4 (by decide))
 have e54:vs 5=vs 4:=hD.out 5 (by decide)
 rw[e54]
 have B8:=hDD (B7.out.trans (hB.out.mono (by omega)))
 have O18:=hDD (O17.out.below hB.out)
 have hs8:=hB.out.size
 clear hB hD e54 HLL HP7 HCX
 generalize vs 4=r4 at*
 go_wp2_with fail
 refine wp_region_fresh [.val r1, .val (.agg #[.int .i64 g1, .int .i64 (n:Int), .slice A es.length cap]), .val (.int .i64 (v:Int)), .own (fun W x=>RdI W x wv) (fun _ _ _ h b=>h.below b), .val r4, .own (fun W x=>RdI W x (redL [] (wv++lp))) (fun _ _ _ h b=>h.below b), .val (.agg #[.int .i64 g1, .int .i64 (n:Int), .slice A es.length cap]), .val (.int .i64 (v:Int)), .own (fun W x=>RdI W x wv) (fun _ _ _ h b=>h.below b), .own (fun W x=>RdI W x (invL wv)) (fun _ _ _ h b=>h.below b), .own (fun W x=>OwI W w8.heap.size x (redL [] ((wv++lp)++invL wv))) (fun _ _ _ h b=>h.below b), .val r1, .cp 10, .val (.bool true)] (by kernel_rfl) (by kernel_rfl) (by rfl) (by rfl) (fun vs=> ?_)
 refine⟨fun W' K' Q0 hB hD hK=> ?_,?_⟩
 ·skip
  go_simp
  exact hK.out _ _ (Below.refl _ _) rfl
 simp only[Act.put,List.setIfInBounds_toArray,List.set_cons_zero,List.set_cons_succ,Sp.pick,Nat.reduceAdd]
 refine⟨fun W' K' Q0 hB hD hK=> ?_,?_⟩
 ·obtain⟨q0,q1,q2,_,_⟩:=XG.out.below (B8.out.trans (hB.out.mono (by omega)))
  go_simp
  exact hK.out _ _ (Below.refl _ _) rfl
 simp only[Act.put,List.setIfInBounds_toArray,List.set_cons_zero,List.set_cons_succ,Sp.pick,Nat.reduceAdd]
 refine⟨fun W' K' Q0 hB hD hK=> ?_,?_⟩
 ·skip
  go_simp
  exact hK.out _ _ (Below.refl _ _) rfl
 simp only[Act.put,List.setIfInBounds_toArray,List.set_cons_zero,List.set_cons_succ,Sp.pick,Nat.reduceAdd]
 refine⟨fun W' K' Q0 hB hD hK=> ?_,?_⟩
 ·go_simp
  (refine(HLV.out W' (HA.out W' (B8.out.trans (hB.out.mono (by omega))))).mono ?_;rintro e w' ⟨r,rfl,o,b⟩;exact hK.out _ _ b o.rd)
 simp only[Act.put,List.setIfInBounds_toArray,List.set_cons_zero,List.set_cons_succ,Sp.pick,Nat.reduceAdd]
 refine⟨fun W' K' Q0 hB hD hK=> ?_,?_⟩
 ·skip
  go_simp
  exact hK.out _ _ (Below.refl _ _) rfl
 simp only[Act.put,List.setIfInBounds_toArray,List.set_cons_zero,List.set_cons_succ,Sp.pick,Nat.reduceAdd]
 refine⟨fun W' K' Q0 hB hD hK=> ?_,?_⟩
 ·go_simp
  (refine(specMultiplyWords_any _ _ _ _ _ (show RdI W' (vs 3) _ from hD.out 3 (by kernel_rfl)) (R8.out.below hB.out) (by omega) (by omega)).mono ?_;rintro e w' ⟨r,rfl,o,b⟩;exact hK.out _ _ b o.rd)
 simp only[Act.put,List.setIfInBounds_toArray,List.set_cons_zero,List.set_cons_succ,Sp.pick,Nat.reduceAdd]
 refine⟨fun W' K' Q0 hB hD hK=> ?_,?_⟩
 ·obtain⟨q0,q1,q2,_,_⟩:=XG.out.below (B8.out.trans (hB.out.mono (by omega)))
  go_simp
  exact hK.out _ _ (Below.refl _ _) rfl
 simp only[Act.put,List.setIfInBounds_toArray,List.set_cons_zero,List.set_cons_succ,Sp.pick,Nat.reduceAdd]
 refine⟨fun W' K' Q0 hB hD hK=> ?_,?_⟩
 ·skip
  go_simp
  exact hK.out _ _ (Below.refl _ _) rfl
 simp only[Act.put,List.setIfInBounds_toArray,List.set_cons_zero,List.set_cons_succ,Sp.pick,Nat.reduceAdd]
 refine⟨fun W' K' Q0 hB hD hK=> ?_,?_⟩
 ·go_simp
  (refine(HLV.out W' (HA.out W' (B8.out.trans (hB.out.mono (by omega))))).mono ?_;rintro e w' ⟨r,rfl,o,b⟩;exact hK.out _ _ b o.rd)
 simp only[Act.put,List.setIfInBounds_toArray,List.set_cons_zero,List.set_cons_succ,Sp.pick,Nat.reduceAdd]
 refine⟨fun W' K' Q0 hB hD hK=> ?_,?_⟩
 ·go_simp
  (refine(specInvertWord_any _ _ _ (show RdI W' (vs 8) _ from hD.out 8 (by kernel_rfl)) (by omega)).mono ?_;rintro e w' ⟨r,rfl,o,b⟩;exact hK.out _ _ b o.rd)
 simp only[Act.put,List.setIfInBounds_toArray,List.set_cons_zero,List.set_cons_succ,Sp.pick,Nat.reduceAdd]
 refine⟨fun W' K' Q0 hB hD hK=> ?_,?_⟩
 ·go_simp
  (refine(specMultiplyWords_any _ _ _ _ _ (show RdI W' (vs 5) _ from hD.out 5 (by kernel_rfl)) (show RdI W' (vs 9) _ from hD.out 9 (by kernel_rfl)) (by have:=redL_len [] (wv++lp);simp at this;omega) (by rw[invL_length];omega)).mono ?_;rintro e w' ⟨r,rfl,o,b⟩;rw[red_more] at o;exact hK.out _ _ b (o.mono (by have:=hB.out.size;omega)))
 simp only[Act.put,List.setIfInBounds_toArray,List.set_cons_zero,List.set_cons_succ,Sp.pick,Nat.reduceAdd]
 refine⟨fun W' K' Q0 hB hD hK=> ?_,?_⟩
 ·skip
  go_simp
  exact hK.out _ _ (Below.refl _ _) rfl
 simp only[Act.put,List.setIfInBounds_toArray,List.set_cons_zero,List.set_cons_succ,Sp.pick,Nat.reduceAdd]
 refine⟨fun W' K' Q0 hB hD hK=> ?_,?_⟩
 ·go_simp
  exact hK.out _ _ (Below.refl _ _) rfl
 simp only[Act.put,List.setIfInBounds_toArray,List.set_cons_zero,List.set_cons_succ,Sp.pick,Nat.reduceAdd]
 refine⟨fun W' K' Q0 hB hD hK=> ?_,?_⟩
 ·skip
  go_simp
  exact hK.out _ _ (Below.refl _ _) rfl
 simp only[Act.put,List.setIfInBounds_toArray,List.set_cons_zero,List.set_cons_succ,Sp.pick,Nat.reduceAdd]
 intro w9 hB hD _
 have O2:Hid (OwI w9 w8.heap.size (vs 10) (redL [] ((wv++lp)++invL wv))):=hDD (hD.out 10 (by decide))
 have e12:vs 12=vs 10:=hD.out 12 (by decide)
 rw[e12]
 have B9:=hDD (B8.out.trans (hB.out.mono (by omega)))
 have O19:=hDD (O18.out.below hB.out)
 have HDJ:Hid (∀b,r1.ownBlock=some b→b<w8.heap.size):=hDD fun b hb=>(O18.out.1.lt b hb).2
 clear hB hD e12
 generalize vs 10=r2 at*
 go_wp2
 exact bodyPost_ret (v:= .tuple #[r1,r2, .bool true]) (by simp[results,Tryz.results8,go_sem]) rfl ⟨_,_,by rw[F.out],by rw[F.out];exact O19.out,by rw[F.out];exact O2.out.mono (by omega),fun b h1 h2=>by have h3:=HDJ.out b h1;have h4:=(O2.out.1.lt b h2).1;omega,BX.out.trans (B9.out.mono (by omega))⟩
end Go.Proofs.YtfadnkjlilhneaaGreat
