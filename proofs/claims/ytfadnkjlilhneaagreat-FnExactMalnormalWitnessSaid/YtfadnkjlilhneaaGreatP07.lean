/- Parts of the proof: Pcs, TwI, MalI, PairI. -/
import Derived.Test.YtfadnkjlilhneaaGreatP05
import Derived.Test.YtfadnkjlilhneaaGreatP04
import Derived.Test.YtfadnkjlilhneaaGreatP06
import Derived.Test.YtfadnkjlilhneaaGreatP01
namespace Go.Proofs.YtfadnkjlilhneaaGreat
set_option maxRecDepth 20000
set_option linter.unusedVariables false
set_option linter.unusedSimpArgs false
open Go.RowKit
structure MatK (bb P A B k:Nat) (w:World) (Q:Nat→Nat):Prop where
 outer:w.ownsRow bb 26 1 (.slice (some ⟨P,0,none⟩) A A) A ((List.range A).map fun i=>if i<k then .slice (some ⟨Q i,0,none⟩) B B else .slice none 0 0)
 rows: ∀i,i<k→OwI w bb (.slice (some ⟨Q i,0,none⟩) B B) ((List.range B).map fun _=> -1)
 inj: ∀i j,i<k→j<k→Q i=Q j→i=j
 lt: ∀i,i<k→P<Q i∧Q i<w.heap.size
theorem MatK.keep {bb P A B k:Nat} {w w':World} {Q:Nat→Nat} (h:MatK bb P A B k w Q) (hs:w.heap.size≤w'.heap.size) (hP:w'.heap[P]? =w.heap[P]?) (hQ: ∀i,i<k→w'.heap[Q i]? =w.heap[Q i]?):MatK bb P A B k w' Q:=
 ⟨owns_keep h.outer fun b e=>by simp only[Value.ownBlock,Option.some.injEq] at e;subst e;exact hP,
  fun i hi=>⟨owns_keep (h.rows i hi).1 fun b e=>by simp only[Value.ownBlock,Option.some.injEq] at e;subst e;exact hQ i hi,(h.rows i hi).2⟩,
  h.inj,fun i hi=>⟨(h.lt i hi).1,by have:=(h.lt i hi).2;omega⟩⟩
theorem MatK.next {bb P A B k Qk:Nat} {w w':World} {Q:Nat→Nat} (h:MatK bb P A B k w Q) (hPl:P<w.heap.size) (hQk:w.heap.size≤Qk) (hs:w.heap.size≤w'.heap.size) (hQ2:Qk<w'.heap.size)
  (hr:OwI w' bb (.slice (some ⟨Qk,0,none⟩) B B) ((List.range B).map fun _=> -1))
  (ho:w'.ownsRow bb 26 1 (.slice (some ⟨P,0,none⟩) A A) A (((List.range A).map fun i=>if i<k then(Value.slice (some ⟨Q i,0,none⟩) B B) else .slice none 0 0).set k (.slice (some ⟨Qk,0,none⟩) B B)))
  (hq: ∀i,i<k→w'.heap[Q i]? =w.heap[Q i]?):MatK bb P A B (k+1) w' (fun i=>if i=k then Qk else Q i):=by
 refine⟨?_,fun i hi=> ?_,fun i j hi hj e=> ?_,fun i hi=> ?_⟩
 ·have e:(((List.range A).map fun i=>if i<k then(Value.slice (some ⟨Q i,0,none⟩) B B) else .slice none 0 0).set k (.slice (some ⟨Qk,0,none⟩) B B))=(List.range A).map fun i=>if i<k+1 then .slice (some ⟨if i=k then Qk else Q i,0,none⟩) B B else .slice none 0 0:=by
   refine List.ext_getElem (by simp) fun i h1 h2=> ?_
   rw[List.getElem_set]
   simp only[List.getElem_map,List.getElem_range]
   by_cases hik:k=i
   ·subst hik;simp
   ·rw[if_neg hik]
    by_cases h3:i<k
    ·rw[if_pos h3,if_pos (by omega),if_neg (Ne.symm hik)]
    ·rw[if_neg h3,if_neg (by omega)]
  rw[←e]
  exact ho
 ·by_cases hik:i=k
  ·rw[if_pos hik];exact hr
  ·rw[if_neg hik]
   have hi':i<k:=by omega
   exact⟨owns_keep (h.rows i hi').1 fun b e=>by simp only[Value.ownBlock,Option.some.injEq] at e;subst e;exact hq i hi',(h.rows i hi').2⟩
 ·by_cases hik:i=k<;>by_cases hjk:j=k
  ·omega
  ·rw[if_pos hik,if_neg hjk] at e
   have:=(h.lt j (by omega)).2
   omega
  ·rw[if_neg hik,if_pos hjk] at e
   have:=(h.lt i (by omega)).2
   omega
  ·rw[if_neg hik,if_neg hjk] at e
   exact h.inj i j (by omega) (by omega) e
 ·by_cases hik:i=k
  ·rw[if_pos hik];exact⟨by omega,hQ2⟩
  ·rw[if_neg hik]
   have:=h.lt i (by omega)
   exact⟨this.1,by omega⟩
theorem MatK.full {bb P A B:Nat} {w:World} {Q:Nat→Nat} (h:MatK bb P A B A w Q) (hP:P<w.heap.size):MatI w.heap.size bb P A B w Q (fun _ _=> -1):=by
 refine⟨?_,fun i hi=>by simpa using h.rows i hi,h.inj,fun i hi=>by have:=(h.lt i hi).1;omega,hP,fun i hi=>(h.lt i hi).2⟩
 have e:((List.range A).map fun i=>if i<A then(Value.slice (some ⟨Q i,0,none⟩) B B) else .slice none 0 0)=(List.range A).map fun i=> .slice (some ⟨Q i,0,none⟩) B B:=
  List.map_congr_left fun i hi=>by rw[if_pos (List.mem_range.1 hi)]
 rw[←e]
 exact h.outer
theorem MatI.base {X bb bb' P A B:Nat} {w:World} {Q:Nat→Nat} {f:Nat→Nat→Int} (h:MatI X bb P A B w Q f) (hb:bb'≤bb):MatI X bb' P A B w Q f:=by
 refine⟨?_,fun i hi=>(h.rows i hi).mono hb,h.inj,h.neP,h.ltP,h.ltQ⟩
 obtain⟨h1,h2⟩:=h.outer
 refine⟨h1,?_⟩
 rcases h2 with h0 | ⟨g,cap,cur,hv,hg,rr⟩
 ·exact .inl h0
 ·exact .inr ⟨g,cap,cur,hv,by omega,rr⟩
theorem OwPc_nil (w:World) {base:Nat} (hb:base≤w.heap.size):OwPc (w.alloc (.cells #[] 61)) base (.slice (some ⟨w.heap.size,0,none⟩) 0 0) []:=by
 have:=World.ownsRow_lit (e:=61) (size:=5) w #[] 0 hb (by unfold maxLen;omega) (by simp)
 simpa[OwPc,pcCs] using this
theorem prC_of {k B m:Nat} (hm:m<B):prC B (k*B+m)= [.int .i64 k, .int .i64 m]:=by
 unfold prC
 rw[Nat.mul_comm,Nat.mul_add_div (by omega),Nat.div_eq_of_lt hm,Nat.mul_add_mod,Nat.mod_eq_of_lt hm,Nat.add_zero]
theorem OwPr_one (w:World) {base k m B:Nat} (hb:base≤w.heap.size) (hm:m<B) (N:Nat) (hN:w.heap.size=N):OwPr (w.alloc (.cells #[.int .i64 k, .int .i64 m] 80)) base (.slice (some ⟨N,0,none⟩) 1 1) B [k*B+m]:=by
 subst hN
 have:=World.ownsRow_lit (e:=80) (size:=2) w #[.int .i64 k, .int .i64 m] 1 hb (by unfold maxLen;omega) (by simp)
 unfold OwPr prCs
 simp only[List.map_cons,List.map_nil,List.flatten_cons,List.flatten_nil,List.append_nil,prC_of hm,List.length_cons,List.length_nil,Nat.zero_add]
 simpa using this
theorem pfold_take {a b:GrD} {B:Nat} (ls:List Int) (q:Nat) (o:List Nat) {j:Nat} (hj:j≤o.length):(ls.foldl (pst a.2.2 b.2.2 B q) o).take j=o.take j:=by
 refine List.ext_getElem? fun i=> ?_
 rw[List.getElem?_take,List.getElem?_take]
 split
 ·rename_i hi
  have h1:o[i]? =some (o[i]'(by omega)):=List.getElem?_eq_getElem (by omega)
  rw[pfold_prefix (a:=a) (b:=b) (B:=B) ls q o h1,h1]
 ·rfl
set_option maxHeartbeats 8000000 in
theorem piecesM_any (va vb:Value) (a b:GrD) (A B r:Nat) (w:World) (ha:ArgG w va a) (hb:ArgG w vb b) (h2:Two a b A B) (hra:a.1=(r:Int)) (hrb:b.1=(r:Int)):
  Calls Tryz.prog 34 #[va,vb] w fun e w'=> ∃s P X Q f,e= .returned (.tuple #[s, .slice (some ⟨P,0,none⟩) A A])∧OwPc w' w.heap.size s (pcs a b A B r (A*B)).2∧MatI X w.heap.size P A B w' Q f∧MarkF (ixP a b A B r) A B f (pcs a b A B r (A*B)).1∧X<w'.heap.size∧Below w.heap.size w w':=by
 have H2:=hDD h2
 have HGA:=hDD ha
 have HGB:=hDD hb
 have ONEA:=hDD (steps_one h2.fa)
 have ONEB:=hDD (steps_one h2.fb)
 have LETA:=hDD (let_of_gr h2.ga)
 have LETB:=hDD (let_of_gr h2.gb)
 obtain⟨⟨hA1,hA2⟩,hB1,hB2⟩:=h2.bd
 have hr3:r≤3∧1≤r:=by have:=(grB_parts h2.ga).1;omega
 have hn1:A*B≤1600:=Nat.mul_le_mul hA2 hB2
 have HN1:=hDD hn1
 have sa:=h2.sa
 have sb:=h2.sb
 obtain⟨Aa,capa,rfl⟩: ∃A' cap,va= .agg #[.int .i64 r, .int .i64 A, .slice A' a.2.2.length cap]:=by
  obtain⟨s,hv,_,_,ha⟩:=HGA.out
  obtain⟨A',cap,rfl⟩:=ha.form
  exact⟨A',cap,by rw[hv,hra,sa]⟩
 obtain⟨Ab,capb,rfl⟩: ∃A' cap,vb= .agg #[.int .i64 r, .int .i64 B, .slice A' b.2.2.length cap]:=by
  obtain⟨s,hv,_,_,ha⟩:=HGB.out
  obtain⟨A',cap,rfl⟩:=ha.form
  exact⟨A',cap,by rw[hv,hrb,sb]⟩
 clear ha hb h2 hra hrb sa sb hn1
 go_enter Tryz.func34,Tryz.ntmps34
 obtain⟨i0,hi0,hz0,hz1,hz2⟩:=info_parts ints_info'
 obtain⟨j0,hj0,hy0,hy1,hy2⟩:=info_parts int_info
 go_wp2_with (at_make;refine wpList_make_full _ rfl _ _ 57 rfl (w.heap.size+1+1) 26 i0 (.slice none 0 0) 1 Tryz.underlying57 hi0 hz0 hz1 _ _ _ _ A rfl rfl rfl rfl (by rw[hz2];omega) (by unfold maxLen;omega) (by simp) ?_)
 have bx:Below w.heap.size w ((w.alloc (Obj.cells #[Value.int IntKind.i64 r,Value.int IntKind.i64 A, .slice Aa a.2.2.length capa] 31)).alloc (Obj.cells #[Value.int IntKind.i64 r,Value.int IntKind.i64 B, .slice Ab b.2.2.length capb] 31)):=(by repeat(first | exact Below.refl _ _ | (refine Below.setCell ?_ (by first | omega | (simp<;>omega)) _) | (refine bel_drewN ?_ _) | (refine Below.drew ?_) | (refine Below.alloc ?_ (by first | omega | (simp<;>omega)) _)))
 obtain⟨W0,hW0⟩: ∃W,W=(w.alloc (Obj.cells #[Value.int IntKind.i64 r,Value.int IntKind.i64 A, .slice Aa a.2.2.length capa] 31)).alloc (Obj.cells #[Value.int IntKind.i64 r,Value.int IntKind.i64 B, .slice Ab b.2.2.length capb] 31):=⟨_,rfl⟩
 rw[←hW0] at bx⊢
 have hsW:W0.heap.size=w.heap.size+1+1:=by rw[hW0];simp
 have A0:Hid (W0.cell? ⟨w.heap.size,0,none⟩=some (.int .i64 r)):=hDD (by rw[hW0];simp[go_sem])
 have A1:Hid (W0.cell? ⟨w.heap.size,1,none⟩=some (.int .i64 A)):=hDD (by rw[hW0];simp[go_sem])
 have A2:Hid (W0.cell? ⟨w.heap.size,2,none⟩=some (.slice Aa a.2.2.length capa)):=hDD (by rw[hW0];simp[go_sem])
 have B0:Hid (W0.cell? ⟨w.heap.size+1,0,none⟩=some (.int .i64 r)):=hDD (by rw[hW0];simp[go_sem])
 have B1:Hid (W0.cell? ⟨w.heap.size+1,1,none⟩=some (.int .i64 B)):=hDD (by rw[hW0];simp[go_sem])
 have B2:Hid (W0.cell? ⟨w.heap.size+1,2,none⟩=some (.slice Ab b.2.2.length capb)):=hDD (by rw[hW0];simp[go_sem])
 clear hW0
 rw[←hsW]
 have hl0:w.heap.size<W0.heap.size:=by omega
 have hl1:w.heap.size+1<W0.heap.size:=by omega
 have BX:=hDD bx
 have HSW:=hDD hsW
 clear bx hsW
 intro w2 hown0 hgrow0
 have hP2:W0.heap.size<w2.heap.size:=(hown0.lt W0.heap.size rfl).2
 have MK0:MatK W0.heap.size W0.heap.size A B 0 w2 id:=by
  refine⟨?_,fun i hi=>absurd hi (by omega),fun i j hi=>absurd hi (by omega),fun i hi=>absurd hi (by omega)⟩
  have e:((List.range A).map fun i=>if i<0 then(Value.slice (some ⟨id i,0,none⟩) B B) else .slice none 0 0)=List.replicate A (.slice none 0 0):=by
   refine List.ext_getElem (by simp) fun i h1 h2=> ?_
   simp
  rw[e]
  simpa[toList_madeCells_one] using hown0
 have MK:=hDD MK0
 have HB2:Hid (Below W0.heap.size W0 w2):=hDD ((Below.refl W0.heap.size W0).grown hgrow0 (Nat.le_refl _) (fun k h=>by cases h))
 clear hown0 hgrow0 MK0
 go_wp2
 go_loopw [24] (fun i wr=> ∃(k:Nat) (Q:Nat→Nat),k≤A∧i= .int .i64 k∧MatK W0.heap.size W0.heap.size A B k wr Q∧Below W0.heap.size W0 wr∧W0.heap.size<wr.heap.size) (fun i _=>A-(intOf i).toNat)
 case atStart=>exact⟨0,id,Nat.zero_le _,rfl,MK.out,HB2.out,hP2⟩
 case round=>
  obtain⟨k,Q,hk,rfl,hmk,hbel,hPw⟩:=hrel
  obtain⟨wo,rfl⟩: ∃wo:World,wo=wr:=⟨_,rfl⟩
  have HMK:=hDD hmk
  have HB:=hDD hbel
  have q1:=(hbel.cell (p:=⟨w.heap.size+1,1,none⟩) hl1).trans B1.out
  by_cases hlt:k<A
  ·have hki:(k:Int)<(A:Int):=by omega
   have cP:=World.ownsRow.cellAt hmk.outer k (by omega)
   have fP:=World.ownsRow.frozenAt hmk.outer k
   have hcP:wo.cell? ⟨W0.heap.size,k,none⟩=some (.slice none 0 0):=by rw[cP];simp[hlt]
   clear cP hmk hbel
   go_wp2_with (at_make;refine wpList_make_full _ rfl _ _ 26 rfl wo.heap.size 3 j0 (.int .i64 0) 1 Tryz.underlying26 hj0 hy0 hy1 _ _ _ _ B rfl rfl rfl rfl (by rw[hy2];omega) (by unfold maxLen;omega) (Nat.le_refl _) ?_)
   intro w3 hown3 hgrow3
   have hP3:W0.heap.size≠wo.heap.size:=by omega
   have hs3:wo.heap.size<w3.heap.size:=(hown3.lt wo.heap.size rfl).2
   have hb3: ∀b,b<wo.heap.size→w3.heap[b]? =wo.heap[b]? :=fun b hb=>hgrow3.block b hb (by simp)
   have c3:=(World.cell?_of_block (w:=wo) (w':=w3) (a:=⟨W0.heap.size,k,none⟩) (hb3 W0.heap.size hPw)).trans hcP
   have f3:=(World.frozen?_of_block (w:=wo) (w':=w3) (a:=⟨W0.heap.size,k,none⟩) (hb3 W0.heap.size hPw)).trans fP
   have own3:OwI w3 W0.heap.size (.slice (some ⟨wo.heap.size,0,none⟩) B B) (List.replicate 0 (-1)++List.replicate (B-0) 0):=by
    refine⟨?_,fun y hy=> ?_⟩
    ·simp only[List.replicate_zero,List.nil_append,Nat.sub_zero,List.length_replicate]
     have:ints (List.replicate B 0)=List.replicate B (Value.int .i64 0):=by simp[ints]
     rw[this]
     have h1:w3.ownsRow W0.heap.size 3 1 (.slice (some ⟨wo.heap.size,0,none⟩) B B) B (madeCells #[.int .i64 0] B).toList:=by
      refine⟨hown3.1,?_⟩
      rcases hown3.2 with h0 | ⟨g,cap,cur,hv,hg,rr⟩
      ·exact .inl h0
      ·exact .inr ⟨g,cap,cur,hv,by omega,rr⟩
     simpa[toList_madeCells_one] using h1
    ·simp only[List.replicate_zero,List.nil_append,Nat.sub_zero] at hy
     obtain⟨_,rfl⟩:=List.mem_replicate.1 hy
     exact⟨by decide,by decide⟩
   have OB3:w3.ownsRow W0.heap.size 26 1 (.slice (some ⟨W0.heap.size,0,none⟩) A A) A ((List.range A).map fun i=>if i<k then(Value.slice (some ⟨Q i,0,none⟩) B B) else .slice none 0 0):=owns_keep HMK.out.outer fun b e=>by
    simp only[Value.ownBlock,Option.some.injEq] at e
    subst e
    exact hb3 _ hPw
   have hst:=World.ownsRow.stored OB3 k (.slice (some ⟨wo.heap.size,0,none⟩) B B)
   have HST:=hDD hst.1
   have hsS:(w3.setCell ⟨W0.heap.size,k,none⟩ (.slice (some ⟨wo.heap.size,0,none⟩) B B)).heap.size=w3.heap.size:=by simp
   have hbS: ∀b,b≠W0.heap.size→(w3.setCell ⟨W0.heap.size,k,none⟩ (.slice (some ⟨wo.heap.size,0,none⟩) B B)).heap[b]? =w3.heap[b]? :=fun b hb=>Below.heap_setCell w3 _ _ b hb
   have ownS:OwI (w3.setCell ⟨W0.heap.size,k,none⟩ (.slice (some ⟨wo.heap.size,0,none⟩) B B)) W0.heap.size (.slice (some ⟨wo.heap.size,0,none⟩) B B) (List.replicate 0 (-1)++List.replicate (B-0) 0):=
    ⟨owns_keep own3.1 fun b e=>by simp only[Value.ownBlock,Option.some.injEq] at e;subst e;exact hbS _ (by omega),own3.2⟩
   have cS:(w3.setCell ⟨W0.heap.size,k,none⟩ (.slice (some ⟨wo.heap.size,0,none⟩) B B)).cell? ⟨W0.heap.size,k,none⟩=some (.slice (some ⟨wo.heap.size,0,none⟩) B B):=World.cell?_setCell_same _ _ _ c3
   have HBS:Hid (Below W0.heap.size W0 (w3.setCell ⟨W0.heap.size,k,none⟩ (.slice (some ⟨wo.heap.size,0,none⟩) B B))):=hDD ((HB.out.grown hgrow3 (by omega) (fun k h=>by cases h)).setCell (by show W0.heap.size≤W0.heap.size;omega) _)
   have HQS:Hid (∀i,i<k→(w3.setCell ⟨W0.heap.size,k,none⟩ (.slice (some ⟨wo.heap.size,0,none⟩) B B)).heap[Q i]? =wo.heap[Q i]?):=hDD fun i hi=>(hbS _ (by have:=(HMK.out.lt i hi).1;omega)).trans (hb3 _ (HMK.out.lt i hi).2)
   have CS:=hDD cS
   have OWS:=hDD ownS
   clear hcP fP hown3 hgrow3 own3 OB3 hst hbS hb3 ownS
   go_wp2
   generalize w3.setCell ⟨W0.heap.size,k,none⟩ (.slice (some ⟨wo.heap.size,0,none⟩) B B)=wS at*
   go_loopw [38] (fun j wr=> ∃m:Nat,m≤B∧j= .int .i64 m∧OwI wr W0.heap.size (.slice (some ⟨wo.heap.size,0,none⟩) B B) (List.replicate m (-1)++List.replicate (B-m) 0)∧wS.grownBy wr (some wo.heap.size)) (fun j _=>B-(intOf j).toNat)
   case atStart=>exact⟨0,Nat.zero_le _,rfl,OWS.out,World.grownBy.refl _ _⟩
   case round=>
    obtain⟨m,hm,rfl,hown,hgr⟩:=hrel
    have HG:=hDD hgr
    have hsr:=hgr.size
    have cK:=(World.cell?_of_block (w:=wS) (w':=wr) (a:=⟨W0.heap.size,k,none⟩) (hgr.block W0.heap.size (by omega) (by simp;omega))).trans CS.out
    by_cases hlt2:m<B
    ·have hmi:(m:Int)<(B:Int):=by omega
     have hcell:=hown.cellAt m (by simp;omega)
     have hfz:=hown.free m
     have HS:=hDD (hown.set m (-1) ⟨by decide,by decide⟩)
     have HSET:=hDD (set_minus B m hlt2)
     generalize (List.replicate m (-1:Int)++List.replicate (B-m) 0)[m]'(by simp;omega)=z0 at hcell
     clear hown hgr
     go_wp2
     go_roundw
     case rel=>exact⟨m+1,by omega,by go_num,by rw[←HSET.out];exact HS.out.1,HG.out.trans HS.out.2⟩
     case measure=>simp[intOf];omega
    ·obtain rfl:m=B:=by omega
     have HMN:Hid (MatK W0.heap.size W0.heap.size A m (k+1) wr (fun i=>if i=k then wo.heap.size else Q i)):=hDD (by
      refine HMK.out.next hPw (Nat.le_refl _) (by omega) (by omega) ?_ (owns_keep HST.out fun b e=>by simp only[Value.ownBlock,Option.some.injEq] at e;subst e;exact hgr.block _ (by omega) (by simp;omega)) fun i hi=> ?_
      ·have e:(List.replicate m (-1:Int)++List.replicate (m-m) 0)=(List.range m).map fun _=> -1:=by
        refine List.ext_getElem (by simp) fun i h1 h2=> ?_
        simp
       rwa [e] at hown
      ·have h1:=HMK.out.lt i hi
       exact(hgr.block _ (by omega) (by simp;omega)).trans (HQS.out i hi))
     have HBN:Hid (Below W0.heap.size W0 wr):=hDD (HBS.out.grown hgr (by omega) (fun x hx=>by cases hx;omega))
     clear hown hgr
     go_wp2
     go_roundw
     case rel=>exact⟨k+1,_,by omega,by go_num,HMN.out,HBN.out,by omega⟩
     case measure=>simp[intOf];omega
  ·have hkA:A=k:=by omega
   subst hkA
   have HMI:=hDD (hmk.full hPw)
   clear hmk hbel
   obtain⟨X,hX⟩: ∃X,X=wo.heap.size:=⟨_,rfl⟩
   have HX:=hDD hX
   have bN:Below wo.heap.size wo (wo.alloc (.cells #[] 61)):=(Below.refl _ _).alloc (Nat.le_refl _) _
   have oN:OwPc (wo.alloc (.cells #[] 61)) X (.slice (some ⟨wo.heap.size,0,none⟩) 0 0) (pcs a b A B r (0*B)).2:=by rw[Nat.zero_mul,hX];exact OwPc_nil wo (Nat.le_refl _)
   have mN:MatI X W0.heap.size W0.heap.size A B (wo.alloc (.cells #[] 61)) Q (fun _ _=> -1):=by
    rw[hX]
    exact HMI.out.keep fun b hb=>Below.heap_alloc wo _ b hb
   have HM0:Hid (MarkF (ixP a b A B r) A B (fun _ _=> -1) (pcs a b A B r (0*B)).1):=hDD (by
    rw[Nat.zero_mul]
    exact fun i j hi hj=>⟨⟨⟨by show-9223372036854775808≤(-1:Int);decide,by show(-1:Int)≤9223372036854775807;decide⟩,by simp[pcs]⟩,by simp[pcs]⟩)
   have sN:X<(wo.alloc (.cells #[] 61)).heap.size:=by rw[hX];simp
   have ON:=hDD oN
   have MN:=hDD mN
   have HBN:Hid (Below W0.heap.size W0 (wo.alloc (.cells #[] 61))):=hDD (HB.out.alloc (by omega) _)
   have hPX:W0.heap.size<X:=by omega
   clear bN oN mN q1
   go_wp2
   go_loopw [9,10] (fun out i wr=> ∃(k:Nat) (f:Nat→Nat→Int),k≤A∧i= .int .i64 k∧OwPc wr X out (pcs a b A B r (k*B)).2∧MatI X W0.heap.size W0.heap.size A B wr Q f∧MarkF (ixP a b A B r) A B f (pcs a b A B r (k*B)).1∧Below W0.heap.size W0 wr∧X<wr.heap.size) (fun _ i _=>A-(intOf i).toNat)
   case atStart=>exact⟨0,_,Nat.zero_le _,rfl,ON.out,MN.out,HM0.out,HBN.out,sN⟩
   case round=>
    clear ON MN HM0 HBN sN
    obtain⟨k,f,hk,rfl,hown,hmat,hmf,hbel,hXw⟩:=hrel
    obtain⟨wp,rfl⟩: ∃wp:World,wp=wr:=⟨_,rfl⟩
    have HO:=hDD hown
    have HMT:=hDD hmat
    have HMF:=hDD hmf
    have HB3:=hDD hbel
    have q1:=(hbel.cell (p:=⟨w.heap.size,1,none⟩) hl0).trans A1.out
    clear hown hmat hmf hbel
    by_cases hlt:k<A
    ·have hki:(k:Int)<(A:Int):=by omega
     go_wp2
     go_loopw [9,11] (fun out j wr=> ∃(m:Nat) (f:Nat→Nat→Int),m≤B∧j= .int .i64 m∧OwPc wr X out (pcs a b A B r (k*B+m)).2∧MatI X W0.heap.size W0.heap.size A B wr Q f∧MarkF (ixP a b A B r) A B f (pcs a b A B r (k*B+m)).1∧Below W0.heap.size W0 wr∧X<wr.heap.size) (fun _ j _=>B-(intOf j).toNat)
     case atStart=>exact⟨0,f,Nat.zero_le _,rfl,HO.out,HMT.out,HMF.out,HB3.out,hXw⟩
     case round=>
      clear HO HMT HMF HB3 hXw q1
      obtain⟨m,f,hm,rfl,hown,hmat,hmf,hbel,hXw⟩:=hrel
      have HO:=hDD hown
      have HMT:=hDD hmat
      have HMF:=hDD hmf
      have HB4:=hDD hbel
      have q1:=(hbel.cell (p:=⟨w.heap.size+1,1,none⟩) hl1).trans B1.out
      by_cases hlt2:m<B
      ·have hmi:(m:Int)<(B:Int):=by omega
       have cO:=hmat.cellO hlt
       have cI:=hmat.cellI hlt hlt2
       have fI:=hmat.free hlt m
       obtain⟨⟨hf64,hfm⟩,_⟩:=hmf k m hlt hlt2
       have HFM:=hDD hfm
       have PS1:=hDD (pcs_succ a b A B r (k*B+m))
       have hilt:k*B+m<A*B:=by
        have:(k+1)*B≤A*B:=Nat.mul_le_mul_right B hlt
        rw[Nat.add_mul,Nat.one_mul] at this
        omega
       have hpl:=pcs_len a b A B r (k*B+m)
       have hn1:=HN1.out
       generalize f k m=z at*
       clear hown hmat hmf hbel hfm
       by_cases hz:0≤z
       ·have F:Hid (pcs a b A B r (k*B+(m+1))=pcs a b A B r (k*B+m)):=hDD (by rw[←Nat.add_assoc,PS1.out];unfold pst2;rw[if_pos (HFM.out.1 hz)])
        go_wp2
        go_roundw
        case rel=>exact⟨m+1,f,by omega,by go_num,by rw[F.out];exact HO.out,HMT.out,by rw[F.out];exact HMF.out,HB4.out,hXw⟩
        case measure=>simp[intOf];omega
       ·have hnm:k*B+m∉(pcs a b A B r (k*B+m)).1:=fun h=>hz (HFM.out.2 h)
        have F:Hid (pcs a b A B r (k*B+(m+1))=((pcs a b A B r (k*B+m)).1++prsL a b A B (lettersL r) (k*B+m),(pcs a b A B r (k*B+m)).2++ [pcD a b A B r (k*B+m)])):=hDD (by rw[←Nat.add_assoc,PS1.out];unfold pst2;rw[if_neg hnm])
        have HNM:=hDD hnm
        have HILT:=hDD hilt
        clear hnm
        obtain⟨Ao,capo,rfl,hco,hmo,_⟩:=owns_form HO.out
        unfold maxLen at hmo
        have hQX:=HMT.out.ltQ k hlt
        have hQlt:Q k<wr.heap.size:=by omega
        have hQne: ¬Q k=wr.heap.size:=by omega
        have hPwr:W0.heap.size<wr.heap.size:=by omega
        have HOUT:Hid (∀p q x,x∈lettersL r→p∉(pcs a b A B r (k*B+m)).1→pnx a.2.2 b.2.2 B p x=some q→q∉(pcs a b A B r (k*B+m)).1):=hDD fun p q x hx hp hq=>pcs_out H2.out hr3.1 (Nat.le_of_lt hilt) hx hp hq
        have HIX:Hid (∀p∈prsL a b A B (lettersL r) (k*B+m),ixP a b A B r p=((pcs a b A B r (k*B+m)).2.length:Int)):=hDD fun p hp=>ixP_of H2.out hr3.1 hilt HNM.out hp
        have hself:=prs_self (p:=k*B+m) (ls:=lettersL r) H2.out
        have HIS:=hDD (HIX.out _ hself)
        clear hself
        generalize pcs a b A B r (k*B+m)=ST at*
        obtain⟨M,L⟩:=ST
        simp only at F HNM HFM HO HMF hpl hco HOUT HIX HIS⊢
        go_wp2
        have hbM: ∀b,b≠Q k→b<wr.heap.size→(((wr.setCell ⟨Q k,m,none⟩ (.int .i64 L.length)).alloc (.cells #[.int .i64 k, .int .i64 m, .int .i64 0, .int .i64 0, .bool false] 61)).alloc (.cells #[.int .i64 k, .int .i64 m] 80)).heap[b]? =wr.heap[b]? :=fun b h1 h2=>by
         rw[Below.heap_alloc _ _ b (by simp;omega),Below.heap_alloc _ _ b (by simpa using h2)]
         exact Below.heap_setCell wr _ _ b h1
        have mat5:MatI X W0.heap.size W0.heap.size A B (((wr.setCell ⟨Q k,m,none⟩ (.int .i64 L.length)).alloc (.cells #[.int .i64 k, .int .i64 m, .int .i64 0, .int .i64 0, .bool false] 61)).alloc (.cells #[.int .i64 k, .int .i64 m] 80)) Q (upd f k m (L.length:Int)):=
         (HMT.out.set hlt hlt2 (z:=(L.length:Int)) ⟨by omega,by omega⟩).keep fun b hb=>by
          rw[Below.heap_alloc _ _ b (by simp;omega),Below.heap_alloc _ _ b (by simp;omega)]
        have mf5:=markF_upd HMF.out (i:=k) hlt2 (z:=(L.length:Int)) (by omega) ⟨by omega,by omega⟩ HIS.out
        have oL5:OwPc (((wr.setCell ⟨Q k,m,none⟩ (.int .i64 L.length)).alloc (.cells #[.int .i64 k, .int .i64 m, .int .i64 0, .int .i64 0, .bool false] 61)).alloc (.cells #[.int .i64 k, .int .i64 m] 80)) X (.slice Ao L.length capo) L:=owns_keep HO.out fun b e=>by
         have h1:=HO.out.lt b e
         exact hbM b (by omega) h1.2
        have oT5:OwPr (((wr.setCell ⟨Q k,m,none⟩ (.int .i64 L.length)).alloc (.cells #[.int .i64 k, .int .i64 m, .int .i64 0, .int .i64 0, .bool false] 61)).alloc (.cells #[.int .i64 k, .int .i64 m] 80)) (wr.heap.size+1) (.slice (some ⟨wr.heap.size+1,0,none⟩) 1 1) B [k*B+m]:=OwPr_one _ (by simp) hlt2 _ (by simp)
        have p0:(((wr.setCell ⟨Q k,m,none⟩ (.int .i64 L.length)).alloc (.cells #[.int .i64 k, .int .i64 m, .int .i64 0, .int .i64 0, .bool false] 61)).alloc (.cells #[.int .i64 k, .int .i64 m] 80)).cell? ⟨wr.heap.size,0,none⟩=some (.int .i64 k):=by simp[go_sem]
        have p1:(((wr.setCell ⟨Q k,m,none⟩ (.int .i64 L.length)).alloc (.cells #[.int .i64 k, .int .i64 m, .int .i64 0, .int .i64 0, .bool false] 61)).alloc (.cells #[.int .i64 k, .int .i64 m] 80)).cell? ⟨wr.heap.size,1,none⟩=some (.int .i64 m):=by simp[go_sem]
        have p2:(((wr.setCell ⟨Q k,m,none⟩ (.int .i64 L.length)).alloc (.cells #[.int .i64 k, .int .i64 m, .int .i64 0, .int .i64 0, .bool false] 61)).alloc (.cells #[.int .i64 k, .int .i64 m] 80)).cell? ⟨wr.heap.size,2,none⟩=some (.int .i64 0):=by simp[go_sem]
        have p3:(((wr.setCell ⟨Q k,m,none⟩ (.int .i64 L.length)).alloc (.cells #[.int .i64 k, .int .i64 m, .int .i64 0, .int .i64 0, .bool false] 61)).alloc (.cells #[.int .i64 k, .int .i64 m] 80)).cell? ⟨wr.heap.size,3,none⟩=some (.int .i64 0):=by simp[go_sem]
        have p4:(((wr.setCell ⟨Q k,m,none⟩ (.int .i64 L.length)).alloc (.cells #[.int .i64 k, .int .i64 m, .int .i64 0, .int .i64 0, .bool false] 61)).alloc (.cells #[.int .i64 k, .int .i64 m] 80)).cell? ⟨wr.heap.size,4,none⟩=some (.bool false):=by simp[go_sem]
        have pF: ∀j,(((wr.setCell ⟨Q k,m,none⟩ (.int .i64 L.length)).alloc (.cells #[.int .i64 k, .int .i64 m, .int .i64 0, .int .i64 0, .bool false] 61)).alloc (.cells #[.int .i64 k, .int .i64 m] 80)).frozen? ⟨wr.heap.size,j,none⟩=false:=fun j=>by simp[go_sem]
        have hPQ:W0.heap.size<Q k:=by have:=HMI.out.neP k hlt;have:=(HMT.out.rows k hlt).1.lt (Q k) rfl;have:=HMT.out.neP k hlt;omega
        have b5:Below W0.heap.size W0 (((wr.setCell ⟨Q k,m,none⟩ (.int .i64 L.length)).alloc (.cells #[.int .i64 k, .int .i64 m, .int .i64 0, .int .i64 0, .bool false] 61)).alloc (.cells #[.int .i64 k, .int .i64 m] 80)):=((HB4.out.setCell (p:=⟨Q k,m,none⟩) (by show W0.heap.size≤Q k;omega) _).alloc (by simp;omega) _).alloc (by simp;omega) _
        have s5:wr.heap.size+1<(((wr.setCell ⟨Q k,m,none⟩ (.int .i64 L.length)).alloc (.cells #[.int .i64 k, .int .i64 m, .int .i64 0, .int .i64 0, .bool false] 61)).alloc (.cells #[.int .i64 k, .int .i64 m] 80)).heap.size:=by simp
        generalize ((wr.setCell ⟨Q k,m,none⟩ (.int .i64 L.length)).alloc (.cells #[.int .i64 k, .int .i64 m, .int .i64 0, .int .i64 0, .bool false] 61)).alloc (.cells #[.int .i64 k, .int .i64 m] 80)=W5 at*
        obtain⟨pb,hpb⟩: ∃pb,pb=wr.heap.size:=⟨_,rfl⟩
        have HPB:=hDD hpb
        rw[←hpb] at oT5 p0 p1 p2 p3 p4 pF s5⊢
        have hXpb:X<pb:=by omega
        have MAT5:=hDD mat5
        have MF5:=hDD mf5
        have OL5:=hDD oL5
        have OT5:=hDD oT5
        have HB5:=hDD b5
        have E0:=hDD p0
        have E1:=hDD p1
        have E2:=hDD p2
        have E3:=hDD p3
        have E4:=hDD p4
        have EF:=hDD pF
        obtain⟨st,hst⟩: ∃st,st=k*B+m:=⟨_,rfl⟩
        rw[←hst] at F HNM HILT MF5 OT5 HIX
        obtain⟨PS,hPS⟩: ∃PS,PS=prsL a b A B (lettersL r) st:=⟨_,rfl⟩
        have HPS:Hid (PS=bfsF a.2.2 b.2.2 B (lettersL r) (A*B+1) 0 [st]):=hDD (by rw[hPS];rfl)
        have HPC:Hid (∀p q x,p∈PS→x∈lettersL r→pnx a.2.2 b.2.2 B p x=some q→q∈PS):=hDD fun p q x hp hx hq=>by rw[hPS] at hp⊢;exact prs_closed H2.out (fun x hx=>(letters_ok hr3.1 x hx).1) HILT.out p hp x q hx hq
        rw[←hPS] at HIX
        have HPD:Hid (pcD a b A B r st=((k:Int),(m:Int),(PS.length:Int),(edgL a.2.2 b.2.2 B r PS:Int),eqB B PS)):=hDD (by
         unfold pcD
         rw[hPS]
         have:=prC_of (k:=k) hlt2
         rw[←hst] at this
         unfold prC at this
         simp only[List.cons.injEq,Value.int.injEq,true_and,and_true] at this
         rw[this.1,this.2])
        rw[HPD.out,←hPS] at F
        have HST:=hDD hst
        have HAO:Hid (∀b,(Value.slice Ao L.length capo).ownBlock=some b→b<pb):=hDD fun b e=>by have:=(HO.out.lt b e).2;have:=HPB.out;omega
        clear hbM mat5 mf5 oL5 oT5 p0 p1 p2 p3 p4 pF b5 hPS hst hpb q1 cO cI fI HO HMT HMF hco hz
        go_loopw [13,14] (fun t i wr=> ∃(k5:Nat) (o:List Nat) (f5:Nat→Nat→Int),k5≤o.length∧i= .int .i64 k5∧o.Nodup∧(∀q∈o,q<A*B∧q∉M)∧PS=bfsF a.2.2 b.2.2 B (lettersL r) (A*B+1-k5) k5 o∧OwPr wr (pb+1) t B o∧MatI X W0.heap.size W0.heap.size A B wr Q f5∧MarkF (ixP a b A B r) A B f5 (M++o)∧wr.cell? ⟨pb,0,none⟩=some (.int .i64 k)∧wr.cell? ⟨pb,1,none⟩=some (.int .i64 m)∧wr.cell? ⟨pb,2,none⟩=some (.int .i64 k5)∧wr.cell? ⟨pb,3,none⟩=some (.int .i64 (edgL a.2.2 b.2.2 B r (o.take k5):Nat))∧wr.cell? ⟨pb,4,none⟩=some (.bool (eqB B (o.take k5)))∧(∀j,wr.frozen? ⟨pb,j,none⟩=false)∧OwPc wr X (.slice Ao L.length capo) L∧Below W0.heap.size W0 wr∧pb+1<wr.heap.size) (fun _ i _=>A*B+1-(intOf i).toNat)
        case atStart=>exact⟨0,[st],_,by simp,rfl,by simp,fun q hq=>by rw[List.mem_singleton.1 hq];exact⟨HILT.out,HNM.out⟩,HPS.out,OT5.out,MAT5.out,MF5.out,E0.out,E1.out,E2.out,E3.out,E4.out,EF.out,OL5.out,HB5.out,s5⟩
        case round=>
         clear OT5 MAT5 MF5 E0 E1 E2 E3 E4 EF OL5 HB5 s5 HPS
         obtain⟨k5,o,f5,hk5,rfl,hnd,hlo,hps,hot,hmat,hmf,e0,e1,e2,e3,e4,ef,hol,hbel,hpw⟩:=hrel
         obtain⟨wx,rfl⟩: ∃wx:World,wx=wr:=⟨_,rfl⟩
         have hoL:=nodup_lt hnd (fun q hq=>(hlo q hq).1)
         have HND:=hDD hnd
         have HLO:=hDD hlo
         have HPS:=hDD hps
         have HMT:=hDD hmat
         have HMF:=hDD hmf
         have HOL:=hDD hol
         have HB6:=hDD hbel
         have HOT:=hDD hot
         have EF:=hDD ef
         have E0:=hDD e0
         have E1:=hDD e1
         have E3:=hDD e3
         obtain⟨At,capt,rfl,hct,hmt,_,hft⟩:=owns_form hot
         unfold maxLen at hmt
         by_cases hlt5:k5<o.length
         ·obtain⟨tb,rfl,htb1,htb2⟩:=hft (by omega)
          obtain⟨p,hp⟩: ∃p,o[k5]? =some p:=⟨o[k5],by simp⟩
          have hkp:o[k5]=p:=by rw[List.getElem?_eq_getElem hlt5] at hp;injection hp
          have hpn:=HLO.out p (List.mem_of_getElem? hp)
          have HPM:Hid (p∈PS):=hDD (by rw[HPS.out];exact prs_mem H2.out (p:=0) _ _ _ (List.mem_of_getElem? hp))
          have ck0:wx.cell? ⟨tb,k5*2+0,none⟩=some (.int .i64 ((p/B:Nat):Int)):=by
           rw[World.ownsRow.cellAt hot (k5*2+0) (by omega),prCs_get B o k5 0 hlt5 (by omega),hkp];rfl
          have ck1:wx.cell? ⟨tb,k5*2+1,none⟩=some (.int .i64 ((p%B:Nat):Int)):=by
           rw[World.ownsRow.cellAt hot (k5*2+1) (by omega),prCs_get B o k5 1 hlt5 (by omega),hkp];rfl
          obtain⟨un,hun⟩: ∃un,un=p/B:=⟨_,rfl⟩
          obtain⟨vn,hvn⟩: ∃vn,vn=p%B:=⟨_,rfl⟩
          rw[←hun] at ck0
          rw[←hvn] at ck1
          rw[Nat.add_zero] at ck0
          have EQS:Hid (eqB B (o.take (k5+1))=(eqB B (o.take k5)||decide (un=vn))):=hDD (by rw[eqB_snoc B o k5 hlt5,hkp,hun,hvn])
          have HUN:=hDD hun
          have HVN:=hDD hvn
          have ntb: ¬pb=tb:=by omega
          have ntb': ¬tb=pb:=by omega
          have ef2:=ef 2
          have ef4:=ef 4
          have hk5i:(k5:Int)<(o.length:Int):=by omega
          have hpbw:pb<wx.heap.size:=by omega
          clear hft hnd hlo hps hot hmat hmf hol hbel ef hp hun hvn e0 e1 e3
          go_wp2_with fail
          have x4:(wx.setCell ⟨pb,2,none⟩ (.int .i64 ((k5:Int)+1))).cell? ⟨pb,4,none⟩=some (.bool (eqB B (o.take k5))):=by
           rw[World.cell?_setCell_other _ _ _ _ (by simp)];exact e4
          have xk0:(wx.setCell ⟨pb,2,none⟩ (.int .i64 ((k5:Int)+1))).cell? ⟨tb,k5*2,none⟩=some (.int .i64 un):=(cell_set_other _ _ _ _ _ _ ntb').trans ck0
          have xk1:(wx.setCell ⟨pb,2,none⟩ (.int .i64 ((k5:Int)+1))).cell? ⟨tb,k5*2+1,none⟩=some (.int .i64 vn):=(cell_set_other _ _ _ _ _ _ ntb').trans ck1
          have xf:(wx.setCell ⟨pb,2,none⟩ (.int .i64 ((k5:Int)+1))).frozen? ⟨pb,4,none⟩=false:=by rw[World.frozen?_setCell];exact ef4
          generalize hwy:wx.setCell ⟨pb,2,none⟩ (.int .i64 ((k5:Int)+1))=wy at*
          have HWY:=hDD hwy
          clear hwy
          generalize hee:eqB B (o.take k5)=ee at*
          clear hee
          have sy:wy.heap.size=wx.heap.size:=by rw[←HWY.out];simp
          have htbw:tb<wy.heap.size:=by omega
          have hpy:pb<wy.heap.size:=by omega
          have f4:=BelW.cell x4 hpy
          have fk0:=BelW.cell xk0 htbw
          have fk1:=BelW.cell xk1 htbw
          generalize hnw:(ee||decide (un=vn))=nw at*
          have HNW:=hDD hnw
          clear hnw
          have key:Hid (∀wv,Below wy.heap.size wy wv→wv.cell? ⟨pb,4,none⟩=some (.bool ee)∧wv.frozen? ⟨pb,4,none⟩=false):=hDD fun wv hb=>⟨(hb.cell (p:=⟨pb,4,none⟩) hpy).trans x4,(hb.frozen (p:=⟨pb,4,none⟩) hpy).trans xf⟩
          have huvn:ee=false→((un:Int)==(vn:Int))=nw:=fun h=>by
           have h1:=HNW.out
           rw[h,Bool.false_or] at h1
           rw[←h1]
           by_cases h2:un=vn
           ·subst h2;simp
           ·rw[decide_eq_false h2]
            exact beq_eq_false_iff_ne.2 (fun e=>h2 (Int.ofNat_inj.mp e))
          have htru:ee=true→nw=true:=fun h=>by have h1:=HNW.out;rw[h,Bool.true_or] at h1;exact h1.symm
          have Q0:Hid (∀wv,Below wy.heap.size wy wv→wv.cell? ⟨w.heap.size,0,none⟩=some (.int .i64 r)):=hDD fun wv hb=>by
           have h1:=(HB6.out.cell (p:=⟨w.heap.size,0,none⟩) hl0).trans A0.out
           rw[(hb.cell (p:=⟨w.heap.size,0,none⟩) (by show w.heap.size<wy.heap.size;omega)),←HWY.out]
           exact(cell_set_other _ _ _ _ _ _ (by omega)).trans h1
          have HKEEP:Hid (∀wv,Below wy.heap.size wy wv→ ∀b,b≠pb→b<wx.heap.size→(wv.setCell ⟨pb,4,none⟩ (.bool nw)).heap[b]? =wx.heap[b]?):=hDD fun wv hb b h1 h2=>by
           rw[Below.heap_setCell wv _ _ b h1,hb.block b (by omega),←HWY.out]
           exact Below.heap_setCell wx _ _ b h1
          have HCELLS:Hid (∀wv,Below wy.heap.size wy wv→(wv.setCell ⟨pb,4,none⟩ (.bool nw)).cell? ⟨pb,0,none⟩=some (.int .i64 k)∧(wv.setCell ⟨pb,4,none⟩ (.bool nw)).cell? ⟨pb,1,none⟩=some (.int .i64 m)∧(wv.setCell ⟨pb,4,none⟩ (.bool nw)).cell? ⟨pb,2,none⟩=some (.int .i64 ((k5:Int)+1))∧(wv.setCell ⟨pb,4,none⟩ (.bool nw)).cell? ⟨pb,3,none⟩=some (.int .i64 (edgL a.2.2 b.2.2 B r (o.take k5):Nat))∧(wv.setCell ⟨pb,4,none⟩ (.bool nw)).cell? ⟨pb,4,none⟩=some (.bool nw)∧(∀j,(wv.setCell ⟨pb,4,none⟩ (.bool nw)).frozen? ⟨pb,j,none⟩=false)):=hDD fun wv hb=>by
           have cc: ∀j,wv.cell? ⟨pb,j,none⟩=(wx.setCell ⟨pb,2,none⟩ (.int .i64 ((k5:Int)+1))).cell? ⟨pb,j,none⟩:=fun j=>by rw[HWY.out];exact hb.cell (p:=⟨pb,j,none⟩) hpy
           refine⟨?_,?_,?_,?_,?_,fun j=> ?_⟩
           ·rw[World.cell?_setCell_other _ _ _ _ (by simp),cc,World.cell?_setCell_other _ _ _ _ (by simp)];exact E0.out
           ·rw[World.cell?_setCell_other _ _ _ _ (by simp),cc,World.cell?_setCell_other _ _ _ _ (by simp)];exact E1.out
           ·rw[World.cell?_setCell_other _ _ _ _ (by simp),cc,World.cell?_setCell_same _ _ _ e2]
           ·rw[World.cell?_setCell_other _ _ _ _ (by simp),cc,World.cell?_setCell_other _ _ _ _ (by simp)];exact E3.out
           ·exact World.cell?_setCell_same _ _ _ (key.out wv hb).1
           ·rw[World.frozen?_setCell]
            have h1:=hb.frozen (p:=⟨pb,j,none⟩) hpy
            rw[h1,←HWY.out,World.frozen?_setCell]
            exact EF.out j
          have HBZ:Hid (∀wv,Below wy.heap.size wy wv→Below W0.heap.size W0 (wv.setCell ⟨pb,4,none⟩ (.bool nw))):=hDD fun wv hb=>by
           have h1:Below W0.heap.size W0 wy:=by rw[←HWY.out];exact HB6.out.setCell (by show W0.heap.size≤pb;omega) _
           exact(h1.trans (hb.mono (by omega))).setCell (by show W0.heap.size≤pb;omega) _
          have nwpb: ¬pb=w.heap.size:=by omega
          have nwpb': ¬w.heap.size=pb:=by omega
          have HLE:Hid (∀W:World,Calls Tryz.prog 66 #[.int .i64 r] W fun e w'=> ∃s,e= .returned s∧OwI w' W.heap.size s (lettersL r)∧Below W.heap.size W w'):=hDD fun W=>letters_any r W (by omega)
          clear e2 x4 xf xk0 xk1 ck0 ck1 ef2 ef4 e4
          cases ee
          all_goals
           first
            | (have huv:=huvn rfl)
            | (have htr:=htru rfl;subst htr)
           clear huvn htru
           (refine wp_region_quiet_last 16 (by kernel_rfl) (by rfl) (by kernel_rfl) (by kernel_rfl) ?_;dsimp only[dumL,lastL];(repeat(go_big_quiet_step (fail)));refine wpQuiet_nil ?_;intro wv hw';obtain⟨pq,hw''⟩:=hw';have bv:=pq.h;rw[←hw''] at bv;clear hw'' pq)
           obtain⟨y4,yf⟩:=key.out wv bv
           have y0:=Q0.out wv bv
           have HK8:=hDD (HKEEP.out wv bv)
           have HC8:=hDD (HCELLS.out wv bv)
           have HB8:=hDD (HBZ.out wv bv)
           have sv:=bv.size
           have hsz: ∀z,(wv.setCell ⟨pb,4,none⟩ z).heap.size=wv.heap.size:=fun z=>by simp
           have HSZ:=hDD hsz
           clear bv key Q0 HKEEP HCELLS HBZ hsz f4 fk0 fk1
           go_wp2_with fail
           refine(HLE.out _).mono ?_
           rintro e wl ⟨rl,rfl,ol,bl⟩
           have hsZ:=HSZ.out
           obtain⟨z0,z1,z2,z3,z4,zf⟩:=HC8.out
           have hpZ: ∀(W:World),W.heap.size=wv.heap.size→pb<W.heap.size:=fun W h=>by rw[h];omega
           have l0:=(bl.cell (p:=⟨pb,0,none⟩) (hpZ _ (hsZ _))).trans z0
           have l1:=(bl.cell (p:=⟨pb,1,none⟩) (hpZ _ (hsZ _))).trans z1
           have l2:=(bl.cell (p:=⟨pb,2,none⟩) (hpZ _ (hsZ _))).trans z2
           have l3:=(bl.cell (p:=⟨pb,3,none⟩) (hpZ _ (hsZ _))).trans z3
           have l4:=(bl.cell (p:=⟨pb,4,none⟩) (hpZ _ (hsZ _))).trans z4
           rw[←EQS.out] at l4
           have lF: ∀j,wl.frozen? ⟨pb,j,none⟩=false:=fun j=>(bl.frozen (p:=⟨pb,j,none⟩) (hpZ _ (hsZ _))).trans (zf j)
           have hkl: ∀b,b≠pb→b<wx.heap.size→wl.heap[b]? =wx.heap[b]? :=fun b h1 h2=>(bl.block b (by rw[hsZ];omega)).trans (HK8.out b h1 h2)
           have hsl:wv.heap.size≤wl.heap.size:=by have:=bl.size;rw[hsZ] at this;exact this
           obtain⟨Al,capl,rfl,hcl,hml,_,hfl⟩:=ol.form
           have hll:=lettersL_len r
           obtain⟨gl,rfl,hgl1,hgl2⟩:=hfl (by omega)
           rw[hsZ] at hgl1
           unfold maxLen at hml
           have OL6:=hDD ol.rd
           have MT6:=hDD (HMT.out.keep (w':=wl) fun b hb=>hkl b (by omega) (by omega))
           have OT6:Hid (OwPr wl (pb+1) (.slice (some ⟨tb,0,none⟩) o.length capt) B o):=hDD (owns_keep HOT.out fun b e=>by
            simp only[Value.ownBlock,Option.some.injEq] at e
            subst e
            exact hkl _ (by omega) htb2)
           have OP6:Hid (OwPc wl X (.slice Ao L.length capo) L):=hDD (owns_keep HOL.out fun b e=>hkl b (by have:=HAO.out b e;omega) (HOL.out.lt b e).2)
           have BL6:Hid (Below W0.heap.size W0 wl):=hDD (HB8.out.trans (bl.mono (by rw[hsZ];omega)))
           have L0:=hDD l0
           have L1:=hDD l1
           have L2:=hDD l2
           have L3:=hDD l3
           have L4:=hDD l4
           have LF:=hDD lF
           have hglpb:gl≠pb:=by omega
           have hglX:X<gl:=by omega
           have hgltb:gl≠tb:=by omega
           have HLL:=hDD hll
           have hpl1:pb+1<wl.heap.size:=by omega
           clear z0 z1 z2 z3 z4 zf l0 l1 l2 l3 l4 lF hkl hpZ ol bl hfl hsZ HC8 HK8 HB8 y4 yf y0 hll HLE
           have HCF:Hid (PS=bfsF a.2.2 b.2.2 B (lettersL r) (A*B+1-(k5+1)) (k5+1) ((lettersL r).foldl (pst a.2.2 b.2.2 B p) o)):=hDD (by
            rw[HPS.out,show A*B+1-k5=(A*B+1-(k5+1))+1 by omega]
            conv=>lhs;unfold bfsF
            rw[List.getElem?_eq_getElem hlt5,hkp])
           have HPU:Hid (∀i:Nat,(((lettersL r).take i).foldl (pst a.2.2 b.2.2 B p) o)[k5]? =some p):=hDD fun i=>pfold_prefix (a:=a) (b:=b) (B:=B) _ p o (by rw[List.getElem?_eq_getElem hlt5,hkp])
           have HSU:Hid (∀(i:Nat) (hi:i<(lettersL r).length),((lettersL r).take (i+1)).foldl (pst a.2.2 b.2.2 B p) o=pst a.2.2 b.2.2 B p (((lettersL r).take i).foldl (pst a.2.2 b.2.2 B p) o) (lettersL r)[i]):=hDD fun i hi=>by rw[List.take_succ_eq_append_getElem hi,List.foldl_append];rfl
           have HNDm:Hid (∀i:Nat,(((lettersL r).take i).foldl (pst a.2.2 b.2.2 B p) o).Nodup):=hDD fun i=>pfold_nodup (a:=a) (b:=b) (B:=B) _ p o HND.out
           have HLOm:Hid (∀i:Nat,∀q∈((lettersL r).take i).foldl (pst a.2.2 b.2.2 B p) o,q<A*B∧q∉M):=hDD fun i=>pfold_all (ls:=lettersL r) (S:=fun q=>q<A*B∧q∉M) (fun p x q hp hx hq=>⟨pnx_lt H2.out hq,HOUT.out p q x hx hp.2 hq⟩) hpn _ o (fun x hx=>List.mem_of_mem_take hx) HLO.out
           have HCS:Hid (∀(i:Nat) (hi:i<(lettersL r).length),cntP a.2.2 b.2.2 B p (lettersL r) (i+1)=cntP a.2.2 b.2.2 B p (lettersL r) i+if 0<(lettersL r)[i]∧(pnx a.2.2 b.2.2 B p (lettersL r)[i]).isSome=true then 1 else 0):=hDD fun i hi=>cntP_succ _ _ _ _ _ i hi
           have HCL:Hid (∀i,cntP a.2.2 b.2.2 B p (lettersL r) i≤i):=hDD fun i=>cntP_le _ _ _ _ _ i
           have HCE:Hid (edgL a.2.2 b.2.2 B r (o.take (k5+1))=edgL a.2.2 b.2.2 B r (o.take k5)+cntP a.2.2 b.2.2 B p (lettersL r) (lettersL r).length):=hDD (by rw[edgL_snoc _ _ _ _ _ _ hlt5,hkp,cntP_full])
           have hEb:edgL a.2.2 b.2.2 B r (o.take k5)≤4800:=by
            have h1:=edgL_le a.2.2 b.2.2 B r hr3.1 (o.take k5)
            have h2:=HN1.out
            rw[List.length_take] at h1
            omega
           generalize edgL a.2.2 b.2.2 B r (o.take k5)=E5 at*
           have HTAKE:Hid (((lettersL r).foldl (pst a.2.2 b.2.2 B p) o).take (k5+1)=o.take (k5+1)):=hDD (pfold_take _ _ _ hlt5)
           generalize hq5:eqB B (o.take (k5+1))=q5 at*
           have HQ5:=hDD hq5
           clear hq5
           have HXL:Hid (∀i (hi:i<(lettersL r).length),(lettersL r)[i]∈lettersL r):=hDD fun i hi=>by simp
           have HIL:Hid (I64s (lettersL r)):=hDD OL6.out.2
           have HLS0:Hid (lettersL r=lettersL r):=hDD rfl
           obtain⟨ls,hls⟩: ∃ls,ls=lettersL r:=⟨_,rfl⟩
           have HLS:=hDD hls
           rw[←hls] at HPU HSU HNDm HLOm HCS HCL HCE HXL HIL HTAKE HCF OL6 HLL hcl⊢
           clear hls HLS0
           go_wp2
           go_loopw [13,115] (fun t j wr=> ∃(i6:Nat) (f6:Nat→Nat→Int),i6≤ls.length∧j= .int .i64 i6∧OwPr wr (pb+1) t B ((ls.take i6).foldl (pst a.2.2 b.2.2 B p) o)∧MatI X W0.heap.size W0.heap.size A B wr Q f6∧MarkF (ixP a b A B r) A B f6 (M++(ls.take i6).foldl (pst a.2.2 b.2.2 B p) o)∧wr.cell? ⟨pb,0,none⟩=some (.int .i64 k)∧wr.cell? ⟨pb,1,none⟩=some (.int .i64 m)∧wr.cell? ⟨pb,2,none⟩=some (.int .i64 ((k5:Int)+1))∧wr.cell? ⟨pb,3,none⟩=some (.int .i64 ((E5+cntP a.2.2 b.2.2 B p ls i6:Nat):Int))∧wr.cell? ⟨pb,4,none⟩=some (.bool q5)∧(∀j,wr.frozen? ⟨pb,j,none⟩=false)∧OwPc wr X (.slice Ao L.length capo) L∧RdI wr (.slice (some ⟨gl,0,none⟩) ls.length capl) ls∧t.ownBlock≠some gl∧gl<wr.heap.size∧Below W0.heap.size W0 wr∧pb+1<wr.heap.size) (fun _ j _=>ls.length-(intOf j).toNat)
           case atStart=>exact⟨0,f5,Nat.zero_le _,rfl,OT6.out,MT6.out,HMF.out,L0.out,L1.out,L2.out,L3.out,L4.out,LF.out,OP6.out,OL6.out,by simp[Value.ownBlock];omega,hgl2,BL6.out,hpl1⟩
           case round=>
            clear OT6 MT6 HMF L0 L1 L2 L3 L4 LF OP6 OL6 BL6 hpl1 HMT HOL HOT HPS EF E0 E1 E3
            obtain⟨i6,f6,hi6,rfl,hot,hmat,hmf,e0,e1,e2,e3,e4,ef,hol,hrd,hne,hgw,hbel,hpw6⟩:=hrel
            have HMT:=hDD hmat
            have HMF:=hDD hmf
            have HOL:=hDD hol
            have HOT:=hDD hot
            have HRD:=hDD hrd
            have HNE:=hDD hne
            have HB7:=hDD hbel
            have E0:=hDD e0
            have E1:=hDD e1
            have E2:=hDD e2
            have E3:=hDD e3
            have E4:=hDD e4
            have EF:=hDD ef
            have hcl6:=HCL.out i6
            clear hmat hmf hol hne hbel e0 e1 e2 e3 e4 ef
            by_cases hlt6:i6<ls.length
            ·have hxm:=HXL.out i6 hlt6
             have HS:=hDD (HSU.out i6 hlt6)
             have HC:=hDD (HCS.out i6 hlt6)
             have hpu:=HPU.out i6
             have hloo:=HLOm.out i6
             have hoL6:=nodup_lt (HNDm.out i6) (fun q hq=>(hloo q hq).1)
             obtain⟨bl',offl',hAl,_,hcl2⟩:=hrd.at (by omega)
             obtain⟨rfl,rfl⟩:gl=bl'∧0=offl':=by simpa using hAl
             have c0:=hcl2 i6 hlt6
             rw[Nat.zero_add] at c0
             have HXM:=hDD hxm
             generalize ls[i6]=x at*
             generalize (ls.take i6).foldl (pst a.2.2 b.2.2 B p) o=om at*
             have hkm:k5<om.length:=(List.getElem?_eq_some_iff.1 hpu).1
             have hkg:om[k5]=p:=by rw[List.getElem?_eq_getElem hkm] at hpu;injection hpu
             obtain⟨At6,capt6,rfl,hct6,hmt6,_,hft6⟩:=owns_form hot
             obtain⟨tb6,rfl,htb61,htb62⟩:=hft6 (by omega)
             have ck0:wr.cell? ⟨tb6,k5*2,none⟩=some (.int .i64 un):=by
              have h1:=World.ownsRow.cellAt hot (k5*2+0) (by omega)
              rw[prCs_get B om k5 0 hkm (by omega),hkg] at h1
              rw[HUN.out]
              exact h1
             have ck1:wr.cell? ⟨tb6,k5*2+1,none⟩=some (.int .i64 vn):=by
              have h1:=World.ownsRow.cellAt hot (k5*2+1) (by omega)
              rw[prCs_get B om k5 1 hkm (by omega),hkg] at h1
              rw[HVN.out]
              exact h1
             have a0:=(HB7.out.cell (p:=⟨w.heap.size,0,none⟩) hl0).trans A0.out
             have a1:=(HB7.out.cell (p:=⟨w.heap.size,1,none⟩) hl0).trans A1.out
             have a2:=(HB7.out.cell (p:=⟨w.heap.size,2,none⟩) hl0).trans A2.out
             have b0:=(HB7.out.cell (p:=⟨w.heap.size+1,0,none⟩) hl1).trans B0.out
             have b1:=(HB7.out.cell (p:=⟨w.heap.size+1,1,none⟩) hl1).trans B1.out
             have b2:=(HB7.out.cell (p:=⟨w.heap.size+1,2,none⟩) hl1).trans B2.out
             have hkmi:(k5:Int)<(om.length:Int):=by omega
             have HNA:=hDD (fun W h=>implNextVertex_any (.agg #[.int .i64 r, .int .i64 A, .slice Aa a.2.2.length capa]) a (un:Int) x W h (ONEA.out (un:Int) x) LETA.out)
             have HNB:=hDD (fun W h=>implNextVertex_any (.agg #[.int .i64 r, .int .i64 B, .slice Ab b.2.2.length capb]) b (vn:Int) x W h (ONEB.out (vn:Int) x) LETB.out)
             have HAA:Hid (∀W,Below W0.heap.size W0 W→ArgG W (.agg #[.int .i64 r, .int .i64 A, .slice Aa a.2.2.length capa]) a):=hDD fun W hb=>HGA.out.below (BX.out.trans (hb.mono (by omega)))
             have HAB:Hid (∀W,Below W0.heap.size W0 W→ArgG W (.agg #[.int .i64 r, .int .i64 B, .slice Ab b.2.2.length capb]) b):=hDD fun W hb=>HGB.out.below (BX.out.trans (hb.mono (by omega)))
             clear hcl2 hAl hrd hot hft6 hpu hkg hxm
             go_wp2_with fail
             have f0:=BelW.cell a0 (show w.heap.size<wr.heap.size by omega)
             have f1:=BelW.cell a1 (show w.heap.size<wr.heap.size by omega)
             have f2:=BelW.cell a2 (show w.heap.size<wr.heap.size by omega)
             have f3:=BelW.cell b0 (show w.heap.size+1<wr.heap.size by omega)
             have f4:=BelW.cell b1 (show w.heap.size+1<wr.heap.size by omega)
             have f5':=BelW.cell b2 (show w.heap.size+1<wr.heap.size by omega)
             have f6':=BelW.cell ck0 htb62
             have f7:=BelW.cell ck1 htb62
             (refine wp_region_quiet_bel (by kernel_rfl) (by kernel_rfl) ?_;(repeat(go_big_quiet_step (first | (go_at_call 67;with_reducible exact Calls.bel_of (HNA.out _ (HAA.out _ (HB7.out.trans ((BelW.h _).mono (by omega)))))) | (go_at_call 67;with_reducible exact Calls.bel_of (HNB.out _ (HAB.out _ (HB7.out.trans ((BelW.h _).mono (by omega)))))))));refine wpQuiet_nil ?_;intro wq hw';obtain⟨pq,hw''⟩:=hw';have bq:=pq.h;rw[←hw''] at bq;clear hw'' pq)
             have sq:=bq.size
             have hpbr:pb<wr.heap.size:=by omega
             have HMTq:=hDD (HMT.out.keep (w':=wq) fun b hb=>bq.block b (by omega))
             have HOTq:Hid (OwPr wq (pb+1) (.slice (some ⟨tb6,0,none⟩) om.length capt6) B om):=hDD (ownsRow_below HOT.out bq)
             have HOLq:Hid (OwPc wq X (.slice Ao L.length capo) L):=hDD (ownsRow_below HOL.out bq)
             have HRDq:=hDD (HRD.out.below bq)
             have HBq:Hid (Below W0.heap.size W0 wq):=hDD (HB7.out.trans (bq.mono (by omega)))
             have C0:=hDD ((bq.cell (p:=⟨pb,0,none⟩) hpbr).trans E0.out)
             have C1:=hDD ((bq.cell (p:=⟨pb,1,none⟩) hpbr).trans E1.out)
             have C2:=hDD ((bq.cell (p:=⟨pb,2,none⟩) hpbr).trans E2.out)
             have C3:=hDD ((bq.cell (p:=⟨pb,3,none⟩) hpbr).trans E3.out)
             have C4:=hDD ((bq.cell (p:=⟨pb,4,none⟩) hpbr).trans E4.out)
             have CF:Hid (∀j,wq.frozen? ⟨pb,j,none⟩=false):=hDD fun j=>(bq.frozen (p:=⟨pb,j,none⟩) hpbr).trans (EF.out j)
             have NA:Hid (nextV a.2.2 un x= -1∨(0≤nextV a.2.2 un x∧nextV a.2.2 un x<A)):=hDD (by have h1:=nextV_range H2.out.ga un x;rwa [H2.out.sa] at h1)
             have NB:Hid (nextV b.2.2 vn x= -1∨(0≤nextV b.2.2 vn x∧nextV b.2.2 vn x<B)):=hDD (by have h1:=nextV_range H2.out.gb vn x;rwa [H2.out.sb] at h1)
             have PX:Hid (pnx a.2.2 b.2.2 B p x=if 0≤nextV a.2.2 un x∧0≤nextV b.2.2 vn x then some ((nextV a.2.2 un x).toNat*B+(nextV b.2.2 vn x).toNat) else none):=hDD (by unfold pnx;rw[←HUN.out,←HVN.out])
             clear bq f0 f1 f2 f3 f4 f5' f6' f7 a0 a1 a2 b0 b1 b2 ck0 ck1 c0 HNA HNB HAA HAB
             generalize nextV a.2.2 un x=y1 at*
             generalize nextV b.2.2 vn x=y2 at*
             rcases NA.out with hy | hy
             ·have hpx:pnx a.2.2 b.2.2 B p x=none:=by rw[PX.out,if_neg (by omega)]
              have F:Hid (pst a.2.2 b.2.2 B p om x=om):=hDD (by unfold pst;rw[hpx])
              have G:Hid (cntP a.2.2 b.2.2 B p ls (i6+1)=cntP a.2.2 b.2.2 B p ls i6):=hDD (by rw[HC.out,hpx];simp)
              subst hy
              clear hpx
              go_wp2
              go_roundw
              case rel=>exact⟨i6+1,f6,by omega,by go_num,by rw[HS.out,F.out];exact HOTq.out,HMTq.out,by rw[HS.out,F.out];exact HMF.out,C0.out,C1.out,C2.out,by rw[G.out];exact C3.out,C4.out,CF.out,HOLq.out,HRDq.out,HNE.out,by omega,HBq.out,by omega⟩
              case measure=>simp[intOf];omega
             rcases NB.out with hz | hz
             ·have hpx:pnx a.2.2 b.2.2 B p x=none:=by rw[PX.out,if_neg (by omega)]
              have F:Hid (pst a.2.2 b.2.2 B p om x=om):=hDD (by unfold pst;rw[hpx])
              have G:Hid (cntP a.2.2 b.2.2 B p ls (i6+1)=cntP a.2.2 b.2.2 B p ls i6):=hDD (by rw[HC.out,hpx];simp)
              have hy0: ¬y1<0:=by omega
              subst hz
              clear hpx
              go_wp2
              go_roundw
              case rel=>exact⟨i6+1,f6,by omega,by go_num,by rw[HS.out,F.out];exact HOTq.out,HMTq.out,by rw[HS.out,F.out];exact HMF.out,C0.out,C1.out,C2.out,by rw[G.out];exact C3.out,C4.out,CF.out,HOLq.out,HRDq.out,HNE.out,by omega,HBq.out,by omega⟩
              case measure=>simp[intOf];omega
             obtain⟨s1,rfl⟩: ∃s1:Nat,y1=(s1:Int):=⟨y1.toNat,by omega⟩
             obtain⟨t1,rfl⟩: ∃t1:Nat,y2=(t1:Int):=⟨y2.toNat,by omega⟩
             have hs1:s1<A:=by omega
             have ht1:t1<B:=by omega
             have hpx:pnx a.2.2 b.2.2 B p x=some (s1*B+t1):=by rw[PX.out,if_pos ⟨hy.1,hz.1⟩];simp only[Int.toNat_natCast]
             have hqM:s1*B+t1∉M:=HOUT.out p _ x (by rw[←HLS.out];exact HXM.out) hpn.2 hpx
             have hmfq:=(HMF.out s1 t1 hs1 ht1).1
             have HGX:Hid (ixP a b A B r (s1*B+t1)=(L.length:Int)):=hDD (HIX.out _ (HPC.out p _ x HPM.out (by rw[←HLS.out];exact HXM.out) hpx))
             have hiff:Hid (0≤f6 s1 t1↔s1*B+t1∈om):=hDD (by rw[hmfq.2,List.mem_append];exact⟨fun h=>h.elim (fun h=>absurd h hqM) id, .inr⟩)
             have hz64:=hmfq.1
             have PST:Hid (pst a.2.2 b.2.2 B p om x=if s1*B+t1∈om then om else om++ [s1*B+t1]):=hDD (by unfold pst;rw[hpx])
             have GP:Hid (0<x→cntP a.2.2 b.2.2 B p ls (i6+1)=cntP a.2.2 b.2.2 B p ls i6+1):=hDD fun h=>by rw[HC.out,hpx,if_pos ⟨h,rfl⟩]
             have GN:Hid (¬0<x→cntP a.2.2 b.2.2 B p ls (i6+1)=cntP a.2.2 b.2.2 B p ls i6):=hDD fun h=>by rw[HC.out,if_neg (fun h'=>h h'.1)];rfl
             have cO:=HMTq.out.cellO hs1
             have cI:=HMTq.out.cellI hs1 ht1
             have fI:=HMTq.out.free hs1 t1
             have hQX:=HMTq.out.ltQ s1 hs1
             have hQW:W0.heap.size≤Q s1:=((HMTq.out.rows s1 hs1).1.lt (Q s1) rfl).1
             have hPpb: ¬pb=W0.heap.size:=by omega
             have hQpb: ¬pb=Q s1:=by omega
             have hs0:(0:Int)≤(s1:Int):=hy.1
             have ht0:(0:Int)≤(t1:Int):=hz.1
             have hs0': ¬(s1:Int)<0:=by omega
             have ht0': ¬(t1:Int)<0:=by omega
             have hsi:(s1:Int)<(A:Int):=hy.2
             have hti:(t1:Int)<(B:Int):=hz.2
             obtain⟨en,hen⟩: ∃en,en=E5+cntP a.2.2 b.2.2 B p ls i6:=⟨_,rfl⟩
             have hen2:en≤10000:=by have h1:=HLL.out;omega
             have HEN:=hDD hen
             rw[←hen] at C3
             generalize f6 s1 t1=z at cI hiff hz64
             obtain⟨q,hq⟩: ∃q,q=s1*B+t1:=⟨_,rfl⟩
             rw[←hq] at PST hiff
             have HQ:=hDD hq
             have c3:=C3.out
             have f3:=CF.out 3
             have hwe:IntKind.i64.wrap ((en:Int)+1)=(en:Int)+1:=by rw[IntKind.wrap_i64];omega
             have hgl7:gl<wq.heap.size:=by omega
             clear hpx hmfq hqM hen hq hy hz NA NB PX
             by_cases hx:0<x
             ·have G:=hDD (GP.out hx)
              have k8: ∀b',b'≠pb→(wq.setCell ⟨pb,3,none⟩ (.int .i64 ((en:Int)+1))).heap[b']? =wq.heap[b']? :=fun b' h=>Below.heap_setCell wq _ _ b' h
              have HM8:=hDD (HMTq.out.keep (w':=(wq.setCell ⟨pb,3,none⟩ (.int .i64 ((en:Int)+1)))) fun b' hb'=>k8 b' (by omega))
              have HT8:Hid (OwPr (wq.setCell ⟨pb,3,none⟩ (.int .i64 ((en:Int)+1))) (pb+1) (.slice (some ⟨tb6,0,none⟩) om.length capt6) B om):=hDD (owns_keep HOTq.out fun b' e=>by
               simp only[Value.ownBlock,Option.some.injEq] at e
               subst e
               exact k8 _ (by omega))
              have HP8:Hid (OwPc (wq.setCell ⟨pb,3,none⟩ (.int .i64 ((en:Int)+1))) X (.slice Ao L.length capo) L):=hDD (owns_keep HOLq.out fun b' e=>k8 b' (by have:=HAO.out b' e;omega))
              have hg8:wq.grownBy (wq.setCell ⟨pb,3,none⟩ (.int .i64 ((en:Int)+1))) (some pb):=set_grown _ _ _ _
              have HR8:=hDD (HRDq.out.grown hg8 fun y h h'=>by simp[Value.ownBlock] at h h';omega)
              have HB8:Hid (Below W0.heap.size W0 (wq.setCell ⟨pb,3,none⟩ (.int .i64 ((en:Int)+1)))):=hDD (HBq.out.setCell (by show W0.heap.size≤pb;omega) _)
              have D0:Hid ((wq.setCell ⟨pb,3,none⟩ (.int .i64 ((en:Int)+1))).cell? ⟨pb,0,none⟩=some (.int .i64 k)):=hDD (by rw[World.cell?_setCell_other _ _ _ _ (by simp)];exact C0.out)
              have D1:Hid ((wq.setCell ⟨pb,3,none⟩ (.int .i64 ((en:Int)+1))).cell? ⟨pb,1,none⟩=some (.int .i64 m)):=hDD (by rw[World.cell?_setCell_other _ _ _ _ (by simp)];exact C1.out)
              have D2:Hid ((wq.setCell ⟨pb,3,none⟩ (.int .i64 ((en:Int)+1))).cell? ⟨pb,2,none⟩=some (.int .i64 ((k5:Int)+1))):=hDD (by rw[World.cell?_setCell_other _ _ _ _ (by simp)];exact C2.out)
              have D3:Hid ((wq.setCell ⟨pb,3,none⟩ (.int .i64 ((en:Int)+1))).cell? ⟨pb,3,none⟩=some (.int .i64 ((E5+cntP a.2.2 b.2.2 B p ls (i6+1):Nat):Int))):=hDD (by
               rw[G.out,←Nat.add_assoc,←HEN.out]
               exact World.cell?_setCell_same _ _ _ c3)
              have D4:Hid ((wq.setCell ⟨pb,3,none⟩ (.int .i64 ((en:Int)+1))).cell? ⟨pb,4,none⟩=some (.bool q5)):=hDD (by rw[World.cell?_setCell_other _ _ _ _ (by simp)];exact C4.out)
              have DF:Hid (∀j,(wq.setCell ⟨pb,3,none⟩ (.int .i64 ((en:Int)+1))).frozen? ⟨pb,j,none⟩=false):=hDD fun j=>by rw[World.frozen?_setCell];exact CF.out j
              have cO8:(wq.setCell ⟨pb,3,none⟩ (.int .i64 ((en:Int)+1))).cell? ⟨W0.heap.size,s1,none⟩=some (.slice (some ⟨Q s1,0,none⟩) B B):=(cell_set_other _ _ _ _ _ _ (by omega)).trans cO
              have cI8:(wq.setCell ⟨pb,3,none⟩ (.int .i64 ((en:Int)+1))).cell? ⟨Q s1,t1,none⟩=some (.int .i64 z):=(cell_set_other _ _ _ _ _ _ (by omega)).trans cI
              have fI8:(wq.setCell ⟨pb,3,none⟩ (.int .i64 ((en:Int)+1))).frozen? ⟨Q s1,t1,none⟩=false:=by rw[World.frozen?_setCell];exact fI
              clear k8 hg8
              by_cases hzz:0≤z
              ·have F:Hid (pst a.2.2 b.2.2 B p om x=om):=hDD (by rw[PST.out,if_pos (hiff.out.1 hzz)])
               go_wp2
               go_roundw
               case rel=>exact⟨i6+1,f6,by omega,by go_num,by rw[HS.out,F.out];exact HT8.out,HM8.out,by rw[HS.out,F.out];exact HMF.out,D0.out,D1.out,D2.out,D3.out,D4.out,DF.out,HP8.out,HR8.out,HNE.out,by first | omega | (simp;omega),HB8.out,by first | omega | (simp;omega)⟩
               case measure=>simp[intOf];omega
              ·have F:Hid (pst a.2.2 b.2.2 B p om x=om++ [q]):=hDD (by rw[PST.out,if_neg (fun h=>hzz (hiff.out.2 h))])
               have k9s: ∀b',b'≠Q s1→((wq.setCell ⟨pb,3,none⟩ (.int .i64 ((en:Int)+1))).setCell ⟨Q s1,t1,none⟩ (.int .i64 L.length)).heap[b']? =(wq.setCell ⟨pb,3,none⟩ (.int .i64 ((en:Int)+1))).heap[b']? :=fun b' h=>Below.heap_setCell (wq.setCell ⟨pb,3,none⟩ (.int .i64 ((en:Int)+1))) _ _ b' h
               have HT9:Hid (OwPr ((wq.setCell ⟨pb,3,none⟩ (.int .i64 ((en:Int)+1))).setCell ⟨Q s1,t1,none⟩ (.int .i64 L.length)) (pb+1) (.slice (some ⟨tb6,0,none⟩) om.length capt6) B om):=hDD (owns_keep HT8.out fun b' e=>by
                simp only[Value.ownBlock,Option.some.injEq] at e
                subst e
                exact k9s _ (by omega))
               have hgS:(wq.setCell ⟨pb,3,none⟩ (.int .i64 ((en:Int)+1))).grownBy ((wq.setCell ⟨pb,3,none⟩ (.int .i64 ((en:Int)+1))).setCell ⟨Q s1,t1,none⟩ (.int .i64 L.length)) (some (Q s1)):=set_grown _ _ _ _
               have HR9:=hDD (HR8.out.grown hgS fun y h h'=>by simp[Value.ownBlock] at h h';omega)
               have HB9:Hid (Below W0.heap.size W0 ((wq.setCell ⟨pb,3,none⟩ (.int .i64 ((en:Int)+1))).setCell ⟨Q s1,t1,none⟩ (.int .i64 L.length))):=hDD (HB8.out.setCell (by show W0.heap.size≤Q s1;omega) _)
               have s9:((wq.setCell ⟨pb,3,none⟩ (.int .i64 ((en:Int)+1))).setCell ⟨Q s1,t1,none⟩ (.int .i64 L.length)).heap.size=wq.heap.size:=by simp
               have HK9:=hDD k9s
               have hzn:z<0:=by omega
               clear k9s hgS hzz
               go_wp2_with (at_builtin;refine push_pair rfl (.tmp 163) (.tmp 167) rfl (pb+1) _ B om (ownsRow_below HT9.out ((Below.refl _ _).alloc (Nat.le_refl _) _)) rfl wq.heap.size q rfl (fun j u hj=>by rw[HQ.out,prC_of ht1] at hj;rcases j with _ | _ | j<;>simp at hj<;>subst hj<;>simp[go_sem]) (by omega) (by simp;omega) ?_;intro v9 w9 o9 g9 p9)
               have hz9:=g9.size
               simp at hz9
               have k9: ∀b',b'≠tb6→b'<wq.heap.size→w9.heap[b']? =((wq.setCell ⟨pb,3,none⟩ (.int .i64 ((en:Int)+1))).setCell ⟨Q s1,t1,none⟩ (.int .i64 L.length)).heap[b']? :=fun b' h1 h2=>by
                rw[g9.block b' (by simp;omega) (by simp[Value.ownBlock];exact h1)]
                exact Below.heap_alloc ((wq.setCell ⟨pb,3,none⟩ (.int .i64 ((en:Int)+1))).setCell ⟨Q s1,t1,none⟩ (.int .i64 L.length)) _ b' (by omega)
               have kpb: ∀j,w9.cell? ⟨pb,j,none⟩=(wq.setCell ⟨pb,3,none⟩ (.int .i64 ((en:Int)+1))).cell? ⟨pb,j,none⟩:=fun j=>(World.cell?_of_block (k9 pb (by omega) (by omega))).trans (cell_set_other _ _ _ _ _ _ (by omega))
               have kpf: ∀j,w9.frozen? ⟨pb,j,none⟩=(wq.setCell ⟨pb,3,none⟩ (.int .i64 ((en:Int)+1))).frozen? ⟨pb,j,none⟩:=fun j=>(World.frozen?_of_block (k9 pb (by omega) (by omega))).trans (frozen_set_other _ _ _ _ _ _ (by omega))
               have mat9:=(HM8.out.set hs1 ht1 (z:=(L.length:Int)) ⟨by omega,by omega⟩).keep (w':=w9) fun b' hb'=>k9 b' (by omega) (by omega)
               have mf9:=markF_upd HMF.out (i:=s1) ht1 (z:=(L.length:Int)) (by omega) ⟨by omega,by omega⟩ HGX.out
               rw[←HQ.out,List.append_assoc] at mf9
               have hp9:OwPc w9 X (.slice Ao L.length capo) L:=owns_keep HP8.out fun b' e=>by
                have h1:=HAO.out b' e
                have h2:=(HP8.out.lt b' e).1
                exact(k9 b' (by omega) (by omega)).trans (HK9.out b' (by omega))
               have hr9:=(HR9.out.alloc (.cells #[.int .i64 s1, .int .i64 t1] 80)).grown g9 (fun y h h'=>by
                have h3:=HNE.out
                simp[Value.ownBlock] at h h' h3
                omega)
               have hb9:=(HB9.out.alloc (by omega) (.cells #[.int .i64 s1, .int .i64 t1] 80)).grown g9 (by simp;omega) (fun y h=>by simp[Value.ownBlock] at h;omega)
               go_roundw
               case rel=>
                refine⟨i6+1,_,by omega,by go_num,by rw[HS.out,F.out];exact o9,mat9,by rw[HS.out,F.out];exact mf9,(kpb 0).trans D0.out,(kpb 1).trans D1.out,(kpb 2).trans D2.out,(kpb 3).trans D3.out,(kpb 4).trans D4.out,fun j=>(kpf j).trans (DF.out j),hp9,hr9,fun e=> ?_,by omega,hb9,by omega⟩
                rcases p9 with p9 | p9
                ·rw[p9] at e;exact HNE.out e
                ·rw[p9] at e;simp at e;omega
               case measure=>simp[intOf];omega
             ·have G:=hDD (GN.out hx)
              have HM8:=HMTq
              have HT8:=HOTq
              have HP8:=HOLq
              have HR8:=HRDq
              have HB8:=HBq
              have D0:=C0
              have D1:=C1
              have D2:=C2
              have D3:Hid (wq.cell? ⟨pb,3,none⟩=some (.int .i64 ((E5+cntP a.2.2 b.2.2 B p ls (i6+1):Nat):Int))):=hDD (by
               rw[G.out,←HEN.out]
               exact c3)
              have D4:=C4
              have DF:=CF
              by_cases hzz:0≤z
              ·have F:Hid (pst a.2.2 b.2.2 B p om x=om):=hDD (by rw[PST.out,if_pos (hiff.out.1 hzz)])
               go_wp2
               go_roundw
               case rel=>exact⟨i6+1,f6,by omega,by go_num,by rw[HS.out,F.out];exact HT8.out,HM8.out,by rw[HS.out,F.out];exact HMF.out,D0.out,D1.out,D2.out,D3.out,D4.out,DF.out,HP8.out,HR8.out,HNE.out,by first | omega | (simp;omega),HB8.out,by first | omega | (simp;omega)⟩
               case measure=>simp[intOf];omega
              ·have F:Hid (pst a.2.2 b.2.2 B p om x=om++ [q]):=hDD (by rw[PST.out,if_neg (fun h=>hzz (hiff.out.2 h))])
               have k9s: ∀b',b'≠Q s1→(wq.setCell ⟨Q s1,t1,none⟩ (.int .i64 L.length)).heap[b']? =wq.heap[b']? :=fun b' h=>Below.heap_setCell wq _ _ b' h
               have HT9:Hid (OwPr (wq.setCell ⟨Q s1,t1,none⟩ (.int .i64 L.length)) (pb+1) (.slice (some ⟨tb6,0,none⟩) om.length capt6) B om):=hDD (owns_keep HT8.out fun b' e=>by
                simp only[Value.ownBlock,Option.some.injEq] at e
                subst e
                exact k9s _ (by omega))
               have hgS:wq.grownBy (wq.setCell ⟨Q s1,t1,none⟩ (.int .i64 L.length)) (some (Q s1)):=set_grown _ _ _ _
               have HR9:=hDD (HR8.out.grown hgS fun y h h'=>by simp[Value.ownBlock] at h h';omega)
               have HB9:Hid (Below W0.heap.size W0 (wq.setCell ⟨Q s1,t1,none⟩ (.int .i64 L.length))):=hDD (HB8.out.setCell (by show W0.heap.size≤Q s1;omega) _)
               have s9:(wq.setCell ⟨Q s1,t1,none⟩ (.int .i64 L.length)).heap.size=wq.heap.size:=by simp
               have HK9:=hDD k9s
               have hzn:z<0:=by omega
               clear k9s hgS hzz
               go_wp2_with (at_builtin;refine push_pair rfl (.tmp 163) (.tmp 167) rfl (pb+1) _ B om (ownsRow_below HT9.out ((Below.refl _ _).alloc (Nat.le_refl _) _)) rfl wq.heap.size q rfl (fun j u hj=>by rw[HQ.out,prC_of ht1] at hj;rcases j with _ | _ | j<;>simp at hj<;>subst hj<;>simp[go_sem]) (by omega) (by simp;omega) ?_;intro v9 w9 o9 g9 p9)
               have hz9:=g9.size
               simp at hz9
               have k9: ∀b',b'≠tb6→b'<wq.heap.size→w9.heap[b']? =(wq.setCell ⟨Q s1,t1,none⟩ (.int .i64 L.length)).heap[b']? :=fun b' h1 h2=>by
                rw[g9.block b' (by simp;omega) (by simp[Value.ownBlock];exact h1)]
                exact Below.heap_alloc (wq.setCell ⟨Q s1,t1,none⟩ (.int .i64 L.length)) _ b' (by omega)
               have kpb: ∀j,w9.cell? ⟨pb,j,none⟩=wq.cell? ⟨pb,j,none⟩:=fun j=>(World.cell?_of_block (k9 pb (by omega) (by omega))).trans (cell_set_other _ _ _ _ _ _ (by omega))
               have kpf: ∀j,w9.frozen? ⟨pb,j,none⟩=wq.frozen? ⟨pb,j,none⟩:=fun j=>(World.frozen?_of_block (k9 pb (by omega) (by omega))).trans (frozen_set_other _ _ _ _ _ _ (by omega))
               have mat9:=(HM8.out.set hs1 ht1 (z:=(L.length:Int)) ⟨by omega,by omega⟩).keep (w':=w9) fun b' hb'=>k9 b' (by omega) (by omega)
               have mf9:=markF_upd HMF.out (i:=s1) ht1 (z:=(L.length:Int)) (by omega) ⟨by omega,by omega⟩ HGX.out
               rw[←HQ.out,List.append_assoc] at mf9
               have hp9:OwPc w9 X (.slice Ao L.length capo) L:=owns_keep HP8.out fun b' e=>by
                have h1:=HAO.out b' e
                have h2:=(HP8.out.lt b' e).1
                exact(k9 b' (by omega) (by omega)).trans (HK9.out b' (by omega))
               have hr9:=(HR9.out.alloc (.cells #[.int .i64 s1, .int .i64 t1] 80)).grown g9 (fun y h h'=>by
                have h3:=HNE.out
                simp[Value.ownBlock] at h h' h3
                omega)
               have hb9:=(HB9.out.alloc (by omega) (.cells #[.int .i64 s1, .int .i64 t1] 80)).grown g9 (by simp;omega) (fun y h=>by simp[Value.ownBlock] at h;omega)
               go_roundw
               case rel=>
                refine⟨i6+1,_,by omega,by go_num,by rw[HS.out,F.out];exact o9,mat9,by rw[HS.out,F.out];exact mf9,(kpb 0).trans D0.out,(kpb 1).trans D1.out,(kpb 2).trans D2.out,(kpb 3).trans D3.out,(kpb 4).trans D4.out,fun j=>(kpf j).trans (DF.out j),hp9,hr9,fun e=> ?_,by omega,hb9,by omega⟩
                rcases p9 with p9 | p9
                ·rw[p9] at e;exact HNE.out e
                ·rw[p9] at e;simp at e;omega
               case measure=>simp[intOf];omega
            ·obtain rfl:i6=ls.length:=by omega
             rw[List.take_length] at HOT HMF
             have hndm:=HNDm.out ls.length
             have hlom:=HLOm.out ls.length
             rw[List.take_length] at hndm hlom
             have HN1':=hDD hndm
             have HN2':=hDD hlom
             have hlen:k5+1≤(ls.foldl (pst a.2.2 b.2.2 B p) o).length:=by
              have:=HPU.out ls.length
              rw[List.take_length] at this
              have:=(List.getElem?_eq_some_iff.1 this).1
              omega
             rw[←HCE.out] at E3
             obtain⟨At6,capt6,rfl,_⟩:=owns_form HOT.out
             clear hot hrd hndm hlom
             go_wp2
             go_roundw
             case rel=>exact⟨k5+1,_,f6,hlen,by go_num,HN1'.out,HN2'.out,by rw[←HLS.out];exact HCF.out,HOT.out,HMT.out,HMF.out,E0.out,E1.out,by rw[E2.out];go_num,by rw[HTAKE.out];exact E3.out,by rw[HTAKE.out,HQ5.out];exact E4.out,EF.out,HOL.out,HB7.out,hpw6⟩
             case measure=>simp[intOf];omega
         ·obtain rfl:k5=o.length:=by omega
          have HPO:Hid (PS=o):=hDD (by
           rw[HPS.out]
           cases A*B+1-o.length with
           | zero=>rfl
           | succ f=>unfold bfsF;rw[List.getElem?_eq_none (Nat.le_refl _)])
          rw[HPO.out] at F
          rw[List.take_length] at e3 e4
          have e0':=E0.out
          have e1':=E1.out
          have hpbw:pb<wx.heap.size:=by omega
          have hb9:X≤wx.heap.size:=by omega
          clear hnd hlo hps hot hmat hmf hbel hft HPS HPO E3
          generalize edgL a.2.2 b.2.2 B r o=E5 at*
          generalize eqB B o=q5 at*
          go_wp2_with (at_builtin;refine push_piece rfl (.tmp 170) (.tmp 172) rfl X _ L (ownsRow_below HOL.out ((Below.refl _ _).alloc (Nat.le_refl _) _)) rfl wx.heap.size ((k:Int),(m:Int),(o.length:Int),(E5:Int),q5) rfl (fun j u hj=>by rcases j with _ | _ | _ | _ | _ | j<;>simp[pcC] at hj<;>subst hj<;>simp[go_sem]) (by omega) (by simp;omega) ?_;intro v9 w9 o9 g9 p9)
          have hz9:=g9.size
          simp at hz9
          go_roundw
          case rel=>
           refine⟨m+1,f5,by omega,by go_num,by rw[F.out];exact o9,HMT.out.keep fun b hb=> ?_,by rw[F.out];exact HMF.out,(HB6.out.alloc (by omega) _).grown g9 (by simp;omega) (fun x hx=>by have:=(HOL.out.lt x hx).1;omega),by omega⟩
           rw[g9.block b (by simp;omega) (fun e=>by have:=(HOL.out.lt b e.symm).1;omega)]
           exact Below.heap_alloc wx _ b (by omega)
          case measure=>simp[intOf];omega
      ·obtain rfl:m=B:=by omega
       have F:Hid (k*m+m=(k+1)*m):=hDD (by rw[Nat.add_mul,Nat.one_mul])
       rw[F.out] at hown hmf
       have HO2:=hDD hown
       have HMF2:=hDD hmf
       clear hown hmat hmf hbel HO HMF
       go_wp2
       go_roundw
       case rel=>exact⟨k+1,f,by omega,by go_num,HO2.out,HMT.out,HMF2.out,HB4.out,hXw⟩
       case measure=>simp[intOf];omega
    ·have hkA:A=k:=by omega
     subst hkA
     have HBW:Hid (Below w.heap.size w wp):=hDD (BX.out.trans (HB3.out.mono (by have:=HSW.out;omega)))
     obtain⟨Ao,capo,rfl,_⟩:=owns_form HO.out
     go_wp2
     refine bodyPost_ret (v:= .tuple #[.slice Ao (pcs a b A B r (A*B)).2.length capo, .slice (some ⟨W0.heap.size,0,none⟩) A A]) (by simp[results,Tryz.results34]) rfl ⟨_,_,X,Q,f,rfl,?_,HMT.out.base (by have:=HSW.out;omega),HMF.out,hXw,HBW.out⟩
     refine⟨HO.out.1,?_⟩
     rcases HO.out.2 with h0 | ⟨g,cap,cur,hv,hg,rr⟩
     ·exact .inl h0
     ·exact .inr ⟨g,cap,cur,hv,by have:=HSW.out;omega,rr⟩
end Go.Proofs.YtfadnkjlilhneaaGreat
namespace Go.Proofs.YtfadnkjlilhneaaGreat
set_option maxRecDepth 20000
set_option linter.unusedVariables false
set_option linter.unusedSimpArgs false
open Go.RowKit
set_option maxHeartbeats 2000000 in
theorem implPathWord_any (v:Value) (g:GrD) (y:Nat) (w:World) (h:ArgG w v g) (hf:foldB g=true) (hy:(y:Int)∈canO g):
  Calls Tryz.prog 71 #[v, .int .i64 0, .int .i64 y] w fun e w'=> ∃r,e= .returned (.tuple #[r, .bool true])∧RdI w' r (wdO g y)∧Below w.heap.size w w':=by
 have HG:=hDD h
 have HF:=hDD hf
 have hgr:=(foldB_parts hf).1
 obtain⟨h13,h40,h120,_⟩:=grB_parts hgr
 have hyr:=(canO_ok hgr).2.1 _ hy
 have HY:=hDD hy
 obtain⟨s,rfl,hi1,hi2,hga⟩:=h
 obtain⟨A,cap,rfl⟩:=hga.form
 obtain⟨g1,N,es⟩:=g
 simp only at*
 clear hga hf hgr hy
 have qT: ∀(w:World) (a:Option Addr) (n c n' c':Nat),(binOp .eql 26 (.slice a n c) (.slice none n' c')).run Tryz.prog w= .ok (.bool a.isNone) w:=fun w a n c n' c'=>Lib.run_eql_slice_nil w _ _ a n c n' c' Tryz.underlying26
 go_enter Tryz.func71,Tryz.ntmps71
 go_wp2_with fail
 obtain⟨W,hW⟩: ∃W,W=w.alloc (Obj.cells #[.int .i64 g1, .int .i64 N, .slice A es.length cap] 31):=⟨_,rfl⟩
 rw[←hW]
 obtain⟨xG,bG,sG⟩:=CBx.new hW
 clear hW
 have XG:=hDD xG
 have BX:=hDD bG
 have hsW:w.heap.size+1≤W.heap.size:=by omega
 clear xG bG sG
 have HA:Hid (∀w',Below W.heap.size W w'→ArgG w' (.agg #[.int .i64 g1, .int .i64 N, .slice A es.length cap]) (g1,N,es)):=hDD fun w' hb=>HG.out.below (BX.out.trans (hb.mono (by omega)))
 have HIF:=hDD (implIsFolded_any _ (g1,N,es) W (HA.out W (Below.refl _ _)))
 rw[HF.out] at HIF
 refine HIF.out.mono ?_
 clear HIF
 rintro e w1 ⟨rfl,b1⟩
 have B1:=hDD b1
 have hw1:=b1.size
 clear b1
 have HE1:Hid (inB 0 0 (wrap64 (N-1))=true):=hDD (by rw[IntWalk.wrap64_in _ ⟨by omega,by omega⟩];unfold inB;simp;omega)
 have HE2:Hid (inB (y:Int) 0 (wrap64 (N-1))=true):=hDD (by rw[IntWalk.wrap64_in _ ⟨by omega,by omega⟩];unfold inB;simp;omega)
 have uXG0:=(XG.out.below B1.out).c0
 have uXG1:=(XG.out.below B1.out).c1
 have uXG2:=(XG.out.below B1.out).c2
 go_wp2_with fail
 clear uXG0 uXG1 uXG2
 refine(grHas_any g1 N A es.length cap 0 w1).mono ?_
 rintro e w2 ⟨rfl,b2⟩
 rw[HE1.out]
 have B2:=hDD (B1.out.trans (b2.mono hw1))
 have hw2:=b2.size
 clear b2
 have uXG0:=(XG.out.below B2.out).c0
 have uXG1:=(XG.out.below B2.out).c1
 have uXG2:=(XG.out.below B2.out).c2
 go_wp2_with fail
 clear uXG0 uXG1 uXG2
 refine(grHas_any g1 N A es.length cap y w2).mono ?_
 rintro e w3 ⟨rfl,b3⟩
 rw[HE2.out]
 have B3:=hDD (B2.out.trans (b3.mono (by omega)))
 have hw3:=b3.size
 clear b3
 have uXG0:=(XG.out.below B3.out).c0
 have uXG1:=(XG.out.below B3.out).c1
 have uXG2:=(XG.out.below B3.out).c2
 go_wp2_with fail
 clear uXG0 uXG1 uXG2
 refine(treeX_any _ (g1,N,es) w3 (HA.out w3 B3.out) HF.out).mono ?_
 rintro e w4 ⟨r,P,rfl,hP,ht,_,b4⟩
 have B4:=hDD (B3.out.trans (b4.mono (by omega)))
 obtain⟨b,cb,hc,hlo,hrd,hb,_⟩:=ht.at_old (y:=y) (show y<N.toNat by omega) HY.out
 have HRD:=hDD hrd
 obtain⟨M,rfl⟩: ∃M:Nat,N=(M:Int):=⟨N.toNat,by omega⟩
 simp only[Int.toNat_natCast] at hc⊢
 have hyM:(y:Int)<(M:Int):=by omega
 obtain⟨ws,hws⟩: ∃ws,ws=wdO (g1,(M:Int),es) y:=⟨_,rfl⟩
 rw[←hws] at HRD hc
 have HWS:=hDD hws
 clear b4 ht hrd hws
 go_wp2
 exact bodyPost_ret (v:= .tuple #[.slice (some ⟨b,0,none⟩) ws.length cb, .bool true]) (by simp[results,Tryz.results71]) rfl ⟨_,rfl,by rw[←HWS.out];exact HRD.out,BX.out.trans (B4.out.mono (by omega))⟩
set_option maxHeartbeats 2000000 in
theorem implTreeWord_any (v:Value) (g:GrD) (y:Nat) (w:World) (h:ArgG w v g) (hf:foldB g=true) (hy:(y:Int)∈canO g):
  Calls Tryz.prog 36 #[v, .int .i64 y] w fun e w'=> ∃r,e= .returned r∧RdI w' r (wdO g y)∧Below w.heap.size w w':=by
 have HG:=hDD h
 obtain⟨s,rfl,hi1,hi2,hga⟩:=h
 obtain⟨A,cap,rfl⟩:=hga.form
 obtain⟨g1,N,es⟩:=g
 simp only at*
 clear hga
 go_enter Tryz.func36,Tryz.ntmps36
 go_wp2_with fail
 obtain⟨W,hW⟩: ∃W,W=w.alloc (Obj.cells #[.int .i64 g1, .int .i64 N, .slice A es.length cap] 31):=⟨_,rfl⟩
 rw[←hW]
 obtain⟨xG,bG,sG⟩:=CBx.new hW
 clear hW
 have BX:=hDD bG
 have hsW:w.heap.size+1≤W.heap.size:=by omega
 clear xG bG sG
 refine(implPathWord_any _ (g1,N,es) y W (HG.out.below BX.out) hf hy).mono ?_
 rintro e w1 ⟨r,rfl,hrd,b1⟩
 have B1:=hDD b1
 have HRD:=hDD hrd
 obtain⟨A1,c1,rfl,_⟩:=hrd.arg
 clear b1 hrd
 obtain⟨ws,hws⟩: ∃ws,ws=wdO (g1,N,es) y:=⟨_,rfl⟩
 rw[←hws] at HRD⊢
 have HWS:=hDD hws
 clear hws
 go_wp2
 go_ret
 exact⟨_,rfl,by rw[←HWS.out];exact HRD.out,BX.out.trans (B1.out.mono (by omega))⟩
set_option maxHeartbeats 2000000 in
theorem implLoopOf_any (v:Value) (g:GrD) (d:EdD) (w:World) (h:ArgG w v g) (hf:foldB g=true) (he:d∈g.2.2) (h1:d.1∈canO g) (h3:d.2.2∈canO g):
  Calls Tryz.prog 39 #[v,edV d] w fun x w'=> ∃r,x= .returned r∧OwI w' w.heap.size r (redLL [wdO g d.1,[d.2.1],invL (wdO g d.2.2)])∧Below w.heap.size w w':=by
 have HG:=hDD h
 have HF:=hDD hf
 have hgr:=(foldB_parts hf).1
 obtain⟨h13,h40,h120,_⟩:=grB_parts hgr
 have hr1:=(canO_ok hgr).2.1 _ h1
 have hr3:=(canO_ok hgr).2.1 _ h3
 have hl1:=wd_len hgr h1
 have hl3:=wd_len hgr h3
 have her:=edge_of_gr hgr he
 have H1:=hDD h1
 have H3:=hDD h3
 have HE:Hid (decide (d∈g.2.2)=true):=hDD (by simpa using he)
 obtain⟨s,rfl,hi1,hi2,hga⟩:=h
 obtain⟨A,cap,rfl⟩:=hga.form
 have HGA:=hDD hga
 obtain⟨e1,x,e3⟩:=d
 obtain⟨g1,N,es⟩:=g
 simp only at*
 obtain⟨p1,rfl⟩: ∃p:Nat,e1=(p:Int):=⟨e1.toNat,by omega⟩
 obtain⟨p3,rfl⟩: ∃p:Nat,e3=(p:Int):=⟨e3.toNat,by omega⟩
 clear hga hf hgr h1 h3 he
 unfold edV
 go_enter Tryz.func39,Tryz.ntmps39
 go_wp2_with fail
 obtain⟨W1,hW1⟩: ∃W,W=w.alloc (Obj.cells #[.int .i64 g1, .int .i64 N, .slice A es.length cap] 31):=⟨_,rfl⟩
 rw[←hW1]
 obtain⟨xG,bG,sG⟩:=CBx.new hW1
 clear hW1
 obtain⟨W,hW⟩: ∃W,W=W1.alloc (Obj.cells #[.int .i64 (p1:Int), .int .i64 x, .int .i64 (p3:Int)] 54):=⟨_,rfl⟩
 rw[←hW]
 obtain⟨xE,bE,sE⟩:=CBx.new hW
 clear hW
 have XG:=hDD (xG.below bE)
 have XE:=hDD xE
 rw[sG] at XE
 have BX:Hid (Below w.heap.size w W):=hDD (bG.trans (bE.mono (by omega)))
 have hsW:w.heap.size+2≤W.heap.size:=by omega
 clear xG bG sG xE bE sE
 have HA:Hid (∀w',Below W.heap.size W w'→ArgG w' (.agg #[.int .i64 g1, .int .i64 N, .slice A es.length cap]) (g1,N,es)):=hDD fun w' hb=>HG.out.below (BX.out.trans (hb.mono (by omega)))
 have HIF:=hDD (implIsFolded_any _ (g1,N,es) W (HA.out W (Below.refl _ _)))
 rw[HF.out] at HIF
 refine HIF.out.mono ?_
 clear HIF
 rintro e w1 ⟨rfl,b1⟩
 have B1:=hDD b1
 have hw1:=b1.size
 clear b1
 have uXG0:=(XG.out.below B1.out).c0
 have uXG1:=(XG.out.below B1.out).c1
 have uXG2:=(XG.out.below B1.out).c2
 have uXE0:=(XE.out.below B1.out).c0
 have uXE1:=(XE.out.below B1.out).c1
 have uXE2:=(XE.out.below B1.out).c2
 go_wp2_with fail
 clear uXG0 uXG1 uXG2 uXE0 uXE1 uXE2
 refine(containsE_any _ es ((p1:Int),x,(p3:Int)) w1 (HGA.out.below (BX.out.trans (B1.out.mono (by omega)))) (by omega)).mono ?_
 rintro e w2 ⟨rfl,b2⟩
 rw[HE.out]
 have B2:=hDD (B1.out.trans (b2.mono hw1))
 have hw2:=b2.size
 clear b2 HE
 go_wp2_with fail
 have HCG:Hid (∀W',Below w2.heap.size w2 W'→CBx W' w.heap.size (.int .i64 g1) (.int .i64 N) (.slice A es.length cap)∧CBx W' (w.heap.size+1) (.int .i64 (p1:Int)) (.int .i64 x) (.int .i64 (p3:Int))):=hDD fun W' hb=>⟨XG.out.below (B2.out.trans (hb.mono (by omega))),XE.out.below (B2.out.trans (hb.mono (by omega)))⟩
 have HA2:=hDD (fun W' (hb:Below w2.heap.size w2 W')=>HA.out W' (B2.out.trans (hb.mono (by omega))))
 have HX:Hid (I64 x):=hDD ⟨by omega,by omega⟩
 refine wp_region_fresh [.val (.agg #[.int .i64 g1, .int .i64 N, .slice A es.length cap]), .val (.pointer (some ⟨w.heap.size+1,0,none⟩)), .val (.int .i64 (p1:Int)), .own (fun W v=>RdI W v (wdO (g1,N,es) p1)) (fun _ _ _ h b=>h.below b), .val (.pointer (some ⟨w.heap.size+1,1,none⟩)), .val (.int .i64 x), .own (fun W v=>RdI W v [x]) (fun _ _ _ h b=>h.below b), .val (.agg #[.int .i64 g1, .int .i64 N, .slice A es.length cap]), .val (.pointer (some ⟨w.heap.size+1,2,none⟩)), .val (.int .i64 (p3:Int)), .own (fun W v=>RdI W v (wdO (g1,N,es) p3)) (fun _ _ _ h b=>h.below b), .own (fun W v=>RdI W v (invL (wdO (g1,N,es) p3))) (fun _ _ _ h b=>h.below b), .own (fun W v=>RdII W v [wdO (g1,N,es) p1,[x],invL (wdO (g1,N,es) p3)]) (fun _ _ _ h b=>h.below b), .own (fun W v=>OwI W w.heap.size v (redLL [wdO (g1,N,es) p1,[x],invL (wdO (g1,N,es) p3)])) (fun _ _ _ h b=>h.below b), .own (fun W v=>OwI W w.heap.size v (redLL [wdO (g1,N,es) p1,[x],invL (wdO (g1,N,es) p3)])) (fun _ _ _ h b=>h.below b)] (by kernel_rfl) (by kernel_rfl) (by rfl) (by rfl) (fun vs=> ?_)
 refine⟨fun W' K' Q0 hB hD hK=> ?_,?_⟩
 ·obtain⟨⟨q0,q1,q2,_,_⟩,_⟩:=HCG.out W' hB.out
  go_simp
  exact hK.out _ _ (Below.refl _ _) rfl
 simp only[Act.put,List.setIfInBounds_toArray,List.set_cons_zero,List.set_cons_succ,Sp.pick,Nat.reduceAdd]
 refine⟨fun W' K' Q0 hB hD hK=> ?_,?_⟩
 ·skip
  go_simp
  exact hK.out _ _ (Below.refl _ _) rfl
 simp only[Act.put,List.setIfInBounds_toArray,List.set_cons_zero,List.set_cons_succ,Sp.pick,Nat.reduceAdd]
 refine⟨fun W' K' Q0 hB hD hK=> ?_,?_⟩
 ·obtain⟨_,⟨q0,q1,q2,_,_⟩⟩:=HCG.out W' hB.out
  go_simp
  exact hK.out _ _ (Below.refl _ _) rfl
 simp only[Act.put,List.setIfInBounds_toArray,List.set_cons_zero,List.set_cons_succ,Sp.pick,Nat.reduceAdd]
 refine⟨fun W' K' Q0 hB hD hK=> ?_,?_⟩
 ·go_simp
  (refine(implTreeWord_any _ (g1,N,es) p1 W' (HA2.out W' hB.out) HF.out H1.out).mono ?_;rintro e w' ⟨r,rfl,o,b⟩;exact hK.out _ _ b o)
 simp only[Act.put,List.setIfInBounds_toArray,List.set_cons_zero,List.set_cons_succ,Sp.pick,Nat.reduceAdd]
 refine⟨fun W' K' Q0 hB hD hK=> ?_,?_⟩
 ·skip
  go_simp
  exact hK.out _ _ (Below.refl _ _) rfl
 simp only[Act.put,List.setIfInBounds_toArray,List.set_cons_zero,List.set_cons_succ,Sp.pick,Nat.reduceAdd]
 refine⟨fun W' K' Q0 hB hD hK=> ?_,?_⟩
 ·obtain⟨_,⟨q0,q1,q2,_,_⟩⟩:=HCG.out W' hB.out
  go_simp
  exact hK.out _ _ (Below.refl _ _) rfl
 simp only[Act.put,List.setIfInBounds_toArray,List.set_cons_zero,List.set_cons_succ,Sp.pick,Nat.reduceAdd]
 refine⟨fun W' K' Q0 hB hD hK=> ?_,?_⟩
 ·go_simp
  exact hK.out _ _ ((Below.refl _ _).alloc (Nat.le_refl _) _) (RdI_new1 _ _ HX.out)
 simp only[Act.put,List.setIfInBounds_toArray,List.set_cons_zero,List.set_cons_succ,Sp.pick,Nat.reduceAdd]
 refine⟨fun W' K' Q0 hB hD hK=> ?_,?_⟩
 ·obtain⟨⟨q0,q1,q2,_,_⟩,_⟩:=HCG.out W' hB.out
  go_simp
  exact hK.out _ _ (Below.refl _ _) rfl
 simp only[Act.put,List.setIfInBounds_toArray,List.set_cons_zero,List.set_cons_succ,Sp.pick,Nat.reduceAdd]
 refine⟨fun W' K' Q0 hB hD hK=> ?_,?_⟩
 ·skip
  go_simp
  exact hK.out _ _ (Below.refl _ _) rfl
 simp only[Act.put,List.setIfInBounds_toArray,List.set_cons_zero,List.set_cons_succ,Sp.pick,Nat.reduceAdd]
 refine⟨fun W' K' Q0 hB hD hK=> ?_,?_⟩
 ·obtain⟨_,⟨q0,q1,q2,_,_⟩⟩:=HCG.out W' hB.out
  go_simp
  exact hK.out _ _ (Below.refl _ _) rfl
 simp only[Act.put,List.setIfInBounds_toArray,List.set_cons_zero,List.set_cons_succ,Sp.pick,Nat.reduceAdd]
 refine⟨fun W' K' Q0 hB hD hK=> ?_,?_⟩
 ·go_simp
  (refine(implTreeWord_any _ (g1,N,es) p3 W' (HA2.out W' hB.out) HF.out H3.out).mono ?_;rintro e w' ⟨r,rfl,o,b⟩;exact hK.out _ _ b o)
 simp only[Act.put,List.setIfInBounds_toArray,List.set_cons_zero,List.set_cons_succ,Sp.pick,Nat.reduceAdd]
 refine⟨fun W' K' Q0 hB hD hK=> ?_,?_⟩
 ·go_simp
  (refine(implInvertWord_any _ _ _ (show RdI W' (vs 10) _ from hD.out 10 (by kernel_rfl)) (by omega)).mono ?_;rintro e w' ⟨r,rfl,o,b⟩;exact hK.out _ _ b o.rd)
 simp only[Act.put,List.setIfInBounds_toArray,List.set_cons_zero,List.set_cons_succ,Sp.pick,Nat.reduceAdd]
 refine⟨fun W' K' Q0 hB hD hK=> ?_,?_⟩
 ·obtain⟨A3,c3,e3,_⟩:=(show RdI W' (vs 3) _ from hD.out 3 (by kernel_rfl)).arg
  obtain⟨A6,c6,e6,_⟩:=(show RdI W' (vs 6) _ from hD.out 6 (by kernel_rfl)).arg
  obtain⟨A11,c11,e11,_⟩:=(show RdI W' (vs 11) _ from hD.out 11 (by kernel_rfl)).arg
  rw[e3,e6,e11] at hK
  go_simp
  exact hK.out _ _ ((Below.refl _ _).alloc (Nat.le_refl _) _) (three_rd (e3▸hD.out 3 (by kernel_rfl)) (e6▸hD.out 6 (by kernel_rfl)) (e11▸hD.out 11 (by kernel_rfl)))
 simp only[Act.put,List.setIfInBounds_toArray,List.set_cons_zero,List.set_cons_succ,Sp.pick,Nat.reduceAdd]
 refine⟨fun W' K' Q0 hB hD hK=> ?_,?_⟩
 ·go_simp
  (refine(product_any _ _ _ (show RdII W' (vs 12) _ from hD.out 12 (by kernel_rfl)) (by simp[lenLL,invL_length];omega) (by simp)).mono ?_;rintro e w' ⟨r,rfl,o,b⟩;exact hK.out _ _ b (o.mono (by have:=hB.out.size;omega)))
 simp only[Act.put,List.setIfInBounds_toArray,List.set_cons_zero,List.set_cons_succ,Sp.pick,Nat.reduceAdd]
 refine⟨fun W' K' Q0 hB hD hK=> ?_,?_⟩
 ·go_simp
  exact hK.out _ _ (Below.refl _ _) (hD.out 13 (by kernel_rfl))
 simp only[Act.put,List.setIfInBounds_toArray,List.set_cons_zero,List.set_cons_succ,Sp.pick,Nat.reduceAdd]
 intro W9 hB hD _
 have O9:Hid (OwI W9 w.heap.size (vs 14) _):=hDD (hD.out 14 (by decide))
 have B9:=hDD (B2.out.trans (hB.out.mono (by omega)))
 clear hB hD
 generalize vs 14=r9 at*
 go_wp2
 go_ret
 exact⟨_,rfl,O9.out,BX.out.trans (B9.out.mono (by omega))⟩
end Go.Proofs.YtfadnkjlilhneaaGreat
namespace Go.Proofs.YtfadnkjlilhneaaGreat
set_option maxRecDepth 20000
set_option linter.unusedVariables false
set_option linter.unusedSimpArgs false
open Go.RowKit
theorem OwPc.cellAt {w:World} {base gp cp:Nat} {L:List PcD} (h:OwPc w base (.slice (some ⟨gp,0,none⟩) L.length cp) L) {c:Nat} (hc:c<L.length) {j:Nat} (hj:j<5):w.cell? ⟨gp,c*5+j,none⟩=(pcC L[c])[j]? :=by
 rw[World.ownsRow.cellAt h (c*5+j) (by omega),←pcCs_get L c j hc hj]
theorem lp0_prod (P:GrD) {e:EdD} {l:List EdD} (h:extL P=e::l):redLL [wdO P e.1,[e.2.1],invL (wdO P e.2.2)]=lp0 P:=by
 unfold lp0
 rw[h]
 simp[redLL]
theorem two_rdM {w:World} {u v:Value} {xs ys:List Int} (h:RdI w u xs) (h':RdI w v ys):RdII (w.alloc (.cells #[u,v] 26)) (.slice (some ⟨w.heap.size,0,none⟩) 2 2) [xs,ys]:=by
 have hr:=World.ownsRow_lit (e:=26) (size:=1) (base:=0) w #[u,v] 2 (Nat.zero_le _) (by unfold maxLen;omega) (by simp)
 refine⟨[u,v],rfl,RdV.of_own (by simpa using hr),fun i hi hi'=> ?_⟩
 match i,hi with
 | 0,_=>exact h.alloc _
 | 1,_=>exact h'.alloc _
theorem two_redM (xs ys:List Int):redLL [xs,ys]=redL [] (xs++ys):=by simp[redLL]
theorem three_redM (xs ys zs:List Int):redLL [xs,ys,zs]=redL [] ((xs++ys)++zs):=by simp[redLL]
def PtE (e:EdD) (W:World) (x:Value):Prop:= ∃q,x= .pointer (some ⟨q,0,none⟩)∧q<W.heap.size∧W.cell? ⟨q,0,none⟩=some (.int .i64 e.1)∧W.cell? ⟨q,1,none⟩=some (.int .i64 e.2.1)∧W.cell? ⟨q,2,none⟩=some (.int .i64 e.2.2)
theorem PtE.below {e:EdD} {W W':World} {x:Value} (h:PtE e W x) (hb:Below W.heap.size W W'):PtE e W' x:=by
 obtain⟨q,h1,h2,c0,c1,c2⟩:=h
 exact⟨q,h1,Nat.lt_of_lt_of_le h2 hb.size,(hb.cell (p:=⟨q,0,none⟩) h2).trans c0,(hb.cell (p:=⟨q,1,none⟩) h2).trans c1,(hb.cell (p:=⟨q,2,none⟩) h2).trans c2⟩
set_option maxHeartbeats 2000000 in
theorem implMalnormalWitness_any (v:Value) (g:GrD) (w:World) (h:ArgG w v g):
  Calls Tryz.prog 10 #[v] w fun e w'=> ∃r s,e= .returned (.tuple #[r,s, .bool (malF g).2.2])∧OwI w' w.heap.size r (malF g).1∧OwI w' w.heap.size s (malF g).2.1∧(∀b,r.ownBlock=some b→s.ownBlock≠some b)∧Below w.heap.size w w':=by
 have HG:=hDD h
 have HC:=hDD (malF_h g)
 have HPB:=hDD (fun p h1 h2 h3=>mal_pb (g:=g) (p:=p) h1 h2 h3)
 have HLT:=hDD (fun p h=>fstW_lt (g:=g) (p:=p) h)
 have HFI:Hid (fwI g=match fstW g with | some p=>(((p/g.2.1.toNat:Nat):Int),((p%g.2.1.toNat:Nat):Int)) | none=>(-1,-1)):=hDD rfl
 generalize malF g=RES at*
 obtain⟨s,rfl,hi1,hi2,hga⟩:=h
 obtain⟨A,cap,rfl⟩:=hga.form
 obtain⟨g1,N,es⟩:=g
 simp only at*
 clear hga
 go_enter Tryz.func10,Tryz.ntmps10
 go_wp2_with fail
 obtain⟨W,hW⟩: ∃W,W=w.alloc (Obj.cells #[.int .i64 g1, .int .i64 N, .slice A es.length cap] 31):=⟨_,rfl⟩
 rw[←hW]
 obtain⟨xG,bG,sG⟩:=CBx.new hW
 clear hW
 have XG:=hDD xG
 have BX:=hDD bG
 have hsW:w.heap.size+1≤W.heap.size:=by omega
 clear xG bG sG
 have HA:Hid (∀w',Below W.heap.size W w'→ArgG w' (.agg #[.int .i64 g1, .int .i64 N, .slice A es.length cap]) (g1,N,es)):=hDD fun w' hb=>HG.out.below (BX.out.trans (hb.mono (by omega)))
 have ZERO:Hid (∀w':World,w.heap.size≤w'.heap.size→OwI ((w'.alloc (Obj.cells #[] 3)).alloc (Obj.cells #[] 3)) w.heap.size (.slice (some ⟨w'.heap.size,0,none⟩) 0 0) []∧OwI ((w'.alloc (Obj.cells #[] 3)).alloc (Obj.cells #[] 3)) w.heap.size (.slice (some ⟨w'.heap.size+1,0,none⟩) 0 0) []):=hDD fun w' hw=>⟨(OwI_lit w' [] I64s_nil (by simp) hw).alloc _,OwI_litN (w'.alloc (Obj.cells #[] 3)) [] _ (by simp) I64s_nil (by simp) (by omega)⟩
 refine(implIsCore_any _ (g1,N,es) W (HA.out W (Below.refl _ _))).mono ?_
 rintro e w1 ⟨rfl,b1⟩
 have B1:=hDD b1
 have hw1:=b1.size
 clear b1
 rcases e1:coreB (g1,N,es) with _ | _
 ·have F:=hDD (HC.out.c0 e1)
  clear e1
  go_wp2
  obtain⟨z1,z2⟩:=ZERO.out w1 (by omega)
  exact bodyPost_ret (v:= .tuple #[.slice (some ⟨w1.heap.size,0,none⟩) 0 0, .slice (some ⟨w1.heap.size+1,0,none⟩) 0 0, .bool false]) (by simp[results,Tryz.results10,go_sem]) rfl ⟨_,_,by rw[F.out],by rw[F.out];exact z1,by rw[F.out];exact z2,by simp[Value.ownBlock],((BX.out.trans (B1.out.mono (by omega))).alloc (by omega) _).alloc (by simp;omega) _⟩
 have hf:=core_fold e1
 have HF:=hDD hf
 obtain⟨h13,h40,h120,_⟩:=grB_parts (foldB_parts hf).1
 simp only at h13 h40 h120
 have HCO:=hDD e1
 clear e1 hf
 have H2:=hDD (two_fold HF.out HF.out)
 have HS:=hDD (fun p h1 h2 h3=>fstW_some (g:=(g1,N,es)) (p:=p) h1 h2 h3)
 have HN:=hDD (fun h=>fstW_none (g:=(g1,N,es)) h)
 obtain⟨n,rfl⟩: ∃n:Nat,N=(n:Int):=⟨N.toNat,by omega⟩
 obtain⟨rr,rfl⟩: ∃r:Nat,g1=(r:Int):=⟨g1.toNat,by omega⟩
 simp only[Int.toNat_natCast] at H2 HS HN
 have uXG0:=(XG.out.below B1.out).c0
 have uXG1:=(XG.out.below B1.out).c1
 have uXG2:=(XG.out.below B1.out).c2
 go_wp2_with fail
 clear uXG0 uXG1 uXG2
 refine(piecesM_any _ _ ((rr:Int),(n:Int),es) ((rr:Int),(n:Int),es) n n rr w1 (HA.out w1 B1.out) (HA.out w1 B1.out) H2.out rfl rfl).mono ?_
 rintro e w2 ⟨sp,P,X,Q,f,rfl,op,hmi,hmf,hX,b2⟩
 have B2:=hDD (B1.out.trans (b2.mono hw1))
 have hw2:=b2.size
 have HIX:=hDD (fun p hp=>ixP_piece (A:=n) (B:=n) H2.out (r:=rr) (by omega) (p:=p) hp)
 have HDN:=hDD (fun q hq=>pcs_done H2.out rr (n*n) q hq)
 have HMI:Hid (∀W',Below w2.heap.size w2 W'→MatI X w1.heap.size P n n W' Q f):=hDD fun W' hb=>hmi.keep fun b hb2=>hb.block b (by omega)
 have HMF:=hDD hmf
 have hPX:=hmi.ltP
 have hQX:=hDD hmi.ltQ
 clear b2 hmi hmf
 have hLn:=pcs_len ((rr:Int),(n:Int),es) ((rr:Int),(n:Int),es) n n rr (n*n)
 have hn16:n*n≤40*40:=Nat.mul_le_mul (by omega) (by omega)
 generalize pcs ((rr:Int),(n:Int),es) ((rr:Int),(n:Int),es) n n rr (n*n)=ST at*
 obtain⟨MM,L⟩:=ST
 simp only at op HIX HDN HMF hLn
 obtain⟨Ap,cp,rfl,hcp,hmp,_,hfp⟩:=owns_form op
 have HOP:Hid (∀W',Below w2.heap.size w2 W'→OwPc W' w1.heap.size (.slice Ap L.length cp) L):=hDD fun W' hb=>ownsRow_below op hb
 have HFP:=hDD hfp
 unfold maxLen at hmp
 clear op hfp
 go_wp2
 go_loopw [7] (fun i wr=> ∃k:Nat,k≤n∧i= .int .i64 k∧Hid (∀q,q<k*n→okW ((rr:Int),(n:Int),es) n rr q=false)∧Below w2.heap.size w2 wr) (fun i _=>n-(intOf i).toNat)
 case atStart=>exact⟨0,Nat.zero_le _,rfl,hDD fun q hq=>by omega,Below.refl _ _⟩
 case round=>
  obtain⟨k,hk,rfl,hno,hb⟩:=hrel
  obtain⟨wk,rfl⟩: ∃wk:World,wk=wr:=⟨_,rfl⟩
  have BK:=hDD hb
  have hsk:=hb.size
  clear hb
  have uXG0:=(XG.out.below (B2.out.trans (BK.out.mono (by omega)))).c0
  have uXG1:=(XG.out.below (B2.out.trans (BK.out.mono (by omega)))).c1
  have uXG2:=(XG.out.below (B2.out.trans (BK.out.mono (by omega)))).c2
  rcases Nat.lt_or_ge k n with hlt | hge
  ·have hkI:(k:Int)<(n:Int):=by omega
   go_wp2
   go_loopw [8] (fun j wr=> ∃m:Nat,m≤n∧j= .int .i64 m∧Hid (∀q,q<k*n+m→okW ((rr:Int),(n:Int),es) n rr q=false)∧Below w2.heap.size w2 wr) (fun j _=>n-(intOf j).toNat)
   case atStart=>exact⟨0,Nat.zero_le _,rfl,hno,BK.out⟩
   case round=>
    clear uXG0 uXG1 uXG2
    clear BK hsk hno
    obtain⟨m,hm,rfl,hno,hb⟩:=hrel
    obtain⟨wm,rfl⟩: ∃wk:World,wk=wr:=⟨_,rfl⟩
    have BK:=hDD hb
    have hsk:=hb.size
    clear hb
    have uXG0:=(XG.out.below (B2.out.trans (BK.out.mono (by omega)))).c0
    have uXG1:=(XG.out.below (B2.out.trans (BK.out.mono (by omega)))).c1
    have uXG2:=(XG.out.below (B2.out.trans (BK.out.mono (by omega)))).c2
    rcases Nat.lt_or_ge m n with hlt2 | hge2
    ·have hmI:(m:Int)<(n:Int):=by omega
     have hp:k*n+m<n*n:=pair_lt hlt hlt2
     have HP:=hDD hp
     have HNE:Hid ((k*n+m)/n=k∧(k*n+m)%n=m):=hDD ⟨by rw[Nat.mul_comm,Nat.mul_add_div (by omega),Nat.div_eq_of_lt hlt2,Nat.add_zero],by rw[Nat.mul_comm,Nat.mul_add_mod,Nat.mod_eq_of_lt hlt2]⟩
     obtain⟨c,_,d,hix,hld,hd1,hd2,_⟩:=HIX.out _ hp
     have hfm:f k m=(c:Int):=((HMF.out k m hlt hlt2).2 (HDN.out _ hp)).trans hix
     obtain⟨hcl,hdl⟩:=List.getElem?_eq_some_iff.1 hld
     have HOK:Hid (okW ((rr:Int),(n:Int),es) n rr (k*n+m)=(decide (k≠m)&&decide (d.2.2.1≤d.2.2.2.1))):=hDD (by
      unfold okW
      rw[HNE.out.1,HNE.out.2,hd1,hd2]
      congr 1
      rw[Bool.eq_iff_iff]
      simp)
     have hmi:=HMI.out wm BK.out
     have cO:=hmi.cellO hlt
     have cI:=hmi.cellI hlt hlt2
     rw[hfm] at cI
     obtain⟨gp,rfl,hgp1,hgp2⟩:=HFP.out (by omega)
     have hop:=HOP.out wm BK.out
     have l0:=OwPc.cellAt hop hcl (j:=0) (by omega)
     have l1:=OwPc.cellAt hop hcl (j:=1) (by omega)
     have l2:=OwPc.cellAt hop hcl (j:=2) (by omega)
     have l3:=OwPc.cellAt hop hcl (j:=3) (by omega)
     have l4:=OwPc.cellAt hop hcl (j:=4) (by omega)
     rw[hdl] at l0 l1 l2 l3 l4
     rw[Nat.add_zero] at l0
     obtain⟨d0,d1,d2,d3,d4⟩:=d
     simp only[pcC,List.getElem?_cons_zero,List.getElem?_cons_succ] at l0 l1 l2 l3 l4 HOK
     have hcI:(c:Int)<(L.length:Int):=by omega
     have hc0:(0:Int)≤(c:Int):=by omega
     clear hp hix hld hd1 hd2 hfm hdl hmi hop
     have hstep: ∀(hf:okW ((rr:Int),(n:Int),es) n rr (k*n+m)=false),∀q,q<k*n+(m+1)→okW ((rr:Int),(n:Int),es) n rr q=false:=fun hf q hq=>by
      rcases Nat.lt_or_ge q (k*n+m) with h1 | h1
      ·exact hno.out q h1
      ·rwa [show q=k*n+m by omega]
     have HST:=hDD hstep
     clear hstep
     have bA:Below w2.heap.size w2 (wm.alloc (Obj.cells #[Value.int IntKind.i64 d0,Value.int IntKind.i64 d1,Value.int IntKind.i64 d2,Value.int IntKind.i64 d3,Value.bool d4] 61)):=BK.out.alloc (by omega) _
     have BA:=hDD bA
     clear bA
     rcases Nat.lt_or_ge k m with hkm | hkm
     rotate_left
     rcases Nat.lt_or_ge m k with hmk | hmk
     rotate_left
     ·have hkm2:k=m:=by omega
      have F:=hDD (HST.out (by rw[HOK.out,decide_eq_false (by omega)];rfl))
      subst hkm2
      have hbq:((k:Int)==(k:Int))=true:=by simp
      go_wp2
      go_roundw
      case rel=>exact⟨k+1,by omega,by go_num,F,BA.out⟩
      case measure=>simp[intOf];omega
     all_goals
      have hbq:((k:Int)==(m:Int))=false:=by simp;omega
      have hkme:decide (k≠m)=true:=decide_eq_true (by omega)
      rw[hkme,Bool.true_and] at HOK
      clear hkme
      rcases Int.lt_or_le d3 d2 with hdd | hdd
      ·have F:=hDD (HST.out (by rw[HOK.out,decide_eq_false (by omega)]))
       go_wp2
       go_roundw
       case rel=>exact⟨m+1,by omega,by go_num,F,BA.out⟩
       case measure=>simp[intOf];omega
      ·have FW:=HS.out _ HP.out (by rw[HOK.out,decide_eq_true hdd]) hno.out
       have hnd: ¬d3<d2:=by omega
       have hpq:((k*n+m)/n=k):=HNE.out.1
       have hpq2:((k*n+m)%n=m):=HNE.out.2
       have HQ2:=HC.out.c2 _ FW
       have HQ3:=HC.out.c3 HCO.out _ FW
       have HPB:=HPB.out _ HCO.out FW
       simp only[Int.toNat_natCast,hpq,hpq2] at HQ2 HQ3 HPB
       replace HQ2:=hDD HQ2
       replace HQ3:=hDD HQ3
       replace HPB:=hDD HPB
       clear FW hpq hpq2
       have hcu:(k:Int)∈canO ((rr:Int),(n:Int),es):=core_all HCO.out ⟨by omega,by show(k:Int)<(n:Int);omega⟩
       have hcv:(m:Int)∈canO ((rr:Int),(n:Int),es):=core_all HCO.out ⟨by omega,by show(m:Int)<(n:Int);omega⟩
       have HCU:=hDD hcu
       have HCV:=hDD hcv
       have hlu:=wd_len (foldB_parts HF.out).1 hcu
       have hlv:=wd_len (foldB_parts HF.out).1 hcv
       clear hcu hcv
       have HLO:=hDD (fun W' h=>implTreeWord_any (.agg #[.int .i64 (rr:Int), .int .i64 (n:Int), .slice A es.length cap]) ((rr:Int),(n:Int),es) k W' h HF.out HCU.out)
       have HLV:=hDD (fun W' h=>implTreeWord_any (.agg #[.int .i64 (rr:Int), .int .i64 (n:Int), .slice A es.length cap]) ((rr:Int),(n:Int),es) m W' h HF.out HCV.out)
       generalize wdO ((rr:Int),(n:Int),es) (k:Int)=wu at*
       generalize wdO ((rr:Int),(n:Int),es) (m:Int)=wv at*
       clear uXG0 uXG1 uXG2
       have BQ:=hDD (B2.out.trans (BA.out.mono (by omega)))
       have uXG0:=(XG.out.below BQ.out).c0
       have uXG1:=(XG.out.below BQ.out).c1
       have uXG2:=(XG.out.below BQ.out).c2
       have q0:=(XG.out.below (B2.out.trans (BK.out.mono (by omega)))).c0
       have q1:=(XG.out.below (B2.out.trans (BK.out.mono (by omega)))).c1
       have q2:=(XG.out.below (B2.out.trans (BK.out.mono (by omega)))).c2
       go_wp2_with fail
       clear uXG0 uXG1 uXG2
       clear q0 q1 q2
       generalize wm.alloc (Obj.cells #[Value.int IntKind.i64 d0,Value.int IntKind.i64 d1,Value.int IntKind.i64 d2,Value.int IntKind.i64 d3,Value.bool d4] 61)=w4 at BA BQ⊢
       have hs4:=BQ.out.size
       refine(implPullbackAt_any _ _ ((rr:Int),(n:Int),es) ((rr:Int),(n:Int),es) k m w4 (HA.out w4 BQ.out) (HA.out w4 BQ.out) HF.out HF.out (by simp only;omega) (by simp only;omega)).mono ?_
       clear cO cI l0 l1 l2 l3 l4 HOK HST
       rintro e w5 ⟨r5,rfl,o5,b5⟩
       have B5:=hDD (BQ.out.trans (b5.mono (by omega)))
       have hs5:=b5.size
       clear b5
       generalize pbRes ((rr:Int),(n:Int),es) ((rr:Int),(n:Int),es) k m=M at*
       obtain⟨⟨m1,m2,ms⟩,ok⟩:=M
       simp only at HQ2 HQ3 HPB
       obtain⟨s5,rfl,hj1,hj2,oe5⟩:=o5
       obtain⟨A5,c5,rfl,_⟩:=oe5.form
       simp only at hj1 hj2 oe5⊢
       obtain⟨W6,hW6⟩: ∃W,W=w5.alloc (Obj.cells #[Value.int IntKind.i64 m1,Value.int IntKind.i64 m2, .slice A5 ms.length c5] 31):=⟨_,rfl⟩
       have GB6:=hDD (GBx.new (m:=(m1,m2,ms)) oe5 hj1 hj2 hW6)
       obtain⟨hs6,b6,_,_⟩:=gbox hW6
       have B6:Hid (Below W.heap.size W W6):=hDD (B5.out.trans (b6.mono (by omega)))
       have hs6':w5.heap.size+1≤W6.heap.size:=by omega
       clear b6 oe5
       cases ok
       ·have F:=hDD (HQ2.out rfl)
        go_wp2
        obtain⟨z1,z2⟩:=ZERO.out W6 (by omega)
        rw[hs6] at z1 z2
        have hs6w:W6.heap.size=w5.heap.size+1:=hs6
        clear hs6 hs6'
        subst hW6
        exact bodyPost_ret (v:= .tuple #[.slice (some ⟨w5.heap.size+1,0,none⟩) 0 0, .slice (some ⟨w5.heap.size+1+1,0,none⟩) 0 0, .bool false]) (by simp[results,Tryz.results10,go_sem]) rfl ⟨_,_,by rw[F.out],by rw[F.out];exact z1,by rw[F.out];exact z2,by simp[Value.ownBlock],((BX.out.trans (B6.out.mono (by omega))).alloc (by omega) _).alloc (by simp;omega) _⟩
       clear hs6
       have F:=hDD (HQ3.out rfl)
       obtain⟨_,_,hfP,e0,le,hex,hem,he1,he3⟩:=HPB.out rfl
       have HFP2:=hDD hfP
       have HEX:=hDD hex
       have HLP:=hDD (lp0_prod (m1,m2,ms) hex)
       have HLL:=hDD (fun W' h=>implLoopOf_any (.agg #[.int .i64 m1, .int .i64 m2, .slice A5 ms.length c5]) (m1,m2,ms) e0 W' h hfP hem he1 he3)
       have hlp:(lp0 (m1,m2,ms)).length≤200:=by
        have h1:=wd_len (foldB_parts hfP).1 he1
        have h3:=wd_len (foldB_parts hfP).1 he3
        have h4:=redLL_len [wdO (m1,m2,ms) e0.1,[e0.2.1],invL (wdO (m1,m2,ms) e0.2.2)]
        rw[HLP.out] at h4
        simp[lenLL,invL_length] at h4
        omega
       rw[HLP.out] at HLL
       have HXE:=hDD (fun W' h=>extraEdges_any (.agg #[.int .i64 m1, .int .i64 m2, .slice A5 ms.length c5]) (m1,m2,ms) W' h hfP)
       rw[HEX.out] at HXE
       clear HQ2 HQ3 HPB hem he1 he3 hfP hex HLP HEX HFP2
       generalize lp0 (m1,m2,ms)=lp at*
       go_wp2_with fail
       rw[←hW6]
       clear hW6
       refine wp_region_fresh [.val (.agg #[.int .i64 (rr:Int), .int .i64 (n:Int), .slice A es.length cap]), .val (.int .i64 (k:Int)), .own (fun W x=>RdI W x wu) (fun _ _ _ h b=>h.below b), .val (.agg #[.int .i64 (rr:Int), .int .i64 (n:Int), .slice A es.length cap]), .val (.int .i64 (m:Int)), .own (fun W x=>RdI W x wv) (fun _ _ _ h b=>h.below b), .cp 2, .cp 5] (by kernel_rfl) (by kernel_rfl) (by rfl) (by rfl) (fun vs=> ?_)
       refine⟨fun W' K' Q0 hB hD hK=> ?_,?_⟩
       ·obtain⟨q0,q1,q2,_,_⟩:=XG.out.below (B6.out.trans (hB.out.mono (by omega)))
        go_simp
        exact hK.out _ _ (Below.refl _ _) rfl
       simp only[Act.put,List.setIfInBounds_toArray,List.set_cons_zero,List.set_cons_succ,Sp.pick,Nat.reduceAdd]
       refine⟨fun W' K' Q0 hB hD hK=> ?_,?_⟩
       ·skip
        go_simp
        exact hK.out _ _ (Below.refl _ _) rfl
       simp only[Act.put,List.setIfInBounds_toArray,List.set_cons_zero,List.set_cons_succ,Sp.pick,Nat.reduceAdd]
       refine⟨fun W' K' Q0 hB hD hK=> ?_,?_⟩
       ·go_simp
        (refine(HLO.out W' (HA.out W' (B6.out.trans (hB.out.mono (by omega))))).mono ?_;rintro e w' ⟨r,rfl,o,b⟩;exact hK.out _ _ b o)
       simp only[Act.put,List.setIfInBounds_toArray,List.set_cons_zero,List.set_cons_succ,Sp.pick,Nat.reduceAdd]
       refine⟨fun W' K' Q0 hB hD hK=> ?_,?_⟩
       ·obtain⟨q0,q1,q2,_,_⟩:=XG.out.below (B6.out.trans (hB.out.mono (by omega)))
        go_simp
        exact hK.out _ _ (Below.refl _ _) rfl
       simp only[Act.put,List.setIfInBounds_toArray,List.set_cons_zero,List.set_cons_succ,Sp.pick,Nat.reduceAdd]
       refine⟨fun W' K' Q0 hB hD hK=> ?_,?_⟩
       ·skip
        go_simp
        exact hK.out _ _ (Below.refl _ _) rfl
       simp only[Act.put,List.setIfInBounds_toArray,List.set_cons_zero,List.set_cons_succ,Sp.pick,Nat.reduceAdd]
       refine⟨fun W' K' Q0 hB hD hK=> ?_,?_⟩
       ·go_simp
        (refine(HLV.out W' (HA.out W' (B6.out.trans (hB.out.mono (by omega))))).mono ?_;rintro e w' ⟨r,rfl,o,b⟩;exact hK.out _ _ b o)
       simp only[Act.put,List.setIfInBounds_toArray,List.set_cons_zero,List.set_cons_succ,Sp.pick,Nat.reduceAdd]
       refine⟨fun W' K' Q0 hB hD hK=> ?_,?_⟩
       ·go_simp
        exact hK.out _ _ (Below.refl _ _) rfl
       simp only[Act.put,List.setIfInBounds_toArray,List.set_cons_zero,List.set_cons_succ,Sp.pick,Nat.reduceAdd]
       refine⟨fun W' K' Q0 hB hD hK=> ?_,?_⟩
       ·go_simp
        exact hK.out _ _ (Below.refl _ _) rfl
       simp only[Act.put,List.setIfInBounds_toArray,List.set_cons_zero,List.set_cons_succ,Sp.pick,Nat.reduceAdd]
       intro w7 hB hD _
       have RU:Hid (RdI w7 (vs 2) wu):=hDD (hD.out 2 (by decide))
       have RV:Hid (RdI w7 (vs 5) wv):=hDD (hD.out 5 (by decide))
       have e62:vs 6=vs 2:=hD.out 6 (by decide)
       have e75:vs 7=vs 5:=hD.out 7 (by decide)
       rw[e62,e75]
       have B7:=hDD (B6.out.trans (hB.out.mono (by omega)))
       have GB7:=hDD (GB6.out.below hB.out)
       have hs7:=hB.out.size
       clear hB hD e62 e75 HLO HLV
       obtain⟨Au,cu,eu,_⟩:=RU.out.arg
       obtain⟨Av,cv,ev,_⟩:=RV.out.arg
       generalize vs 2=ru at*
       generalize vs 5=rv at*
       subst eu ev
       go_wp2_with fail
       have HXP:Hid (∀W',Below w7.heap.size w7 W'→CBx W' w5.heap.size (.int .i64 m1) (.int .i64 m2) (.slice A5 ms.length c5)):=hDD fun W' hb=>GB7.out.cbx.below hb
       refine wp_region_fresh [.val (.slice Au wu.length cu), .val (.slice Av wv.length cv), .own (fun W x=>RdI W x (invL wv)) (fun _ _ _ h b=>h.below b), .own (fun W x=>RdII W x [wu,invL wv]) (fun _ _ _ h b=>h.below b), .new (fun W x=>OwI W w.heap.size x (redL [] (wu++invL wv))) (fun _ _ _ h b=>h.below b), .val (.slice Av wv.length cv), .val (.agg #[.int .i64 m1, .int .i64 m2, .slice A5 ms.length c5]), .val (.agg #[.int .i64 m1, .int .i64 m2, .slice A5 ms.length c5]), .own (fun W x=>OwE W 0 x (e0::le)) (fun _ _ _ h b=>h.below b), .own (PtE e0) (fun _ _ _ h b=>h.below b), .val (edV e0), .own (fun W x=>RdI W x lp) (fun _ _ _ h b=>h.below b), .val (.slice Av wv.length cv), .own (fun W x=>RdI W x (invL wv)) (fun _ _ _ h b=>h.below b), .own (fun W x=>RdII W x [wv,lp,invL wv]) (fun _ _ _ h b=>h.below b), .new (fun W x=>OwI W w.heap.size x (redL [] ((wv++lp)++invL wv))) (fun _ _ _ h b=>h.below b), .cp 4, .cp 15, .val (.bool true)] (by kernel_rfl) (by kernel_rfl) (by rfl) (by rfl) (fun vs=> ?_)
       refine⟨fun W' K' Q0 hB hD hK=> ?_,?_⟩
       ·skip
        go_simp
        exact hK.out _ _ (Below.refl _ _) rfl
       simp only[Act.put,List.setIfInBounds_toArray,List.set_cons_zero,List.set_cons_succ,Sp.pick,Nat.reduceAdd]
       refine⟨fun W' K' Q0 hB hD hK=> ?_,?_⟩
       ·skip
        go_simp
        exact hK.out _ _ (Below.refl _ _) rfl
       simp only[Act.put,List.setIfInBounds_toArray,List.set_cons_zero,List.set_cons_succ,Sp.pick,Nat.reduceAdd]
       refine⟨fun W' K' Q0 hB hD hK=> ?_,?_⟩
       ·go_simp
        (refine(implInvertWord_any _ _ _ (RV.out.below hB.out) (by omega)).mono ?_;rintro e w' ⟨r,rfl,o,b⟩;exact hK.out _ _ b o.rd)
       simp only[Act.put,List.setIfInBounds_toArray,List.set_cons_zero,List.set_cons_succ,Sp.pick,Nat.reduceAdd]
       refine⟨fun W' K' Q0 hB hD hK=> ?_,?_⟩
       ·obtain⟨A2,c2,e2,_⟩:=(show RdI W' (vs 2) _ from hD.out 2 (by kernel_rfl)).arg
        rw[e2] at hK
        go_simp
        exact hK.out _ _ ((Below.refl _ _).alloc (Nat.le_refl _) _) (two_rdM (RU.out.below hB.out) (e2▸hD.out 2 (by kernel_rfl)))
       simp only[Act.put,List.setIfInBounds_toArray,List.set_cons_zero,List.set_cons_succ,Sp.pick,Nat.reduceAdd]
       refine⟨fun W' K' Q0 hB hD hK=> ?_,?_⟩
       ·go_simp
        (refine(product_any _ _ _ (show RdII W' (vs 3) _ from hD.out 3 (by kernel_rfl)) (by simp[lenLL,invL_length];omega) (by simp)).mono ?_;rintro e w' ⟨r,rfl,o,b⟩;rw[two_redM] at o;exact hK.out _ _ b ⟨o.mono (by have:=hB.out.size;omega),fun b hb=>o.1.lt b hb⟩)
       simp only[Act.put,List.setIfInBounds_toArray,List.set_cons_zero,List.set_cons_succ,Sp.pick,Nat.reduceAdd]
       refine⟨fun W' K' Q0 hB hD hK=> ?_,?_⟩
       ·skip
        go_simp
        exact hK.out _ _ (Below.refl _ _) rfl
       simp only[Act.put,List.setIfInBounds_toArray,List.set_cons_zero,List.set_cons_succ,Sp.pick,Nat.reduceAdd]
       refine⟨fun W' K' Q0 hB hD hK=> ?_,?_⟩
       ·obtain⟨q0,q1,q2,_,_⟩:=HXP.out W' hB.out
        go_simp
        exact hK.out _ _ (Below.refl _ _) rfl
       simp only[Act.put,List.setIfInBounds_toArray,List.set_cons_zero,List.set_cons_succ,Sp.pick,Nat.reduceAdd]
       refine⟨fun W' K' Q0 hB hD hK=> ?_,?_⟩
       ·obtain⟨q0,q1,q2,_,_⟩:=HXP.out W' hB.out
        go_simp
        exact hK.out _ _ (Below.refl _ _) rfl
       simp only[Act.put,List.setIfInBounds_toArray,List.set_cons_zero,List.set_cons_succ,Sp.pick,Nat.reduceAdd]
       refine⟨fun W' K' Q0 hB hD hK=> ?_,?_⟩
       ·go_simp
        (refine(HXE.out W' (GB7.out.arg.below hB.out)).mono ?_;rintro e w' ⟨r,rfl,o,b⟩;exact hK.out _ _ b (o.mono (Nat.zero_le _)))
       simp only[Act.put,List.setIfInBounds_toArray,List.set_cons_zero,List.set_cons_succ,Sp.pick,Nat.reduceAdd]
       refine⟨fun W' K' Q0 hB hD hK=> ?_,?_⟩
       ·obtain⟨A8,c8,e8,_,_,_,hf8⟩:=(show OwE W' 0 (vs 8) _ from hD.out 8 (by kernel_rfl)).form
        obtain⟨q8,rfl,_,hq8⟩:=hf8 (by simp)
        have hc8:=OwE.cellAt (n:=(e0::le).length) (cap:=c8) (e8▸hD.out 8 (by kernel_rfl)) 0 (by simp)
        simp only[List.getElem_cons_zero,Nat.zero_mul,Nat.zero_add] at hc8
        have hi0:(0:Int)<((e0::le).length:Int):=by simp
        rw[e8] at hK
        go_simp
        exact hK.out _ _ (Below.refl _ _) ⟨q8,rfl,hq8,hc8.1,hc8.2.1,hc8.2.2⟩
       simp only[Act.put,List.setIfInBounds_toArray,List.set_cons_zero,List.set_cons_succ,Sp.pick,Nat.reduceAdd]
       refine⟨fun W' K' Q0 hB hD hK=> ?_,?_⟩
       ·obtain⟨q9,e9,hq9,c0,c1,c2⟩:=(show PtE e0 W' (vs 9) from hD.out 9 (by kernel_rfl))
        rw[e9] at hK
        go_simp
        exact hK.out _ _ (Below.refl _ _) rfl
       simp only[Act.put,List.setIfInBounds_toArray,List.set_cons_zero,List.set_cons_succ,Sp.pick,Nat.reduceAdd]
       refine⟨fun W' K' Q0 hB hD hK=> ?_,?_⟩
       ·go_simp
        (refine(show Calls Tryz.prog 39 #[.agg #[.int .i64 m1, .int .i64 m2, .slice A5 ms.length c5],edV e0] W' _ from ?_);refine(HLL.out W' (GB7.out.arg.below hB.out)).mono ?_;rintro e w' ⟨r,rfl,o,b⟩;exact hK.out _ _ b o.rd)
       simp only[Act.put,List.setIfInBounds_toArray,List.set_cons_zero,List.set_cons_succ,Sp.pick,Nat.reduceAdd]
       refine⟨fun W' K' Q0 hB hD hK=> ?_,?_⟩
       ·skip
        go_simp
        exact hK.out _ _ (Below.refl _ _) rfl
       simp only[Act.put,List.setIfInBounds_toArray,List.set_cons_zero,List.set_cons_succ,Sp.pick,Nat.reduceAdd]
       refine⟨fun W' K' Q0 hB hD hK=> ?_,?_⟩
       ·go_simp
        (refine(implInvertWord_any _ _ _ (RV.out.below hB.out) (by omega)).mono ?_;rintro e w' ⟨r,rfl,o,b⟩;exact hK.out _ _ b o.rd)
       simp only[Act.put,List.setIfInBounds_toArray,List.set_cons_zero,List.set_cons_succ,Sp.pick,Nat.reduceAdd]
       refine⟨fun W' K' Q0 hB hD hK=> ?_,?_⟩
       ·obtain⟨A11,c11,e11,_⟩:=(show RdI W' (vs 11) _ from hD.out 11 (by kernel_rfl)).arg
        obtain⟨A13,c13,e13,_⟩:=(show RdI W' (vs 13) _ from hD.out 13 (by kernel_rfl)).arg
        rw[e11,e13] at hK
        go_simp
        exact hK.out _ _ ((Below.refl _ _).alloc (Nat.le_refl _) _) (three_rd (RV.out.below hB.out) (e11▸hD.out 11 (by kernel_rfl)) (e13▸hD.out 13 (by kernel_rfl)))
       simp only[Act.put,List.setIfInBounds_toArray,List.set_cons_zero,List.set_cons_succ,Sp.pick,Nat.reduceAdd]
       refine⟨fun W' K' Q0 hB hD hK=> ?_,?_⟩
       ·go_simp
        (refine(product_any _ _ _ (show RdII W' (vs 14) _ from hD.out 14 (by kernel_rfl)) (by simp[lenLL,invL_length];omega) (by simp)).mono ?_;rintro e w' ⟨r,rfl,o,b⟩;rw[three_redM] at o;exact hK.out _ _ b ⟨o.mono (by have:=hB.out.size;omega),fun b hb=>o.1.lt b hb⟩)
       simp only[Act.put,List.setIfInBounds_toArray,List.set_cons_zero,List.set_cons_succ,Sp.pick,Nat.reduceAdd]
       refine⟨fun W' K' Q0 hB hD hK=> ?_,?_⟩
       ·go_simp
        exact hK.out _ _ (Below.refl _ _) rfl
       simp only[Act.put,List.setIfInBounds_toArray,List.set_cons_zero,List.set_cons_succ,Sp.pick,Nat.reduceAdd]
       refine⟨fun W' K' Q0 hB hD hK=> ?_,?_⟩
       ·go_simp
        exact hK.out _ _ (Below.refl _ _) rfl
       simp only[Act.put,List.setIfInBounds_toArray,List.set_cons_zero,List.set_cons_succ,Sp.pick,Nat.reduceAdd]
       refine⟨fun W' K' Q0 hB hD hK=> ?_,?_⟩
       ·skip
        go_simp
        exact hK.out _ _ (Below.refl _ _) rfl
       simp only[Act.put,List.setIfInBounds_toArray,List.set_cons_zero,List.set_cons_succ,Sp.pick,Nat.reduceAdd]
       intro w9 hB hD hJ
       have O1:Hid (OwI w9 w.heap.size (vs 4) (redL [] (wu++invL wv))):=hDD (hD.out 4 (by decide)).1
       have O2:Hid (OwI w9 w.heap.size (vs 15) (redL [] ((wv++lp)++invL wv))):=hDD (hD.out 15 (by decide)).1
       have HDJ:=hDD (hJ.out 4 15 (by decide) (by decide) (by decide) rfl rfl)
       have e16:vs 16=vs 4:=hD.out 16 (by decide)
       have e17:vs 17=vs 15:=hD.out 17 (by decide)
       rw[e16,e17]
       have B9:=hDD (B7.out.trans (hB.out.mono (by omega)))
       clear hB hD hJ e16 e17
       generalize vs 4=r1 at*
       generalize vs 15=r2 at*
       go_wp2
       exact bodyPost_ret (v:= .tuple #[r1,r2, .bool true]) (by simp[results,Tryz.results10,go_sem]) rfl ⟨_,_,by rw[F.out],by rw[F.out];exact O1.out,by rw[F.out];exact O2.out,HDJ.out,BX.out.trans (B9.out.mono (by omega))⟩
    ·have hme:m=n:=by omega
     subst hme
     have F:Hid (∀q,q<(k+1)*m→okW ((rr:Int),(m:Int),es) m rr q=false):=hDD fun q hq=>hno.out q (by rw[Nat.add_mul,Nat.one_mul] at hq;exact hq)
     go_wp2
     go_roundw
     case rel=>exact⟨k+1,by omega,by go_num,F,BK.out⟩
     case measure=>simp[intOf];omega
  ·have hke:k=n:=by omega
   subst hke
   have F:=hDD (HC.out.c1 (HN.out hno.out))
   go_wp2
   obtain⟨z1,z2⟩:=ZERO.out wk (by omega)
   exact bodyPost_ret (v:= .tuple #[.slice (some ⟨wk.heap.size,0,none⟩) 0 0, .slice (some ⟨wk.heap.size+1,0,none⟩) 0 0, .bool false]) (by simp[results,Tryz.results10,go_sem]) rfl ⟨_,_,by rw[F.out],by rw[F.out];exact z1,by rw[F.out];exact z2,by simp[Value.ownBlock],((BX.out.trans ((B2.out.trans (BK.out.mono (by omega))).mono (by omega))).alloc (by omega) _).alloc (by simp;omega) _⟩
end Go.Proofs.YtfadnkjlilhneaaGreat
namespace Go.Proofs.YtfadnkjlilhneaaGreat
set_option maxRecDepth 20000
set_option linter.unusedVariables false
set_option linter.unusedSimpArgs false
open Go.RowKit
def OPi (lo hi:Nat) (s t:Value) (c d:List Int) (w:World):Prop:=OI lo hi s c w∧OI lo hi t d w∧ ∀b,s.ownBlock=some b→t.ownBlock≠some b
section
variable {lo hi:Nat} {s t:Value} {c d:List Int} {w w':World}
theorem OPi.loc (hr: ∀b,s.ownBlock=some b→b<hi) (hr2: ∀b,t.ownBlock=some b→b<hi):Loc (OPi lo hi s t c d) lo hi:=fun _ _ hu hb=>
 ⟨OI.loc hr _ _ hu.1 hb,OI.loc hr2 _ _ hu.2.1 hb,hu.2.2⟩
theorem OPi.fst (h:Ob (OPi lo hi s t c d) lo hi w):Ob (OI lo hi s c) lo hi w:=⟨h.holds.1,OI.loc h.holds.1.2,h.le⟩
theorem OPi.snd (h:Ob (OPi lo hi s t c d) lo hi w):Ob (OI lo hi t d) lo hi w:=⟨h.holds.2.1,OI.loc h.holds.2.1.2,h.le⟩
theorem OPi.new (h1:OwI w lo s c) (h2:OwI w lo t d∧ ∀b,s.ownBlock=some b→t.ownBlock≠some b):Ob (OPi lo w.heap.size s t c d) lo w.heap.size w:=
 ⟨⟨h1.ob.holds,h2.1.ob.holds,h2.2⟩,OPi.loc h1.ob.holds.2 h2.1.ob.holds.2,Nat.le_refl _⟩
end
theorem own_apart {s t:Value} (h: ∀b,s.ownBlock=some b→t.ownBlock≠some b):t.ownBlock=none∨t.ownBlock≠s.ownBlock:=by
 cases e:t.ownBlock with
 | none=>exact .inl rfl
 | some b=>exact .inr fun e2=>h b e2.symm e
theorem markIntS_p1 (s t:Value) (c d:List Int) (k:Int) (lo hi:Nat) (w:World) (h:Ob (OPi lo hi s t c d) lo hi w) (hl:c.length≤1073741824) (hk0:0≤k) (hk:k≤1125890000000000):
  Calls Tryz.prog 14 #[s, .int .i64 k] w fun e w'=>e= .returned (.int .i64 (k+c.length))∧Ob (OPi lo hi s t (iota k c.length) d) lo hi w'∧Tr lo hi w w':=
 (markIntS_any s c k lo w h.holds.1.1 hl hk0 (by omega)).mono fun _ w' ⟨he,ho,hg⟩=>
  ⟨he,⟨⟨⟨ho,h.holds.1.2⟩,⟨h.holds.2.1.1.kept hg (own_apart h.holds.2.2),h.holds.2.1.2⟩,h.holds.2.2⟩,OPi.loc h.holds.1.2 h.holds.2.1.2,Nat.le_trans h.le hg.size⟩,
   Tr.grown hg fun b hb=>⟨(h.holds.1.1.1.lt b hb).1,h.holds.1.2 b hb⟩⟩
theorem markIntS_p2 (s t:Value) (c d:List Int) (k:Int) (lo hi:Nat) (w:World) (h:Ob (OPi lo hi s t c d) lo hi w) (hl:d.length≤1073741824) (hk0:0≤k) (hk:k≤1125890000000000):
  Calls Tryz.prog 14 #[t, .int .i64 k] w fun e w'=>e= .returned (.int .i64 (k+d.length))∧Ob (OPi lo hi s t c (iota k d.length)) lo hi w'∧Tr lo hi w w':=
 (markIntS_any t d k lo w h.holds.2.1.1 hl hk0 (by omega)).mono fun _ w' ⟨he,ho,hg⟩=>
  ⟨he,⟨⟨⟨h.holds.1.1.kept hg (own_apart fun b e1 e2=>h.holds.2.2 b e2 e1),h.holds.1.2⟩,⟨ho,h.holds.2.1.2⟩,h.holds.2.2⟩,OPi.loc h.holds.1.2 h.holds.2.1.2,Nat.le_trans h.le hg.size⟩,
   Tr.grown hg fun b hb=>⟨(h.holds.2.1.1.1.lt b hb).1,h.holds.2.1.2 b hb⟩⟩
theorem specMalnormalWitness_law (v:Value) (g:GrD) (w:World) (h:ArgG w v g):
  Calls Tryz.prog 8 #[v] w fun e w'=> ∃r s,e= .returned (.tuple #[r,s, .bool (malF g).2.2])∧OwI w' w.heap.size r (malF g).1∧OwI w' w.heap.size s (malF g).2.1∧Below w.heap.size w w':=
 (specMalnormalWitness_any v g w h).mono fun _ _ ⟨r,s,h1,h2,h3,_,h5⟩=>⟨r,s,h1,h2,h3,h5⟩
theorem implMalnormalWitness_law (v:Value) (g:GrD) (w:World) (h:ArgG w v g):
  Calls Tryz.prog 10 #[v] w fun e w'=> ∃r s,e= .returned (.tuple #[r,s, .bool (malF g).2.2])∧OwI w' w.heap.size r (malF g).1∧OwI w' w.heap.size s (malF g).2.1∧Below w.heap.size w w':=
 (implMalnormalWitness_any v g w h).mono fun _ _ ⟨r,s,h1,h2,h3,_,h5⟩=>⟨r,s,h1,h2,h3,h5⟩
theorem implMalnormalWitness_sep (v:Value) (g:GrD) (w:World) (h:ArgG w v g):
  Calls Tryz.prog 10 #[v] w fun e w'=> ∃r s,e= .returned (.tuple #[r,s, .bool (malF g).2.2])∧OwI w' w.heap.size r (malF g).1∧(OwI w' w.heap.size s (malF g).2.1∧ ∀b,r.ownBlock=some b→s.ownBlock≠some b)∧Below w.heap.size w w':=
 (implMalnormalWitness_any v g w h).mono fun _ _ ⟨r,s,h1,h2,h3,h4,h5⟩=>⟨r,s,h1,h2,⟨h3,h4⟩,h5⟩
theorem wd_len40 {g:GrD} (hg:grB g=true) (v:Int):(wdO g v).length≤40:=by
 by_cases h:v∈canO g
 ·have:=wd_len hg h;omega
 ·rw[wd_out h];simp
theorem lp0_len {P:GrD} (hg:grB P=true):(lp0 P).length≤200:=by
 unfold lp0
 split
 ·simp
 ·rename_i e l _
  have h1:=redL_len [] ((wdO P e.1++ [e.2.1])++invL (wdO P e.2.2))
  have h2:=wd_len40 hg e.1
  have h3:=wd_len40 hg e.2.2
  simp[invL_length] at h1⊢
  omega
theorem mal_len (g:GrD):(malF g).1.length≤1073741824∧(malF g).2.1.length≤1073741824:=by
 unfold malF
 split
 ·rename_i hc
  have hg:=(foldB_parts (core_fold hc)).1
  split
  ·simp
  ·rename_i p hp
   split
   ·rename_i hok
    have hP:=lp0_len (foldB_parts (mal_pb hc hp hok).2.2.1).1
    generalize lp0 (pbRes g g (p/g.2.1.toNat) (p%g.2.1.toNat)).1=lp at*
    have h1:=wd_len40 hg ((p/g.2.1.toNat:Nat):Int)
    have h2:=wd_len40 hg ((p%g.2.1.toNat:Nat):Int)
    generalize wdO g ((p/g.2.1.toNat:Nat):Int)=wu at*
    generalize wdO g ((p%g.2.1.toNat:Nat):Int)=wv at*
    have h3:=redL_len [] (wu++invL wv)
    have h4:=redL_len [] ((wv++lp)++invL wv)
    simp only[List.length_append,invL_length,List.length_nil] at h3 h4
    exact⟨by simp only;omega,by simp only;omega⟩
   ·simp
 ·simp
end Go.Proofs.YtfadnkjlilhneaaGreat
