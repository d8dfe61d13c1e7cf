/- Parts of the proof: Int, PcP. -/
import Derived.Test.YtfadnkjlilhneaaGreatP02
import Derived.Test.YtfadnkjlilhneaaGreatP03
import Derived.Test.YtfadnkjlilhneaaGreatP04
import Derived.Maps.OwnSet
import Derived.Maps.OwnOps
import Derived.WideKeyPair
namespace Go.Proofs.YtfadnkjlilhneaaGreat
set_option maxRecDepth 20000
set_option linter.unusedVariables false
set_option linter.unusedSimpArgs false
open Go.RowKit
def pnx (ea eb:List EdD) (B:Nat) (p:Nat) (x:Int):Option Nat:=
 if 0≤nextV ea ((p/B:Nat):Int) x∧0≤nextV eb ((p%B:Nat):Int) x then some ((nextV ea ((p/B:Nat):Int) x).toNat*B+(nextV eb ((p%B:Nat):Int) x).toNat) else none
def pst (ea eb:List EdD) (B:Nat) (p:Nat) (o:List Nat) (x:Int):List Nat:=
 match pnx ea eb B p x with
 | some q=>if q∈o then o else o++ [q]
 | none=>o
def bfsF (ea eb:List EdD) (B:Nat) (ls:List Int):Nat→Nat→List Nat→List Nat
 | 0,_,o=>o
 | f+1,i,o=>match o[i]? with
   | some p=>bfsF ea eb B ls f (i+1) (ls.foldl (pst ea eb B p) o)
   | none=>o
structure Two (a b:GrD) (A B:Nat):Prop where
 ga:grB a=true
 gb:grB b=true
 fa:Fol a.2.2
 fb:Fol b.2.2
 sa:a.2.1=(A:Int)
 sb:b.2.1=(B:Int)
section
variable {a b:GrD} {A B:Nat} {p q:Nat} {x:Int} {o:List Nat} {ls:List Int}
theorem Two.bd (h:Two a b A B):(1≤A∧A≤40)∧(1≤B∧B≤40):=by
 have h1:=(grB_parts h.ga).2.1
 have h2:=(grB_parts h.gb).2.1
 have h3:=h.sa
 have h4:=h.sb
 omega
theorem pnx_lt (h:Two a b A B) (hq:pnx a.2.2 b.2.2 B p x=some q):q<A*B:=by
 unfold pnx at hq
 split at hq
 ·rename_i hc
  injection hq with hq
  rcases nextV_range h.ga ((p/B:Nat):Int) x with h1 | h1
  ·omega
  rcases nextV_range h.gb ((p%B:Nat):Int) x with h2 | h2
  ·omega
  have h3:=h.sa
  have h4:=h.sb
  have e1:(nextV a.2.2 ((p/B:Nat):Int) x).toNat+1≤A:=by omega
  have e2:(nextV b.2.2 ((p%B:Nat):Int) x).toNat<B:=by omega
  have:=Nat.mul_le_mul_right B e1
  rw[Nat.add_mul,Nat.one_mul] at this
  omega
 ·cases hq
theorem pnx_parts (h:Two a b A B) (hq:pnx a.2.2 b.2.2 B p x=some q):((q/B:Nat):Int)=nextV a.2.2 ((p/B:Nat):Int) x∧((q%B:Nat):Int)=nextV b.2.2 ((p%B:Nat):Int) x:=by
 unfold pnx at hq
 split at hq
 ·rename_i hc
  injection hq with hq
  rcases nextV_range h.gb ((p%B:Nat):Int) x with h2 | h2
  ·omega
  have h4:=h.sb
  obtain⟨_,hB⟩:=h.bd
  have e2:(nextV b.2.2 ((p%B:Nat):Int) x).toNat<B:=by omega
  rw[←hq]
  constructor
  ·rw[Nat.mul_comm,Nat.mul_add_div (by omega),Nat.div_eq_of_lt e2]
   omega
  ·rw[Nat.mul_comm,Nat.mul_add_mod,Nat.mod_eq_of_lt e2]
   omega
 ·cases hq
theorem pnx_back (h:Two a b A B) (hx: -3≤x∧x≤3) (hq:pnx a.2.2 b.2.2 B p x=some q):pnx a.2.2 b.2.2 B q (-x)=some p:=by
 have hp:=pnx_parts h hq
 have hc:0≤nextV a.2.2 ((p/B:Nat):Int) x∧0≤nextV b.2.2 ((p%B:Nat):Int) x:=by
  unfold pnx at hq
  split at hq
  ·assumption
  ·cases hq
 unfold pnx
 rw[hp.1,hp.2,nextV_back h.ga h.fa hx hc.1,nextV_back h.gb h.fb hx hc.2,if_pos ⟨Int.natCast_nonneg _,Int.natCast_nonneg _⟩,Int.toNat_natCast,Int.toNat_natCast]
 have:=Nat.div_add_mod p B
 rw[Nat.mul_comm] at this
 rw[this]
theorem pst_sub (hy:p∈o) (q:Nat) (x:Int):p∈pst a.2.2 b.2.2 B q o x:=by
 unfold pst
 cases pnx a.2.2 b.2.2 B q x with
 | none=>exact hy
 | some z=>
   simp only
   split
   ·exact hy
   ·exact List.mem_append_left _ hy
theorem pfold_sub (ls:List Int) (q:Nat): ∀(o:List Nat),p∈o→p∈ls.foldl (pst a.2.2 b.2.2 B q) o:=by
 induction ls with
 | nil=>intro o h;exact h
 | cons x ls ih=>intro o h;exact ih _ (pst_sub h q x)
theorem pst_prefix {i y:Nat} (hi:o[i]? =some y) (q:Nat) (x:Int):(pst a.2.2 b.2.2 B q o x)[i]? =some y:=by
 unfold pst
 cases pnx a.2.2 b.2.2 B q x with
 | none=>exact hi
 | some z=>
   simp only
   split
   ·exact hi
   ·rw[List.getElem?_append_left (List.getElem?_eq_some_iff.1 hi).1];exact hi
theorem pfold_prefix {i y:Nat} (ls:List Int) (q:Nat): ∀(o:List Nat),o[i]? =some y→(ls.foldl (pst a.2.2 b.2.2 B q) o)[i]? =some y:=by
 induction ls with
 | nil=>intro o h;exact h
 | cons x ls ih=>intro o h;exact ih _ (pst_prefix h q x)
theorem pfold_has (ls:List Int) (q:Nat): ∀(o:List Nat) (x:Int) (z:Nat),x∈ls→pnx a.2.2 b.2.2 B q x=some z→z∈ls.foldl (pst a.2.2 b.2.2 B q) o:=by
 induction ls with
 | nil=>intro o x z hx;cases hx
 | cons y ls ih=>
   intro o x z hx hz
   rcases List.mem_cons.1 hx with rfl | hx
   ·refine pfold_sub ls q _ ?_
    unfold pst
    rw[hz]
    simp only
    split
    ·assumption
    ·simp
   ·exact ih _ x z hx hz
theorem pfold_all {S:Nat→Prop} (hs: ∀p x q,S p→x∈ls→pnx a.2.2 b.2.2 B p x=some q→S q) {q:Nat} (hq:S q): ∀(l2:List Int) (o:List Nat),(∀x∈l2,x∈ls)→(∀p∈o,S p)→ ∀p∈l2.foldl (pst a.2.2 b.2.2 B q) o,S p:=by
 intro l2
 induction l2 with
 | nil=>intro o _ ho;exact ho
 | cons x l2 ih=>
   intro o hl ho
   refine ih _ (fun y hy=>hl y (List.mem_cons_of_mem _ hy)) fun p hp=> ?_
   unfold pst at hp
   cases hz:pnx a.2.2 b.2.2 B q x with
   | none=>rw[hz] at hp;exact ho p hp
   | some z=>
     rw[hz] at hp
     simp only at hp
     split at hp
     ·exact ho p hp
     ·rcases List.mem_append.1 hp with hp | hp
      ·exact ho p hp
      ·rw[List.mem_singleton.1 hp]
       exact hs q x z hq (hl x (by simp)) hz
theorem bfs_all {S:Nat→Prop} (hs: ∀p x q,S p→x∈ls→pnx a.2.2 b.2.2 B p x=some q→S q): ∀(f i:Nat) (o:List Nat),(∀p∈o,S p)→ ∀p∈bfsF a.2.2 b.2.2 B ls f i o,S p:=by
 intro f
 induction f with
 | zero=>intro i o ho;exact ho
 | succ f ih=>
   intro i o ho
   unfold bfsF
   cases hi:o[i]? with
   | none=>exact ho
   | some p=>exact ih _ _ (pfold_all hs (ho p (List.mem_of_getElem? hi)) ls o (fun _ h=>h) ho)
theorem pst_nodup (h:o.Nodup) (q:Nat) (x:Int):(pst a.2.2 b.2.2 B q o x).Nodup:=by
 unfold pst
 cases pnx a.2.2 b.2.2 B q x with
 | none=>exact h
 | some z=>
   simp only
   split
   ·exact h
   ·rename_i hz
    rw[List.nodup_append]
    exact⟨h,by simp,fun y hy z' hz' e=>by rw[List.mem_singleton.1 hz'] at e;exact hz (e▸hy)⟩
theorem pfold_nodup (ls:List Int) (q:Nat): ∀(o:List Nat),o.Nodup→(ls.foldl (pst a.2.2 b.2.2 B q) o).Nodup:=by
 induction ls with
 | nil=>intro o h;exact h
 | cons x ls ih=>intro o h;exact ih _ (pst_nodup h q x)
theorem bfs_nodup (ls:List Int): ∀(f i:Nat) (o:List Nat),o.Nodup→(bfsF a.2.2 b.2.2 B ls f i o).Nodup:=by
 intro f
 induction f with
 | zero=>intro i o h;exact h
 | succ f ih=>
   intro i o h
   unfold bfsF
   cases hi:o[i]? with
   | none=>exact h
   | some p=>exact ih _ _ (pfold_nodup ls p o h)
theorem nodup_lt {n:Nat} {o:List Nat} (h:o.Nodup) (hl: ∀p∈o,p<n):o.length≤n:=by
 have h1:(o.map fun v=>((v:Nat):Int)).Nodup:=by
  unfold List.Nodup at*
  rw[List.pairwise_map]
  exact h.imp fun hab e=>hab (by omega)
 have:=nodup_len n (o.map fun v=>((v:Nat):Int)) h1 fun y hy=>by
  obtain⟨v,hv,rfl⟩:=List.mem_map.1 hy
  have:=hl v hv
  omega
 simpa using this
theorem bfs_closed (h:Two a b A B) (hx: ∀x∈ls,-3≤x∧x≤3): ∀(f i:Nat) (o:List Nat),o.Nodup→(∀p∈o,p<A*B)→i+f=A*B+1→i≤o.length→
  (∀(j:Nat) (p:Nat),j<i→o[j]? =some p→ ∀x q,x∈ls→pnx a.2.2 b.2.2 B p x=some q→q∈o)→
  ∀p∈bfsF a.2.2 b.2.2 B ls f i o,∀x q,x∈ls→pnx a.2.2 b.2.2 B p x=some q→q∈bfsF a.2.2 b.2.2 B ls f i o:=by
 intro f
 induction f with
 | zero=>
   intro i o hn hl hf hi _
   have:=nodup_lt hn hl
   omega
 | succ f ih=>
   intro i o hn hl hf hi hc
   unfold bfsF
   cases ho:o[i]? with
   | none=>
     simp only
     intro p hp x q hx hq
     obtain⟨j,hj⟩:=List.mem_iff_getElem?.1 hp
     refine hc j p ?_ hj x q hx hq
     have h1:=(List.getElem?_eq_some_iff.1 hj).1
     have h2:=List.getElem?_eq_none_iff.1 ho
     omega
   | some p=>
     simp only
     have hlen:i<o.length:=(List.getElem?_eq_some_iff.1 ho).1
     have hmono: ∀y,y∈o→y∈ls.foldl (pst a.2.2 b.2.2 B p) o:=fun y hy=>pfold_sub ls p o hy
     have hlt2:o.length≤(ls.foldl (pst a.2.2 b.2.2 B p) o).length:=by
      have hk:o[o.length-1]? =some (o[o.length-1]'(by omega)):=List.getElem?_eq_getElem (by omega)
      have:=(List.getElem?_eq_some_iff.1 (pfold_prefix (a:=a) (b:=b) (B:=B) ls p o hk)).1
      omega
     refine ih (i+1) _ (pfold_nodup ls p o hn) ?_ (by omega) (by omega) ?_
     ·exact pfold_all (S:=fun q=>q<A*B) (fun p x q _ _ hq=>pnx_lt h hq) (hl p (List.mem_of_getElem? ho)) ls o (fun _ h=>h) hl
     ·intro j p' hj hp' x q hxl hq
      rcases Nat.lt_or_ge j i with h1 | h1
      ·have h2:o[j]? =some (o[j]'(by omega)):=List.getElem?_eq_getElem (by omega)
       have h3:=pfold_prefix (a:=a) (b:=b) (B:=B) ls p o h2
       rw[hp'] at h3
       injection h3 with h3
       exact hmono q (hc j p' h1 (by rw[h2,←h3]) x q hxl hq)
      ·obtain rfl:j=i:=by omega
       have h3:=pfold_prefix (a:=a) (b:=b) (B:=B) ls p o ho
       rw[hp'] at h3
       injection h3 with h3
       subst h3
       exact pfold_has ls p' o x q hxl hq
def prsL (a b:GrD) (A B:Nat) (ls:List Int) (p:Nat):List Nat:=bfsF a.2.2 b.2.2 B ls (A*B+1) 0 [p]
theorem prs_closed (h:Two a b A B) (hx: ∀x∈ls,-3≤x∧x≤3) (hp:p<A*B): ∀q∈prsL a b A B ls p,∀x z,x∈ls→pnx a.2.2 b.2.2 B q x=some z→z∈prsL a b A B ls p:=
 bfs_closed h hx (A*B+1) 0 [p] (by simp) (fun q hq=>by rw[List.mem_singleton.1 hq];exact hp) (by omega) (by omega) (fun j _ hj=>by omega)
theorem prs_lt (h:Two a b A B) (hp:p<A*B): ∀q∈prsL a b A B ls p,q<A*B:=
 bfs_all (S:=fun q=>q<A*B) (fun _ _ _ _ _ hq=>pnx_lt h hq) _ _ _ fun q hq=>by rw[List.mem_singleton.1 hq];exact hp
theorem prs_nodup (ls:List Int):(prsL a b A B ls p).Nodup:=bfs_nodup ls _ _ _ (by simp)
theorem prs_self (h:Two a b A B):p∈prsL a b A B ls p:=by
 have: ∀(f i:Nat) (o:List Nat),p∈o→p∈bfsF a.2.2 b.2.2 B ls f i o:=by
  intro f
  induction f with
  | zero=>intro i o ho;exact ho
  | succ f ih=>
    intro i o ho
    unfold bfsF
    cases o[i]? with
    | none=>exact ho
    | some q=>exact ih _ _ (pfold_sub ls q o ho)
 exact this _ _ _ (by simp)
theorem prs_out (h:Two a b A B) (hx: ∀x∈ls,(-3≤x∧x≤3)∧ -x∈ls) {M:List Nat} (hM: ∀q∈M,∀x z,x∈ls→pnx a.2.2 b.2.2 B q x=some z→z∈M) (hp:p∉M): ∀q∈prsL a b A B ls p,q∉M:=
 bfs_all (S:=fun q=>q∉M) (fun q x z hq hxl hz hzM=>hq (hM z hzM (-x) q (hx x hxl).2 (pnx_back h (hx x hxl).1 hz))) _ _ _ fun q hq=>by rw[List.mem_singleton.1 hq];exact hp
def edgN (ea eb:List EdD) (B r:Nat) (p:Nat):Nat:=((List.range r).filter fun (i:Nat)=>(pnx ea eb B p ((i:Int)+1)).isSome).length
def edgL (ea eb:List EdD) (B r:Nat) (o:List Nat):Nat:=(o.map (edgN ea eb B r)).sum
def prk (a b:GrD) (A B r:Nat) (p:Nat):Int:=(edgL a.2.2 b.2.2 B r (prsL a b A B (lettersL r) p):Int)-(prsL a b A B (lettersL r) p).length+1
def cst (a b:GrD) (A B r:Nat) (s:List Nat×List Int) (i:Nat):List Nat×List Int:=
 if i∈s.1 then s else(s.1++prsL a b A B (lettersL r) i,s.2++ [prk a b A B r i])
def compS (a b:GrD) (A B r k:Nat):List Nat×List Int:=(List.range k).foldl (cst a b A B r) ([],[])
theorem compS_succ (a b:GrD) (A B r k:Nat):compS a b A B r (k+1)=cst a b A B r (compS a b A B r k) k:=by
 unfold compS
 rw[List.range_succ,List.foldl_append]
 rfl
theorem letters_ok {r:Nat} (hr:r≤3): ∀x∈lettersL r,(-3≤x∧x≤3)∧ -x∈lettersL r:=fun x hx=>by
 rw[letters_mem] at*
 omega
theorem compS_closed (h:Two a b A B) {r:Nat} (hr:r≤3): ∀k,k≤A*B→(∀q∈(compS a b A B r k).1,q<A*B)∧ ∀q∈(compS a b A B r k).1,∀x z,x∈lettersL r→pnx a.2.2 b.2.2 B q x=some z→z∈(compS a b A B r k).1:=by
 intro k
 induction k with
 | zero=>intro _;exact⟨fun q hq=>absurd hq (by simp[compS]),fun q hq=>absurd hq (by simp[compS])⟩
 | succ k ih=>
   intro hk
   obtain⟨i1,i2⟩:=ih (by omega)
   rw[compS_succ]
   unfold cst
   split
   ·exact⟨i1,i2⟩
   ·refine⟨fun q hq=> ?_,fun q hq x z hx hz=> ?_⟩
    ·rcases List.mem_append.1 hq with hq | hq
     ·exact i1 q hq
     ·exact prs_lt h (by omega) q hq
    ·rcases List.mem_append.1 hq with hq | hq
     ·exact List.mem_append_left _ (i2 q hq x z hx hz)
     ·exact List.mem_append_right _ (prs_closed h (fun x hx=>(letters_ok hr x hx).1) (by omega) q hq x z hx hz)
end
def ns (o:List Nat):List Int:=o.map fun v=>((v:Nat):Int)
theorem ns_len (o:List Nat):(ns o).length=o.length:=by simp[ns]
theorem ns_get (o:List Nat) (k:Nat) (h:k<o.length):(ns o)[k]'(by rw[ns_len];exact h)=((o[k]:Nat):Int):=by simp[ns]
theorem ns_snoc (o:List Nat) (q:Nat):ns (o++ [q])=ns o++ [(q:Int)]:=by simp[ns]
def seenL (n:Nat) (o:List Nat):List Bool:=(List.range n).map fun q=>decide (q∈o)
theorem seenL_len (n:Nat) (o:List Nat):(seenL n o).length=n:=by simp[seenL]
theorem seenL_get (n:Nat) (o:List Nat) (q:Nat) (h:q<n):(seenL n o)[q]'(by rw[seenL_len];exact h)=decide (q∈o):=by simp[seenL]
theorem seenL_nil (n:Nat):seenL n []=List.replicate n false:=by
 refine List.ext_getElem (by simp[seenL]) fun i h1 h2=> ?_
 rw[List.getElem_replicate]
 simp[seenL]
theorem seenL_set (n:Nat) (o:List Nat) (q:Nat):(seenL n o).set q true=seenL n (o++ [q]):=by
 refine List.ext_getElem (by simp[seenL]) fun i h1 h2=> ?_
 rw[List.getElem_set]
 have hi:i<n:=by simpa[seenL] using h2
 have e1:=seenL_get n o i hi
 have e2:=seenL_get n (o++ [q]) i hi
 rw[e2]
 by_cases h:q=i
 ·subst h;simp
 ·rw[if_neg h,e1]
  simp[Ne.symm h]
set_option maxHeartbeats 1000000 in
theorem l14Pairs_any (va vb:Value) (a b:GrD) (A B r p0 u0 v0:Nat) (w:World) (ha:ArgG w va a) (hb:ArgG w vb b) (h2:Two a b A B) (hra:a.1=(r:Int)) (hrb:b.1=(r:Int)) (hp0:p0<A*B) (huv:p0=u0*B+v0):
  Calls Tryz.prog 52 #[va,vb, .int .i64 u0, .int .i64 v0] w fun e w'=> ∃s,e= .returned s∧OwI w' w.heap.size s (ns (prsL a b A B (lettersL r) p0))∧Below w.heap.size w w':=by
 have H2:=hDD h2
 have HGA:=hDD ha
 have HGB:=hDD hb
 have ONEA:=hDD (steps_one h2.fa)
 have ONEB:=hDD (steps_one h2.fb)
 obtain⟨⟨hA1,hA2⟩,hB1,hB2⟩:=h2.bd
 have hr3:r≤3∧1≤r:=by have:=(grB_parts h2.ga).1;omega
 obtain⟨n,hn⟩: ∃n,n=A*B:=⟨_,rfl⟩
 have hn1:n≤1600:=by rw[hn];exact Nat.mul_le_mul hA2 hB2
 have HPR:Hid (prsL a b A B (lettersL r) p0=bfsF a.2.2 b.2.2 B (lettersL r) (n+1) 0 [p0]):=hDD (by rw[hn];rfl)
 have HFA:Hid (∀(ls:List Int) (p:Nat) (o:List Nat),p<n→(∀q∈o,q<n)→ ∀q∈ls.foldl (pst a.2.2 b.2.2 B p) o,q<n):=hDD fun ls p o hp ho=>by
  rw[hn] at*
  exact pfold_all (S:=fun q=>q<A*B) (fun p x q _ _ hq=>pnx_lt h2 hq) hp ls o (fun _ h=>h) ho
 have HPX:Hid (∀p x q,pnx a.2.2 b.2.2 B p x=some q→q<n):=hDD fun p x q hq=>by rw[hn];exact pnx_lt h2 hq
 have NVA:Hid (∀u x,nextV a.2.2 u x= -1∨(0≤nextV a.2.2 u x∧nextV a.2.2 u x<40)):=hDD fun u x=>by
  rcases nextV_range h2.ga u x with e | e
  ·exact .inl e
  ·have:=h2.sa;exact .inr ⟨e.1,by omega⟩
 have NVB:Hid (∀u x,nextV b.2.2 u x= -1∨(0≤nextV b.2.2 u x∧nextV b.2.2 u x<40)):=hDD fun u x=>by
  rcases nextV_range h2.gb u x with e | e
  ·exact .inl e
  ·have:=h2.sb;exact .inr ⟨e.1,by omega⟩
 have hp1:p0<n:=by omega
 have hll:=lettersL_len r
 have HLE:Hid (∀W:World,Calls Tryz.prog 83 #[.int .i64 r] W fun e w'=> ∃s,e= .returned s∧OwI w' W.heap.size s (lettersL r)∧Below W.heap.size W w'):=hDD fun W=>l5Letters_any r W (by omega)
 generalize prsL a b A B (lettersL r) p0=PR at*
 generalize lettersL r=ls at*
 have sa:=h2.sa
 have sb:=h2.sb
 obtain⟨Aa,capa,rfl⟩: ∃A' cap,va= .agg #[.int .i64 r, .int .i64 A, .slice A' a.2.2.length cap]:=by
  obtain⟨s,hv,_,_,ha⟩:=HGA.out
  obtain⟨A',cap,rfl⟩:=ha.form
  exact⟨A',cap,by rw[hv,hra,sa]⟩
 obtain⟨Ab,capb,rfl⟩: ∃A' cap,vb= .agg #[.int .i64 r, .int .i64 B, .slice A' b.2.2.length cap]:=by
  obtain⟨s,hv,_,_,ha⟩:=HGB.out
  obtain⟨A',cap,rfl⟩:=ha.form
  exact⟨A',cap,by rw[hv,hrb,sb]⟩
 have hmul:IntKind.i64.wrap ((A:Int)*(B:Int))=(n:Int):=by
  have e:(A:Int)*(B:Int)=(n:Int):=by rw[hn];simp
  rw[e,IntKind.wrap_i64]
  omega
 have HN:=hDD hn
 have hmu:(u0:Int)*(B:Int)+(v0:Int)=(p0:Int):=by rw[huv];simp
 have hmu1:IntKind.i64.wrap ((u0:Int)*(B:Int))=(u0:Int)*(B:Int):=by
  have:(0:Int)≤(u0:Int)*(B:Int):=Int.mul_nonneg (Int.natCast_nonneg _) (Int.natCast_nonneg _)
  rw[IntKind.wrap_i64]
  omega
 have hmu2:IntKind.i64.wrap ((u0:Int)*(B:Int)+(v0:Int))=(p0:Int):=by rw[hmu,IntKind.wrap_i64];omega
 clear huv hmu
 have HLL:=hDD hll
 clear ha hb h2 hra hrb hp0 sa sb hn hll
 go_enter Tryz.func52,Tryz.ntmps52
 obtain⟨i0,hi0,hz0,hz1,hz2⟩:=info_parts bool_info
 go_wp2_with (at_make;refine wpList_make_full _ rfl _ _ 96 rfl (w.heap.size+1+1) 4 i0 (.bool false) 1 Tryz.underlying96 hi0 hz0 hz1 _ _ _ _ n rfl rfl rfl rfl (by rw[hz2];omega) (by unfold maxLen;omega) (by simp) ?_)
 have bx:Below w.heap.size w ((w.alloc (Obj.cells #[Value.int IntKind.i64 r,Value.int IntKind.i64 A, .slice Aa a.2.2.length capa] 31)).alloc (Obj.cells #[Value.int IntKind.i64 r,Value.int IntKind.i64 B, .slice Ab b.2.2.length capb] 31)):=(by repeat(first | exact Below.refl _ _ | (refine Below.setCell ?_ (by first | omega | (simp<;>omega)) _) | (refine bel_drewN ?_ _) | (refine Below.drew ?_) | (refine Below.alloc ?_ (by first | omega | (simp<;>omega)) _)))
 obtain⟨W0,hW0⟩: ∃W,W=(w.alloc (Obj.cells #[Value.int IntKind.i64 r,Value.int IntKind.i64 A, .slice Aa a.2.2.length capa] 31)).alloc (Obj.cells #[Value.int IntKind.i64 r,Value.int IntKind.i64 B, .slice Ab b.2.2.length capb] 31):=⟨_,rfl⟩
 rw[←hW0] at bx⊢
 have hsW:W0.heap.size=w.heap.size+1+1:=by rw[hW0];simp
 have A0:Hid (W0.cell? ⟨w.heap.size,0,none⟩=some (.int .i64 r)):=hDD (by rw[hW0];simp[go_sem])
 have A1:Hid (W0.cell? ⟨w.heap.size,1,none⟩=some (.int .i64 A)):=hDD (by rw[hW0];simp[go_sem])
 have A2:Hid (W0.cell? ⟨w.heap.size,2,none⟩=some (.slice Aa a.2.2.length capa)):=hDD (by rw[hW0];simp[go_sem])
 have B0:Hid (W0.cell? ⟨w.heap.size+1,0,none⟩=some (.int .i64 r)):=hDD (by rw[hW0];simp[go_sem])
 have B1:Hid (W0.cell? ⟨w.heap.size+1,1,none⟩=some (.int .i64 B)):=hDD (by rw[hW0];simp[go_sem])
 have B2:Hid (W0.cell? ⟨w.heap.size+1,2,none⟩=some (.slice Ab b.2.2.length capb)):=hDD (by rw[hW0];simp[go_sem])
 clear hW0
 rw[←hsW]
 have hl0:w.heap.size<W0.heap.size:=by omega
 have hl1:w.heap.size+1<W0.heap.size:=by omega
 have BX:=hDD bx
 have HSW:=hDD hsW
 clear bx hsW
 intro w2 hown0 hgrow0
 have own0:OwB w2 W0.heap.size (.slice (some ⟨W0.heap.size,0,none⟩) n n) (seenL n []):=by
  unfold OwB
  rw[seenL_len,seenL_nil]
  have:bools (List.replicate n false)=List.replicate n (Value.bool false):=by simp[bools]
  rw[this]
  simpa[toList_madeCells_one] using hown0
 have hP2:W0.heap.size<w2.heap.size:=(own0.lt W0.heap.size rfl).2
 have B02:Below W0.heap.size W0 w2:=(Below.refl W0.heap.size W0).grown hgrow0 (Nat.le_refl _) (fun k h=>by cases h)
 have q1:=(B02.cell (p:=⟨w.heap.size+1,1,none⟩) hl1).trans B1.out
 have OB0:=hDD own0
 have HB02:=hDD B02
 have q0:=(B02.cell (p:=⟨w.heap.size,0,none⟩) hl0).trans A0.out
 have q0':=(B02.cell (p:=⟨w.heap.size+1,0,none⟩) hl1).trans B0.out
 have hc0:=own0.cellAt p0 (by rw[seenL_len];exact hp1)
 have hf0:=own0.free p0
 have hp1i:(p0:Int)<(n:Int):=by omega
 have OB1:=hDD (own0.set p0 true)
 have n0: ¬W0.heap.size=w.heap.size:=by omega
 have n1: ¬W0.heap.size=w.heap.size+1:=by omega
 have hlw0:w.heap.size<w2.heap.size:=by omega
 have hlw1:w.heap.size+1<w2.heap.size:=by omega
 clear hown0 own0 hgrow0 B02
 go_wp2_with fail
 have oO:OwI ((w2.setCell ⟨W0.heap.size,p0,none⟩ (.bool true)).alloc (.cells #[Value.int IntKind.i64 p0] 3)) (W0.heap.size+1) (.slice (some ⟨w2.heap.size,0,none⟩) 1 1) (ns [p0]):=OwI_litN _ [(p0:Int)] w2.heap.size (by simp) (fun x hx=>by simp at hx;subst hx;exact⟨by omega,by omega⟩) (by simp) (by omega)
 have oB:OwB ((w2.setCell ⟨W0.heap.size,p0,none⟩ (.bool true)).alloc (.cells #[Value.int IntKind.i64 p0] 3)) W0.heap.size (.slice (some ⟨W0.heap.size,0,none⟩) n n) (seenL n [p0]):=by
  have h1:=OB1.out.1
  rw[seenL_set] at h1
  exact h1.below ((Below.refl _ _).alloc (Nat.le_refl _) _)
 have bS:Below W0.heap.size W0 ((w2.setCell ⟨W0.heap.size,p0,none⟩ (.bool true)).alloc (.cells #[Value.int IntKind.i64 p0] 3)):=(HB02.out.setCell (p:=⟨W0.heap.size,p0,none⟩) (by show W0.heap.size≤_;exact Nat.le_refl _) _).alloc (by simp;omega) _
 have sS:((w2.setCell ⟨W0.heap.size,p0,none⟩ (.bool true)).alloc (.cells #[Value.int IntKind.i64 p0] 3)).heap.size=w2.heap.size+1:=by simp
 generalize (w2.setCell ⟨W0.heap.size,p0,none⟩ (.bool true)).alloc (.cells #[Value.int IntKind.i64 p0] 3)=wS at oO oB bS sS⊢
 refine(HLE.out wS).mono ?_
 rintro e w3 ⟨rl,rfl,ol,bl⟩
 have s3:=bl.size
 obtain⟨Al,capl,rfl,hcl,hml,_,hfl⟩:=ol.form
 obtain⟨gl,rfl,hgl1,hgl2⟩:=hfl (by have:=HLL.out;omega)
 unfold maxLen at hml
 have OL:=hDD ol.rd
 have OO:=hDD (oO.below bl)
 have OB:=hDD (oB.below bl)
 have HB3:=hDD (bS.trans (bl.mono (by omega)))
 have HPR0:=hDD HPR.out
 clear hfl ol bl oO oB bS q0 q0' q1 hc0 hf0 OB1 OB0 HB02
 go_wp2
 go_loopw [10,12] (fun out i wo=> ∃(k:Nat) (o:List Nat),k≤o.length∧i= .int .i64 k∧o.Nodup∧(∀q∈o,q<n)∧PR=bfsF a.2.2 b.2.2 B ls (n+1-k) k o∧OwI wo (W0.heap.size+1) out (ns o)∧OwB wo W0.heap.size (.slice (some ⟨W0.heap.size,0,none⟩) n n) (seenL n o)∧RdI wo (.slice (some ⟨gl,0,none⟩) ls.length capl) ls∧out.ownBlock≠some gl∧gl<wo.heap.size∧Below W0.heap.size W0 wo) (fun _ i _=>n+1-(intOf i).toNat)
 case atStart=>exact⟨0,[p0],by simp,rfl,by simp,fun q hq=>by rw[List.mem_singleton.1 hq];exact hp1,HPR.out,OO.out,OB.out,OL.out,by simp[Value.ownBlock];omega,hgl2,HB3.out⟩
 case round=>
  obtain⟨k,o,hk,rfl,hnd,hlo,hpr,hown,hob,hrd,hne,hgw,hbel⟩:=hrel
  obtain⟨wo,rfl⟩: ∃wo:World,wo=wr:=⟨_,rfl⟩
  have hol:=nodup_lt hnd hlo
  have HND:=hDD hnd
  have HLO:=hDD hlo
  have HP:=hDD hpr
  have HOB:=hDD hob
  have HRD:=hDD hrd
  have HB2:=hDD hbel
  have hsz:=hbel.size
  obtain⟨A1',cap1,rfl,_,_,_,hf2⟩:=hown.form
  rw[ns_len] at hf2 hown hne⊢
  have HO:=hDD hown
  have HNE:=hDD hne
  have hgP:gl≠W0.heap.size:=by omega
  clear hnd hlo hpr hob hrd hne hbel
  by_cases hlt:k<o.length
  ·obtain⟨p,hp⟩: ∃p,o[k]? =some p:=⟨o[k],by simp⟩
   have hkp:o[k]=p:=by rw[List.getElem?_eq_getElem hlt] at hp;injection hp
   have hpn:p<n:=HLO.out p (List.mem_of_getElem? hp)
   have HCF:Hid (PR=bfsF a.2.2 b.2.2 B ls (n+1-(k+1)) (k+1) (ls.foldl (pst a.2.2 b.2.2 B p) o)):=hDD (by
    rw[HP.out,show n+1-k=(n+1-(k+1))+1 by omega]
    conv=>lhs;unfold bfsF
    rw[hp])
   have HPU:Hid (∀m:Nat,((ls.take m).foldl (pst a.2.2 b.2.2 B p) o)[k]? =some p):=hDD fun m=>pfold_prefix (a:=a) (b:=b) (B:=B) _ p o hp
   have HSU:Hid (∀(m:Nat) (hm:m<ls.length),(ls.take (m+1)).foldl (pst a.2.2 b.2.2 B p) o=pst a.2.2 b.2.2 B p ((ls.take m).foldl (pst a.2.2 b.2.2 B p) o) ls[m]):=hDD fun m hm=>by rw[List.take_succ_eq_append_getElem hm,List.foldl_append];rfl
   have HNDm:Hid (∀m:Nat,((ls.take m).foldl (pst a.2.2 b.2.2 B p) o).Nodup):=hDD fun m=>pfold_nodup (a:=a) (b:=b) (B:=B) _ p o HND.out
   have HLOm:Hid (∀m:Nat,∀q∈(ls.take m).foldl (pst a.2.2 b.2.2 B p) o,q<n):=hDD fun m=>HFA.out _ p o hpn HLO.out
   obtain⟨un,hun⟩: ∃un,un=p/B:=⟨_,rfl⟩
   obtain⟨vn,hvn⟩: ∃vn,vn=p%B:=⟨_,rfl⟩
   have HUN:=hDD hun
   have HVN:=hDD hvn
   have hun2:un≤1600:=by rw[hun];exact Nat.le_trans (Nat.div_le_self _ _) (by omega)
   have hvn2:vn≤1600:=by rw[hvn];exact Nat.le_trans (Nat.mod_le _ _) (by omega)
   have hdiv:wrap64 ((p:Int)/(B:Int))=(un:Int):=by
    have:(p:Int)/(B:Int)=(un:Int):=by rw[hun];rfl
    rw[this]
    exact IntWalk.wrap64_in _ ⟨by omega,by omega⟩
   have hmod:(p:Int)%(B:Int)=(vn:Int):=by rw[hvn];rfl
   have HAA:Hid (∀W,Below W0.heap.size W0 W→ArgG W (.agg #[.int .i64 r, .int .i64 A, .slice Aa a.2.2.length capa]) a):=hDD fun W hb=>HGA.out.below (BX.out.trans (hb.mono (by omega)))
   have HAB:Hid (∀W,Below W0.heap.size W0 W→ArgG W (.agg #[.int .i64 r, .int .i64 B, .slice Ab b.2.2.length capb]) b):=hDD fun W hb=>HGB.out.below (BX.out.trans (hb.mono (by omega)))
   have HNA:Hid (∀x W,ArgG W (.agg #[.int .i64 r, .int .i64 A, .slice Aa a.2.2.length capa]) a→_):=hDD fun x W h=>specNextVertex_any _ a (un:Int) x W h (ONEA.out (un:Int) x)
   have HNB:Hid (∀x W,ArgG W (.agg #[.int .i64 r, .int .i64 B, .slice Ab b.2.2.length capb]) b→_):=hDD fun x W h=>specNextVertex_any _ b (vn:Int) x W h (ONEB.out (vn:Int) x)
   clear hp hkp hf2 hown hun hvn
   go_wp2
   go_loopw [10,13] (fun out j wr=> ∃m:Nat,m≤ls.length∧j= .int .i64 m∧OwI wr (W0.heap.size+1) out (ns ((ls.take m).foldl (pst a.2.2 b.2.2 B p) o))∧OwB wr W0.heap.size (.slice (some ⟨W0.heap.size,0,none⟩) n n) (seenL n ((ls.take m).foldl (pst a.2.2 b.2.2 B p) o))∧RdI wr (.slice (some ⟨gl,0,none⟩) ls.length capl) ls∧out.ownBlock≠some gl∧gl<wr.heap.size∧Below W0.heap.size W0 wr) (fun _ j _=>ls.length-(intOf j).toNat)
   case atStart=>
    exact⟨0,Nat.zero_le _,rfl,HO.out,HOB.out,HRD.out,HNE.out,hgw,HB2.out⟩
   case round=>
    obtain⟨m,hm1,rfl,hown,hob,hrd,hne,hblr,hbi⟩:=hrel
    have hsi:=hbi.size
    have HBI:=hDD hbi
    have p0':=(hbi.cell (p:=⟨w.heap.size,0,none⟩) hl0).trans A0.out
    have p1':=(hbi.cell (p:=⟨w.heap.size,1,none⟩) hl0).trans A1.out
    have p2':=(hbi.cell (p:=⟨w.heap.size,2,none⟩) hl0).trans A2.out
    have p3':=(hbi.cell (p:=⟨w.heap.size+1,0,none⟩) hl1).trans B0.out
    have p4':=(hbi.cell (p:=⟨w.heap.size+1,1,none⟩) hl1).trans B1.out
    have p5':=(hbi.cell (p:=⟨w.heap.size+1,2,none⟩) hl1).trans B2.out
    have HRR:=hDD hrd
    have HNR:=hDD hne
    have HOBR:=hDD hob
    have HOM:=hDD hown
    have hP:=hob.lt W0.heap.size rfl
    clear hbi hob
    by_cases hlt2:m<ls.length
    ·have hlm:=nodup_lt (HNDm.out m) (HLOm.out m)
     have hpu:=HPU.out m
     have HS:=hDD (HSU.out m hlt2)
     obtain⟨_,_,hAl,_,hcl2⟩:=hrd.at (by omega)
     obtain⟨rfl,rfl⟩:gl=_∧0=_:=by simpa using hAl
     have c0:=hcl2 m hlt2
     rw[Nat.zero_add] at c0
     generalize ls[m]=x at c0 HS
     generalize (ls.take m).foldl (pst a.2.2 b.2.2 B p) o=om at*
     have hkm:k<om.length:=(List.getElem?_eq_some_iff.1 hpu).1
     have hkg:om[k]=p:=by rw[List.getElem?_eq_getElem hkm] at hpu;injection hpu
     obtain⟨A2',cap2,rfl,_,_,_,hf2⟩:=hown.form
     obtain⟨b2,rfl,hb21,hb22⟩:=hf2 (by rw[ns_len];omega)
     have d0:=hown.cellAt k (by rw[ns_len];exact hkm)
     rw[ns_get om k hkm,hkg] at d0
     rw[ns_len] at HOM⊢
     clear hcl2 hAl hown hrd hf2 hpu hkg
     go_wp2_with fail
     have f0:=BelW.cell p0' (show w.heap.size<wr.heap.size by omega)
     have f1:=BelW.cell p1' (show w.heap.size<wr.heap.size by omega)
     have f2:=BelW.cell p2' (show w.heap.size<wr.heap.size by omega)
     have f3:=BelW.cell p3' (show w.heap.size+1<wr.heap.size by omega)
     have f4:=BelW.cell p4' (show w.heap.size+1<wr.heap.size by omega)
     have f5:=BelW.cell p5' (show w.heap.size+1<wr.heap.size by omega)
     have f6:=BelW.cell c0 hblr
     have f7:=BelW.cell d0 hb22
     (refine wp_region_quiet_bel (by kernel_rfl) (by kernel_rfl) ?_;(repeat(go_big_quiet_step (first | (go_at_call 58;exact Calls.bel_of (HNA.out x _ (HAA.out _ (HBI.out.trans ((BelW.h _).mono (by omega)))))))));refine wpQuiet_nil ?_;intro wq hw';obtain⟨pq,hw''⟩:=hw';have bq:=pq.h;rw[←hw''] at bq;clear hw'' pq)
     clear f0 f1 f2 f3 f4 f5 f6 f7
     have sq:=bq.size
     have HQ:=hDD (HBI.out.trans (bq.mono (by omega)))
     have HOQ:=hDD (HOM.out.below bq)
     have HRQ:=hDD (HRR.out.below bq)
     have HBQ:=hDD (HOBR.out.below bq)
     have k0:=(bq.cell (p:=⟨w.heap.size,0,none⟩) (show w.heap.size<wr.heap.size by omega)).trans p0'
     have k1:=(bq.cell (p:=⟨w.heap.size,1,none⟩) (show w.heap.size<wr.heap.size by omega)).trans p1'
     have k2:=(bq.cell (p:=⟨w.heap.size,2,none⟩) (show w.heap.size<wr.heap.size by omega)).trans p2'
     have k3:=(bq.cell (p:=⟨w.heap.size+1,0,none⟩) (show w.heap.size+1<wr.heap.size by omega)).trans p3'
     have k4:=(bq.cell (p:=⟨w.heap.size+1,1,none⟩) (show w.heap.size+1<wr.heap.size by omega)).trans p4'
     have k5:=(bq.cell (p:=⟨w.heap.size+1,2,none⟩) (show w.heap.size+1<wr.heap.size by omega)).trans p5'
     have c1:=(bq.cell (p:=⟨gl,m,none⟩) hblr).trans c0
     have d1:=(bq.cell (p:=⟨b2,k,none⟩) hb22).trans d0
     clear bq p0' p1' p2' p3' p4' p5' c0 d0
     go_wp2_with fail
     have f0:=BelW.cell k0 (show w.heap.size<wq.heap.size by omega)
     have f1:=BelW.cell k1 (show w.heap.size<wq.heap.size by omega)
     have f2:=BelW.cell k2 (show w.heap.size<wq.heap.size by omega)
     have f3:=BelW.cell k3 (show w.heap.size+1<wq.heap.size by omega)
     have f4:=BelW.cell k4 (show w.heap.size+1<wq.heap.size by omega)
     have f5:=BelW.cell k5 (show w.heap.size+1<wq.heap.size by omega)
     have f6:=BelW.cell c1 (show gl<wq.heap.size by omega)
     have f7:=BelW.cell d1 (show b2<wq.heap.size by omega)
     (refine wp_region_quiet_bel (by kernel_rfl) (by kernel_rfl) ?_;(repeat(go_big_quiet_step (first | (go_at_call 58;exact Calls.bel_of (HNB.out x _ (HAB.out _ (HQ.out.trans ((BelW.h _).mono (by omega)))))))));refine wpQuiet_nil ?_;intro wz hw';obtain⟨pq,hw''⟩:=hw';have bz:=pq.h;rw[←hw''] at bz;clear hw'' pq)
     clear f0 f1 f2 f3 f4 f5 f6 f7
     have sz:=bz.size
     have HZ:=hDD (HQ.out.trans (bz.mono (by omega)))
     have HOZ:=hDD (HOQ.out.below bz)
     have HRZ:=hDD (HRQ.out.below bz)
     have HBZ:=hDD (HBQ.out.below bz)
     have j4:=(bz.cell (p:=⟨w.heap.size+1,1,none⟩) (show w.heap.size+1<wq.heap.size by omega)).trans k4
     clear bz k0 k1 k2 k3 k4 k5 c1 d1
     have NA:=hDD (NVA.out un x)
     have NB:=hDD (NVB.out vn x)
     have PX:Hid (pst a.2.2 b.2.2 B p om x=if 0≤nextV a.2.2 un x∧0≤nextV b.2.2 vn x then(if(nextV a.2.2 un x).toNat*B+(nextV b.2.2 vn x).toNat∈om then om else om++ [(nextV a.2.2 un x).toNat*B+(nextV b.2.2 vn x).toNat]) else om):=hDD (by
      unfold pst pnx
      rw[←HUN.out,←HVN.out]
      split
      ·rename_i z hz
       split at hz
       ·rename_i hc
        rw[if_pos hc]
        injection hz with hz
        rw[hz]
       ·cases hz
      ·rename_i hz
       split at hz
       ·cases hz
       ·rename_i hc
        rw[if_neg hc])
     have PN:Hid (0≤nextV a.2.2 un x∧0≤nextV b.2.2 vn x→(nextV a.2.2 un x).toNat*B+(nextV b.2.2 vn x).toNat<n):=hDD fun hc=>by
      refine HPX.out p x _ ?_
      unfold pnx
      rw[←HUN.out,←HVN.out,if_pos hc]
     generalize nextV a.2.2 un x=y1 at*
     generalize nextV b.2.2 vn x=y2 at*
     rcases NA.out with hy | hy
     ·subst hy
      have F:Hid (pst a.2.2 b.2.2 B p om x=om):=hDD (by rw[PX.out,if_neg (by omega)])
      go_wp2
      go_roundw
      case rel=>exact⟨m+1,by omega,by go_num,by rw[HS.out,F.out];exact HOZ.out,by rw[HS.out,F.out];exact HBZ.out,HRZ.out,HNR.out,by omega,HZ.out⟩
      case measure=>simp[intOf];omega
     rcases NB.out with hz | hz
     ·subst hz
      have hy0:(0:Int)≤y1:=hy.1
      have F:Hid (pst a.2.2 b.2.2 B p om x=om):=hDD (by rw[PX.out,if_neg (by omega)])
      go_wp2
      go_roundw
      case rel=>exact⟨m+1,by omega,by go_num,by rw[HS.out,F.out];exact HOZ.out,by rw[HS.out,F.out];exact HBZ.out,HRZ.out,HNR.out,by omega,HZ.out⟩
      case measure=>simp[intOf];omega
     obtain⟨s1,rfl⟩: ∃s1:Nat,y1=(s1:Int):=⟨y1.toNat,by omega⟩
     obtain⟨t1,rfl⟩: ∃t1:Nat,y2=(t1:Int):=⟨y2.toNat,by omega⟩
     simp only[Int.toNat_natCast] at PX PN
     have hqn:=PN.out ⟨hy.1,hz.1⟩
     have PY:Hid (pst a.2.2 b.2.2 B p om x=if s1*B+t1∈om then om else om++ [s1*B+t1]):=hDD (by rw[PX.out,if_pos ⟨hy.1,hz.1⟩])
     obtain⟨q,hq⟩: ∃q,q=s1*B+t1:=⟨_,rfl⟩
     rw[←hq] at PY hqn
     have hqi:(s1:Int)*(B:Int)+(t1:Int)=(q:Int):=by rw[hq];simp
     have hw1:IntKind.i64.wrap ((s1:Int)*(B:Int))=(s1:Int)*(B:Int):=by
      have:(0:Int)≤(s1:Int)*(B:Int):=Int.mul_nonneg (Int.natCast_nonneg _) (Int.natCast_nonneg _)
      rw[IntKind.wrap_i64]
      omega
     have hw2:IntKind.i64.wrap ((s1:Int)*(B:Int)+(t1:Int))=(q:Int):=by rw[hqi,IntKind.wrap_i64];omega
     have hs0:(0:Int)≤(s1:Int):=hy.1
     have ht0:(0:Int)≤(t1:Int):=hz.1
     have hqn':(q:Int)<(n:Int):=by omega
     have cq:=HBZ.out.cellAt q (by rw[seenL_len];exact hqn)
     rw[seenL_get n om q hqn] at cq
     have fq:=HBZ.out.free q
     clear PX PN hq hqi hy hz NA NB
     by_cases hmem:q∈om
     ·have F:Hid (pst a.2.2 b.2.2 B p om x=om):=hDD (by rw[PY.out,if_pos hmem])
      have hd:decide (q∈om)=true:=by simp[hmem]
      rw[hd] at cq
      clear hmem hd
      go_wp2
      go_roundw
      case rel=>exact⟨m+1,by omega,by go_num,by rw[HS.out,F.out];exact HOZ.out,by rw[HS.out,F.out];exact HBZ.out,HRZ.out,HNR.out,by omega,HZ.out⟩
      case measure=>simp[intOf];omega
     ·have F:Hid (pst a.2.2 b.2.2 B p om x=om++ [q]):=hDD (by rw[PY.out,if_neg hmem])
      have hd:decide (q∈om)=false:=by simp[hmem]
      rw[hd] at cq
      clear hmem hd
      have HY:Hid (I64 (q:Int)):=hDD ⟨by omega,by omega⟩
      have hset:=HBZ.out.set q true
      rw[seenL_set] at hset
      have HOS:Hid (OwI (wz.setCell ⟨W0.heap.size,q,none⟩ (.bool true)) (W0.heap.size+1) (.slice (some ⟨b2,0,none⟩) om.length cap2) (ns om)):=hDD (HOZ.out.far (p:=⟨W0.heap.size,q,none⟩) (by show W0.heap.size<_;omega) _)
      have HBS:=hDD hset.1
      have HRS:Hid (RdI (wz.setCell ⟨W0.heap.size,q,none⟩ (.bool true)) (.slice (some ⟨gl,0,none⟩) ls.length capl) ls):=hDD (HRZ.out.grown hset.2 fun x hx hx'=>by simp[Value.ownBlock] at hx hx';omega)
      have HZS:Hid (Below W0.heap.size W0 (wz.setCell ⟨W0.heap.size,q,none⟩ (.bool true))):=hDD (HZ.out.setCell (by show W0.heap.size≤W0.heap.size;omega) _)
      have hS:(wz.setCell ⟨W0.heap.size,q,none⟩ (.bool true)).heap.size=wz.heap.size:=by simp
      have hnl:=ns_len om
      clear hset
      go_wp2_with (at_builtin;refine push_int rfl (.tmp 104) (.tmp 111) rfl _ _ _ (OwI.alloc HOS.out _) rfl _ _ rfl (by simp[go_sem]) HY.out (by first | omega | (simp<;>omega)) (by first | omega | (simp<;>omega)) ?_;intro v9 wv9 o9 g9 p9)
      have hz9:=g9.size
      simp at hz9
      go_roundw
      case rel=>
       refine⟨m+1,by omega,by go_num,by rw[HS.out,F.out,ns_snoc];exact o9,by rw[HS.out,F.out];exact(HBS.out.below ((Below.refl _ _).alloc (Nat.le_refl _) _)).kept g9 (.inr (by simp[Value.ownBlock];omega)),(HRS.out.alloc _).grown g9 (fun x hx hx'=> ?_),fun e=> ?_,by omega,bel_push HZS.out (by omega) HOS.out.1 (by omega) g9⟩
       ·have:=HNR.out
        simp[Value.ownBlock] at hx hx' this
        omega
       ·rcases p9 with p9 | p9
        ·rw[p9] at e;exact HNR.out e
        ·rw[p9] at e;simp at e;omega
      case measure=>simp[intOf];omega
    ·obtain rfl:m=ls.length:=by omega
     rw[List.take_length] at hown HOBR
     have hndm:=HNDm.out ls.length
     have hlom:=HLOm.out ls.length
     rw[List.take_length] at hndm hlom
     have HN1:=hDD hndm
     have HN2:=hDD hlom
     have HOM2:=hDD hown
     have hlen:k+1≤(ls.foldl (pst a.2.2 b.2.2 B p) o).length:=by
      have:=HPU.out ls.length
      rw[List.take_length] at this
      have:=(List.getElem?_eq_some_iff.1 this).1
      omega
     have hll2:=nodup_lt hndm hlom
     clear hown hrd hne hndm hlom p0' p1' p2' p3' p4' p5' HOM
     go_wp2
     go_roundw
     case rel=>exact⟨k+1,_,hlen,by go_num,HN1.out,HN2.out,HCF.out,HOM2.out,HOBR.out,HRR.out,HNR.out,hblr,HBI.out⟩
     case measure=>simp[intOf];omega
  ·obtain rfl:k=o.length:=by omega
   have F:Hid (PR=o):=hDD (by
    rw[HP.out]
    cases n+1-o.length with
    | zero=>rfl
    | succ f=>unfold bfsF;rw[List.getElem?_eq_none (Nat.le_refl _)])
   clear hf2 hown
   have HBW:Hid (Below w.heap.size w wo):=hDD (BX.out.trans (HB2.out.mono (by omega)))
   have hbase:w.heap.size≤W0.heap.size+1:=by omega
   go_wp2
   exact bodyPost_ret (v:= .slice A1' o.length cap1) (by simp[results,Tryz.results52]) rfl ⟨_,rfl,by rw[F.out];exact HO.out.mono hbase,HBW.out⟩
def cntE (ea eb:List EdD) (B p m:Nat):Nat:=((List.range m).filter fun (i:Nat)=>(pnx ea eb B p ((i:Int)+1)).isSome).length
theorem cntE_succ (ea eb:List EdD) (B p m:Nat):cntE ea eb B p (m+1)=cntE ea eb B p m+if(pnx ea eb B p ((m:Int)+1)).isSome then 1 else 0:=by
 unfold cntE
 rw[List.range_succ,List.filter_append,List.length_append]
 congr 1
 simp only[List.filter_cons,List.filter_nil]
 split<;>rfl
theorem cntE_le (ea eb:List EdD) (B p m:Nat):cntE ea eb B p m≤m:=by
 have:=List.length_filter_le (fun (i:Nat)=>(pnx ea eb B p ((i:Int)+1)).isSome) (List.range m)
 simpa[cntE] using this
theorem edgL_succ (ea eb:List EdD) (B r:Nat) (o:List Nat) (k:Nat) (h:k<o.length):edgL ea eb B r (o.take (k+1))=edgL ea eb B r (o.take k)+cntE ea eb B o[k] r:=by
 unfold edgL
 rw[List.take_succ_eq_append_getElem h,List.map_append,List.sum_append]
 simp[edgN,cntE]
theorem edgL_le (ea eb:List EdD) (B r:Nat) (hr:r≤3) (o:List Nat):edgL ea eb B r o≤3*o.length:=by
 unfold edgL
 induction o with
 | nil=>simp
 | cons p o ih=>
   have:=cntE_le ea eb B p r
   have e:edgN ea eb B r p=cntE ea eb B p r:=rfl
   simp only[List.map_cons,List.sum_cons,List.length_cons]
   omega
set_option maxHeartbeats 1000000 in
theorem l14Edges_any (va vb vo:Value) (a b:GrD) (A B r:Nat) (o:List Nat) (w:World) (ha:ArgG w va a) (hb:ArgG w vb b) (ho:RdI w vo (ns o)) (h2:Two a b A B) (hra:a.1=(r:Int)) (hrb:b.1=(r:Int)) (hlo: ∀q∈o,q<A*B) (hol:o.length≤1600):
  Calls Tryz.prog 53 #[va,vb,vo] w fun e w'=>e= .returned (.int .i64 (edgL a.2.2 b.2.2 B r o:Nat))∧Below w.heap.size w w':=by
 have HGA:=hDD ha
 have HGB:=hDD hb
 have HOR:=hDD ho
 have ONEA:=hDD (steps_one h2.fa)
 have ONEB:=hDD (steps_one h2.fb)
 obtain⟨⟨hA1,hA2⟩,hB1,hB2⟩:=h2.bd
 have hr3:r≤3∧1≤r:=by have:=(grB_parts h2.ga).1;omega
 have hn1:A*B≤1600:=Nat.mul_le_mul hA2 hB2
 have HLO:Hid (∀k (hk:k<o.length),o[k]<1600):=hDD fun k hk=>Nat.lt_of_lt_of_le (hlo o[k] (by simp)) hn1
 have HES:Hid (∀k (h:k<o.length),edgL a.2.2 b.2.2 B r (o.take (k+1))=edgL a.2.2 b.2.2 B r (o.take k)+cntE a.2.2 b.2.2 B o[k] r):=hDD fun k h=>edgL_succ _ _ _ _ o k h
 have HEL:Hid (∀k,k≤o.length→edgL a.2.2 b.2.2 B r (o.take k)≤4800):=hDD fun k hk=>by
  have:=edgL_le a.2.2 b.2.2 B r hr3.1 (o.take k)
  rw[List.length_take] at this
  omega
 have HE0:Hid (edgL a.2.2 b.2.2 B r (o.take 0)=0):=hDD rfl
 have HEE:Hid (edgL a.2.2 b.2.2 B r o=edgL a.2.2 b.2.2 B r (o.take o.length)):=hDD (by rw[List.take_length])
 generalize edgL a.2.2 b.2.2 B r o=EE at*
 have sa:=h2.sa
 have sb:=h2.sb
 obtain⟨Aa,capa,rfl⟩: ∃A' cap,va= .agg #[.int .i64 r, .int .i64 A, .slice A' a.2.2.length cap]:=by
  obtain⟨s,hv,_,_,ha⟩:=HGA.out
  obtain⟨A',cap,rfl⟩:=ha.form
  exact⟨A',cap,by rw[hv,hra,sa]⟩
 obtain⟨Ab,capb,rfl⟩: ∃A' cap,vb= .agg #[.int .i64 r, .int .i64 B, .slice A' b.2.2.length cap]:=by
  obtain⟨s,hv,_,_,ha⟩:=HGB.out
  obtain⟨A',cap,rfl⟩:=ha.form
  exact⟨A',cap,by rw[hv,hrb,sb]⟩
 obtain⟨Ao,capo,rfl,hco,hmo,_⟩:=ho.arg
 rw[ns_len] at hco HOR⊢
 unfold maxLen at hmo
 clear ha hb h2 hra hrb hlo sa sb ho hn1
 go_enter Tryz.func53,Tryz.ntmps53
 go_wp2
 have bx:Below w.heap.size w ((w.alloc (Obj.cells #[Value.int IntKind.i64 r,Value.int IntKind.i64 A, .slice Aa a.2.2.length capa] 31)).alloc (Obj.cells #[Value.int IntKind.i64 r,Value.int IntKind.i64 B, .slice Ab b.2.2.length capb] 31)):=(by repeat(first | exact Below.refl _ _ | (refine Below.setCell ?_ (by first | omega | (simp<;>omega)) _) | (refine bel_drewN ?_ _) | (refine Below.drew ?_) | (refine Below.alloc ?_ (by first | omega | (simp<;>omega)) _)))
 obtain⟨W0,hW0⟩: ∃W,W=(w.alloc (Obj.cells #[Value.int IntKind.i64 r,Value.int IntKind.i64 A, .slice Aa a.2.2.length capa] 31)).alloc (Obj.cells #[Value.int IntKind.i64 r,Value.int IntKind.i64 B, .slice Ab b.2.2.length capb] 31):=⟨_,rfl⟩
 rw[←hW0] at bx⊢
 have hsW:W0.heap.size=w.heap.size+1+1:=by rw[hW0];simp
 have A0:Hid (W0.cell? ⟨w.heap.size,0,none⟩=some (.int .i64 r)):=hDD (by rw[hW0];simp[go_sem])
 have A1:Hid (W0.cell? ⟨w.heap.size,1,none⟩=some (.int .i64 A)):=hDD (by rw[hW0];simp[go_sem])
 have A2:Hid (W0.cell? ⟨w.heap.size,2,none⟩=some (.slice Aa a.2.2.length capa)):=hDD (by rw[hW0];simp[go_sem])
 have B0:Hid (W0.cell? ⟨w.heap.size+1,0,none⟩=some (.int .i64 r)):=hDD (by rw[hW0];simp[go_sem])
 have B1:Hid (W0.cell? ⟨w.heap.size+1,1,none⟩=some (.int .i64 B)):=hDD (by rw[hW0];simp[go_sem])
 have B2:Hid (W0.cell? ⟨w.heap.size+1,2,none⟩=some (.slice Ab b.2.2.length capb)):=hDD (by rw[hW0];simp[go_sem])
 clear hW0
 have hl0:w.heap.size<W0.heap.size:=by omega
 have hl1:w.heap.size+1<W0.heap.size:=by omega
 have BX:=hDD bx
 have HCK:Hid (∀(k:Nat) (hk:k<o.length) (wr:World),Below W0.heap.size W0 wr→ ∃bo offo,Ao=some ⟨bo,offo,none⟩∧bo<wr.heap.size∧wr.cell? ⟨bo,offo+k,none⟩=some (.int .i64 ((o[k]:Nat):Int))):=hDD fun k hk wr hb=>by
  obtain⟨bo,offo,hA,hbo,hc⟩:=(HOR.out.below (BX.out.trans (hb.mono (by omega)))).at (by rw[ns_len];omega)
  have:=hc k (by rw[ns_len];exact hk)
  rw[ns_get o k hk] at this
  exact⟨bo,offo,hA,hbo,this⟩
 clear bx hsW
 go_loopw [7,8] (fun c i wo=> ∃k:Nat,k≤o.length∧i= .int .i64 k∧c= .int .i64 (edgL a.2.2 b.2.2 B r (o.take k):Nat)∧Below W0.heap.size W0 wo) (fun _ i _=>o.length-(intOf i).toNat)
 case atStart=>exact⟨0,Nat.zero_le _,rfl,by rw[HE0.out];rfl,Below.refl _ _⟩
 case round=>
  obtain⟨k,hk,rfl,rfl,hbel⟩:=hrel
  obtain⟨wo,rfl⟩: ∃wo:World,wo=wr:=⟨_,rfl⟩
  have HB2:=hDD hbel
  by_cases hlt:k<o.length
  ·have hpn:=HLO.out k hlt
   have HS:=hDD (HES.out k hlt)
   have he1:=HEL.out k hk
   have HCP:=hDD (HCK.out k hlt)
   obtain⟨bo,offo,rfl,_,_⟩:=HCP.out wo hbel
   generalize hp:o[k]=p at*
   generalize edgL a.2.2 b.2.2 B r (o.take k)=E0 at*
   obtain⟨un,hun⟩: ∃un,un=p/B:=⟨_,rfl⟩
   obtain⟨vn,hvn⟩: ∃vn,vn=p%B:=⟨_,rfl⟩
   have HUN:=hDD hun
   have HVN:=hDD hvn
   have hun2:un≤1600:=by rw[hun];exact Nat.le_trans (Nat.div_le_self _ _) (by omega)
   have hdiv:wrap64 ((p:Int)/(B:Int))=(un:Int):=by
    have:(p:Int)/(B:Int)=(un:Int):=by rw[hun];rfl
    rw[this]
    exact IntWalk.wrap64_in _ ⟨by omega,by omega⟩
   have hmod:(p:Int)%(B:Int)=(vn:Int):=by rw[hvn];rfl
   have HAA:Hid (∀W,Below W0.heap.size W0 W→ArgG W (.agg #[.int .i64 r, .int .i64 A, .slice Aa a.2.2.length capa]) a):=hDD fun W hb=>HGA.out.below (BX.out.trans (hb.mono (by omega)))
   have HAB:Hid (∀W,Below W0.heap.size W0 W→ArgG W (.agg #[.int .i64 r, .int .i64 B, .slice Ab b.2.2.length capb]) b):=hDD fun W hb=>HGB.out.below (BX.out.trans (hb.mono (by omega)))
   clear hp hun hvn hbel HCK
   go_wp2
   go_loopw [7,9] (fun c j wr=> ∃m:Nat,m≤r∧j= .int .i64 ((m:Int)+1)∧c= .int .i64 ((E0+cntE a.2.2 b.2.2 B p m:Nat):Int)∧Below W0.heap.size W0 wr) (fun _ j _=>r+1-(intOf j).toNat)
   case atStart=>exact⟨0,Nat.zero_le _,rfl,rfl,HB2.out⟩
   case round=>
    obtain⟨m,hm1,rfl,rfl,hbi⟩:=hrel
    have hsi:=hbi.size
    have HBI:=hDD hbi
    have p0':=(hbi.cell (p:=⟨w.heap.size,0,none⟩) hl0).trans A0.out
    have p1':=(hbi.cell (p:=⟨w.heap.size,1,none⟩) hl0).trans A1.out
    have p2':=(hbi.cell (p:=⟨w.heap.size,2,none⟩) hl0).trans A2.out
    have p3':=(hbi.cell (p:=⟨w.heap.size+1,0,none⟩) hl1).trans B0.out
    have p4':=(hbi.cell (p:=⟨w.heap.size+1,1,none⟩) hl1).trans B1.out
    have p5':=(hbi.cell (p:=⟨w.heap.size+1,2,none⟩) hl1).trans B2.out
    by_cases hlt2:m<r
    ·have hmi:(m:Int)+1≤(r:Int):=by omega
     obtain⟨bo',offo',hbo',hbw,hck⟩:=HCP.out wr hbi
     obtain⟨rfl,rfl⟩:bo=bo'∧offo=offo':=by simpa using hbo'
     have ST:=hDD (cntE_succ a.2.2 b.2.2 B p m)
     have CL:=cntE_le a.2.2 b.2.2 B p m
     have PX:Hid ((pnx a.2.2 b.2.2 B p ((m:Int)+1)).isSome=(decide (0≤nextV a.2.2 un ((m:Int)+1))&&decide (0≤nextV b.2.2 vn ((m:Int)+1)))):=hDD (by
      unfold pnx
      rw[←HUN.out,←HVN.out]
      split
      ·rename_i hc
       simp[hc.1,hc.2]
      ·rename_i hc
       rcases Classical.em (0≤nextV a.2.2 un ((m:Int)+1)) with h1 | h1
       ·have h2: ¬0≤nextV b.2.2 vn ((m:Int)+1):=fun h=>hc ⟨h1,h⟩
        simp[h2]
       ·simp[h1])
     have HNA:=hDD (fun W h=>specNextVertex_any (.agg #[.int .i64 r, .int .i64 A, .slice Aa a.2.2.length capa]) a (un:Int) ((m:Int)+1) W h (ONEA.out (un:Int) _))
     have HNB:=hDD (fun W h=>specNextVertex_any (.agg #[.int .i64 r, .int .i64 B, .slice Ab b.2.2.length capb]) b (vn:Int) ((m:Int)+1) W h (ONEB.out (vn:Int) _))
     generalize nextV a.2.2 un ((m:Int)+1)=y1 at*
     generalize nextV b.2.2 vn ((m:Int)+1)=y2 at*
     generalize cntE a.2.2 b.2.2 B p m=cm at*
     clear hbo' hbi
     by_cases hy:0≤y1
     ·by_cases hz:0≤y2
      ·have F:Hid (cntE a.2.2 b.2.2 B p (m+1)=cm+1):=hDD (by rw[ST.out,PX.out];simp[hy,hz])
       go_wp2_with fail
       have f0:=BelW.cell p0' (show w.heap.size<wr.heap.size by omega)
       have f1:=BelW.cell p1' (show w.heap.size<wr.heap.size by omega)
       have f2:=BelW.cell p2' (show w.heap.size<wr.heap.size by omega)
       have f3:=BelW.cell p3' (show w.heap.size+1<wr.heap.size by omega)
       have f4:=BelW.cell p4' (show w.heap.size+1<wr.heap.size by omega)
       have f5:=BelW.cell p5' (show w.heap.size+1<wr.heap.size by omega)
       have f6:=BelW.cell hck hbw
       (refine wp_region_quiet_bel (by kernel_rfl) (by kernel_rfl) ?_;(repeat(go_big_quiet_step (first | (go_at_call 58;with_reducible exact Calls.bel_of (HNA.out _ (HAA.out _ (HBI.out.trans ((BelW.h _).mono (by omega)))))) | (go_at_call 58;with_reducible exact Calls.bel_of (HNB.out _ (HAB.out _ (HBI.out.trans ((BelW.h _).mono (by omega)))))))));refine wpQuiet_nil ?_;intro wq hw';obtain⟨pq,hw''⟩:=hw';have bq:=pq.h;rw[←hw''] at bq;clear hw'' pq)
       have HQ:=hDD (HBI.out.trans (bq.mono (by omega)))
       clear bq f0 f1 f2 f3 f4 f5 f6 p0' p1' p2' p3' p4' p5' hck
       go_wp2
       go_roundw
       case rel=>exact⟨m+1,by omega,by go_num,by rw[F.out];go_num,HQ.out⟩
       case measure=>simp[intOf];omega
      ·have F:Hid (cntE a.2.2 b.2.2 B p (m+1)=cm):=hDD (by rw[ST.out,PX.out];simp[hy,hz])
       go_wp2_with fail
       have f0:=BelW.cell p0' (show w.heap.size<wr.heap.size by omega)
       have f1:=BelW.cell p1' (show w.heap.size<wr.heap.size by omega)
       have f2:=BelW.cell p2' (show w.heap.size<wr.heap.size by omega)
       have f3:=BelW.cell p3' (show w.heap.size+1<wr.heap.size by omega)
       have f4:=BelW.cell p4' (show w.heap.size+1<wr.heap.size by omega)
       have f5:=BelW.cell p5' (show w.heap.size+1<wr.heap.size by omega)
       have f6:=BelW.cell hck hbw
       (refine wp_region_quiet_bel (by kernel_rfl) (by kernel_rfl) ?_;(repeat(go_big_quiet_step (first | (go_at_call 58;with_reducible exact Calls.bel_of (HNA.out _ (HAA.out _ (HBI.out.trans ((BelW.h _).mono (by omega)))))) | (go_at_call 58;with_reducible exact Calls.bel_of (HNB.out _ (HAB.out _ (HBI.out.trans ((BelW.h _).mono (by omega)))))))));refine wpQuiet_nil ?_;intro wq hw';obtain⟨pq,hw''⟩:=hw';have bq:=pq.h;rw[←hw''] at bq;clear hw'' pq)
       have HQ:=hDD (HBI.out.trans (bq.mono (by omega)))
       clear bq f0 f1 f2 f3 f4 f5 f6 p0' p1' p2' p3' p4' p5' hck
       go_wp2
       go_roundw
       case rel=>exact⟨m+1,by omega,by go_num,by rw[F.out];rfl,HQ.out⟩
       case measure=>simp[intOf];omega
     ·have F:Hid (cntE a.2.2 b.2.2 B p (m+1)=cm):=hDD (by rw[ST.out,PX.out];simp[hy])
      have hyd:decide (0≤y1)=false:=by simp;omega
      go_wp2_with fail
      have f0:=BelW.cell p0' (show w.heap.size<wr.heap.size by omega)
      have f1:=BelW.cell p1' (show w.heap.size<wr.heap.size by omega)
      have f2:=BelW.cell p2' (show w.heap.size<wr.heap.size by omega)
      have f3:=BelW.cell p3' (show w.heap.size+1<wr.heap.size by omega)
      have f4:=BelW.cell p4' (show w.heap.size+1<wr.heap.size by omega)
      have f5:=BelW.cell p5' (show w.heap.size+1<wr.heap.size by omega)
      have f6:=BelW.cell hck hbw
      (refine wp_region_quiet_bel (by kernel_rfl) (by kernel_rfl) ?_;(repeat(go_big_quiet_step (first | (go_at_call 58;with_reducible exact Calls.bel_of (HNA.out _ (HAA.out _ (HBI.out.trans ((BelW.h _).mono (by omega)))))) | (go_at_call 58;with_reducible exact Calls.bel_of (HNB.out _ (HAB.out _ (HBI.out.trans ((BelW.h _).mono (by omega)))))))));refine wpQuiet_nil ?_;intro wq hw';obtain⟨pq,hw''⟩:=hw';have bq:=pq.h;rw[←hw''] at bq;clear hw'' pq)
      have HQ:=hDD (HBI.out.trans (bq.mono (by omega)))
      clear bq f0 f1 f2 f3 f4 f5 f6 p0' p1' p2' p3' p4' p5' hck
      go_wp2
      go_roundw
      case rel=>exact⟨m+1,by omega,by go_num,by rw[F.out];rfl,HQ.out⟩
      case measure=>simp[intOf];omega
    ·obtain rfl:m=r:=by omega
     have CL:=cntE_le a.2.2 b.2.2 B p m
     have hni: ¬(m:Int)+1≤(m:Int):=by omega
     generalize hcm:cntE a.2.2 b.2.2 B p m=cm at*
     have HCM:=hDD hcm
     clear hcm hbi
     go_wp2
     go_roundw
     case rel=>exact⟨k+1,by omega,by go_num,by rw[HS.out],HBI.out⟩
     case measure=>simp[intOf];omega
  ·obtain rfl:k=o.length:=by omega
   have F:Hid (EE=edgL a.2.2 b.2.2 B r (o.take o.length)):=HEE
   clear hbel
   generalize edgL a.2.2 b.2.2 B r (o.take o.length)=E0 at*
   go_wp2
   exact bodyPost_ret (v:= .int .i64 (E0:Nat)) (by simp[results,Tryz.results53]) rfl ⟨by rw[F.out],BX.out.trans (HB2.out.mono (by omega))⟩
def peE (ea eb:List EdD) (B:Nat) (P:List Nat) (i:Nat) (x:Int):Option EdD:=(pnx ea eb B (P.getD i 0) x).map fun q=>((i:Int),x,((P.idxOf q:Nat):Int))
def peR (ea eb:List EdD) (B:Nat) (P:List Nat) (i m:Nat):List EdD:=(List.range m).filterMap fun (j:Nat)=>peE ea eb B P i ((j:Int)+1)
def peL (ea eb:List EdD) (B r:Nat) (P:List Nat) (n:Nat):List EdD:=(List.range n).flatMap fun i=>peR ea eb B P i r
theorem peR_succ (ea eb:List EdD) (B:Nat) (P:List Nat) (i m:Nat):peR ea eb B P i (m+1)=peR ea eb B P i m++(peE ea eb B P i ((m:Int)+1)).toList:=by
 unfold peR
 rw[List.range_succ,List.filterMap_append]
 congr 1
theorem peL_succ (ea eb:List EdD) (B r:Nat) (P:List Nat) (n:Nat):peL ea eb B r P (n+1)=peL ea eb B r P n++peR ea eb B P n r:=by
 unfold peL
 rw[List.range_succ,List.flatMap_append]
 simp
theorem srt_snoc {α:Type} (c:α→α→Int) (L:List α) (e:α):srt c (L++ [e])=insF c (srt c L) e:=by
 unfold srt
 rw[List.foldl_append]
 rfl
theorem peR_len (ea eb:List EdD) (B:Nat) (P:List Nat) (i m:Nat) (hi:i<P.length):(peR ea eb B P i m).length=cntE ea eb B P[i] m:=by
 induction m with
 | zero=>rfl
 | succ m ih=>
   rw[peR_succ,List.length_append,ih,cntE_succ]
   unfold peE
   rw[show P.getD i 0=P[i] by simp[hi]]
   cases pnx ea eb B P[i] ((m:Int)+1)<;>simp
theorem peL_len (ea eb:List EdD) (B r:Nat) (P:List Nat): ∀n,n≤P.length→(peL ea eb B r P n).length=edgL ea eb B r (P.take n)
 | 0,_=>by simp[peL,edgL]
 | n+1,h=>by
   rw[peL_succ,List.length_append,peL_len ea eb B r P n (by omega),edgL_succ _ _ _ _ _ _ (by omega),peR_len _ _ _ _ _ _ (by omega)]
theorem peR_le (ea eb:List EdD) (B:Nat) (P:List Nat) (i m:Nat):(peR ea eb B P i m).length≤m:=by
 unfold peR
 refine Nat.le_trans (List.length_filterMap_le _ _) ?_
 simp
theorem peL_le (ea eb:List EdD) (B r:Nat) (P:List Nat): ∀n,(peL ea eb B r P n).length≤n*r
 | 0=>by simp[peL]
 | n+1=>by
   rw[peL_succ,List.length_append,Nat.succ_mul]
   have:=peL_le ea eb B r P n
   have:=peR_le ea eb B P n r
   omega
theorem peR_mem {ea eb:List EdD} {B:Nat} {P:List Nat} {i m:Nat} {e:EdD}:e∈peR ea eb B P i m↔ ∃j,j<m∧peE ea eb B P i ((j:Int)+1)=some e:=by
 unfold peR
 rw[List.mem_filterMap]
 constructor
 ·rintro⟨j,hj,h⟩;exact⟨j,List.mem_range.1 hj,h⟩
 ·rintro⟨j,hj,h⟩;exact⟨j,List.mem_range.2 hj,h⟩
theorem peL_mem {ea eb:List EdD} {B r:Nat} {P:List Nat} {n:Nat} {e:EdD}:e∈peL ea eb B r P n↔ ∃i j,i<n∧j<r∧peE ea eb B P i ((j:Int)+1)=some e:=by
 unfold peL
 rw[List.mem_flatMap]
 constructor
 ·rintro⟨i,hi,h⟩
  obtain⟨j,hj,h⟩:=peR_mem.1 h
  exact⟨i,j,List.mem_range.1 hi,hj,h⟩
 ·rintro⟨i,j,hi,hj,h⟩
  exact⟨i,List.mem_range.2 hi,peR_mem.2 ⟨j,hj,h⟩⟩
theorem peE_parts {ea eb:List EdD} {B:Nat} {P:List Nat} {i:Nat} {x:Int} {e:EdD} (h:peE ea eb B P i x=some e): ∃q,pnx ea eb B (P.getD i 0) x=some q∧e=((i:Int),x,((P.idxOf q:Nat):Int)):=by
 unfold peE at h
 rw[Option.map_eq_some_iff] at h
 obtain⟨q,h1,h2⟩:=h
 exact⟨q,h1,h2.symm⟩
theorem peR_nodup (ea eb:List EdD) (B:Nat) (P:List Nat) (i m:Nat):(peR ea eb B P i m).Nodup:=by
 induction m with
 | zero=>exact List.nodup_nil
 | succ m ih=>
   rw[peR_succ,List.nodup_append]
   refine⟨ih,by cases peE ea eb B P i ((m:Int)+1)<;>simp,fun a ha b hb e=> ?_⟩
   subst e
   obtain⟨j,hj,h1⟩:=peR_mem.1 ha
   have h2:peE ea eb B P i ((m:Int)+1)=some a:=by simpa using hb
   obtain⟨q1,_,e1⟩:=peE_parts h1
   obtain⟨q2,_,e2⟩:=peE_parts h2
   rw[e1] at e2
   have:=congrArg (fun e:EdD=>e.2.1) e2
   simp only at this
   omega
theorem peL_nodup (ea eb:List EdD) (B r:Nat) (P:List Nat) (n:Nat):(peL ea eb B r P n).Nodup:=by
 induction n with
 | zero=>exact List.nodup_nil
 | succ n ih=>
   rw[peL_succ,List.nodup_append]
   refine⟨ih,peR_nodup _ _ _ _ _ _,fun a ha b hb e=> ?_⟩
   subst e
   obtain⟨i,j,hi,_,h1⟩:=peL_mem.1 ha
   obtain⟨j2,_,h2⟩:=peR_mem.1 hb
   obtain⟨q1,_,e1⟩:=peE_parts h1
   obtain⟨q2,_,e2⟩:=peE_parts h2
   rw[e1] at e2
   have:=congrArg (fun e:EdD=>e.1) e2
   simp only at this
   omega
def pbP (a b:GrD) (u v:Nat):List Nat:=prsL a b a.2.1.toNat b.2.1.toNat (lettersL a.1.toNat) (u*b.2.1.toNat+v)
def pbG (a b:GrD) (u v:Nat):GrD:=(a.1,((pbP a b u v).length:Int),srt cmpE (peL a.2.2 b.2.2 b.2.1.toNat a.1.toNat (pbP a b u v) (pbP a b u v).length))
def pbOk (a b:GrD) (u v:Nat):Bool:=decide ((pbP a b u v).length≤40)&&decide ((peL a.2.2 b.2.2 b.2.1.toNat a.1.toNat (pbP a b u v) (pbP a b u v).length).length≤120)
theorem two_fold {a b:GrD} (h1:foldB a=true) (h2:foldB b=true):Two a b a.2.1.toNat b.2.1.toNat:=by
 obtain⟨ga,fa⟩:=foldB_parts h1
 obtain⟨gb,fb⟩:=foldB_parts h2
 have s1:=(grB_parts ga).2.1
 have s2:=(grB_parts gb).2.1
 exact⟨ga,gb,fa,fb,by omega,by omega⟩
theorem pair_lt {A B u v:Nat} (hu:u<A) (hv:v<B):u*B+v<A*B:=by
 have:(u+1)*B≤A*B:=Nat.mul_le_mul_right _ hu
 rw[Nat.succ_mul] at this
 omega
theorem nodup_inj {α:Type} {l:List α} (h:l.Nodup) {i j:Nat} (hi:i<l.length) (hj:j<l.length) (e:l[i]=l[j]):i=j:=by
 have hp:=List.pairwise_iff_getElem.1 h
 rcases Nat.lt_trichotomy i j with q | q | q
 ·exact absurd e (hp i j hi hj q)
 ·exact q
 ·exact absurd e.symm (hp j i hj hi q)
section
variable {a b:GrD} {u v:Nat}
theorem pbP_facts (h1:foldB a=true) (h2:foldB b=true) (hu:(u:Int)<a.2.1) (hv:(v:Int)<b.2.1):(pbP a b u v).Nodup∧(∀q∈pbP a b u v,q<a.2.1.toNat*b.2.1.toNat)∧1≤(pbP a b u v).length∧(pbP a b u v).length≤1600∧
  ∀q∈pbP a b u v,∀x z,x∈lettersL a.1.toNat→pnx a.2.2 b.2.2 b.2.1.toNat q x=some z→z∈pbP a b u v:=by
 have h:=two_fold h1 h2
 have hb:=h.bd
 have hp:u*b.2.1.toNat+v<a.2.1.toNat*b.2.1.toNat:=pair_lt (by omega) (by omega)
 have hr:=(grB_parts h.ga).1
 have hlt: ∀q∈pbP a b u v,q<a.2.1.toNat*b.2.1.toNat:=prs_lt h hp
 have hnd:(pbP a b u v).Nodup:=prs_nodup _
 refine⟨hnd,hlt,?_,?_,prs_closed h (fun x hx=>(letters_ok (by omega) x hx).1) hp⟩
 ·have:u*b.2.1.toNat+v∈pbP a b u v:=prs_self h
  exact List.length_pos_of_mem this
 ·have:=nodup_lt hnd hlt
  have:=Nat.mul_le_mul hb.1.2 hb.2.2
  omega
theorem pe_range (h1:foldB a=true) (h2:foldB b=true) (hu:(u:Int)<a.2.1) (hv:(v:Int)<b.2.1) {e:EdD} (he:e∈peL a.2.2 b.2.2 b.2.1.toNat a.1.toNat (pbP a b u v) (pbP a b u v).length):
  (0≤e.1∧e.1<(pbP a b u v).length)∧(1≤e.2.1∧e.2.1≤a.1)∧(0≤e.2.2∧e.2.2<(pbP a b u v).length):=by
 obtain⟨f1,f2,f3,f4,f5⟩:=pbP_facts h1 h2 hu hv
 have hr:=(grB_parts (foldB_parts h1).1).1
 obtain⟨i,j,hi,hj,hp⟩:=peL_mem.1 he
 obtain⟨q,hq,rfl⟩:=peE_parts hp
 rw[show(pbP a b u v).getD i 0=(pbP a b u v)[i] by simp[hi]] at hq
 have hm:=f5 _ (List.getElem_mem hi) _ q (letters_mem.2 (.inl ⟨by omega,by omega⟩)) hq
 have:=List.idxOf_lt_length_of_mem hm
 simp only
 omega
theorem pbG_fold (h1:foldB a=true) (h2:foldB b=true) (hu:(u:Int)<a.2.1) (hv:(v:Int)<b.2.1) (hok:pbOk a b u v=true):foldB (pbG a b u v)=true:=by
 obtain⟨f1,f2,f3,f4,f5⟩:=pbP_facts h1 h2 hu hv
 have hr:=(grB_parts (foldB_parts h1).1).1
 have htw:=two_fold h1 h2
 unfold pbOk at hok
 rw[Bool.and_eq_true,decide_eq_true_eq,decide_eq_true_eq] at hok
 have hsp:=srt_spec cmpE_ord (peL a.2.2 b.2.2 b.2.1.toNat a.1.toNat (pbP a b u v) (pbP a b u v).length)
 have hg:grB (pbG a b u v)=true:=by
  refine grB_of hr ⟨by show(1:Int)≤((pbP a b u v).length:Int);omega,by show((pbP a b u v).length:Int)≤40;omega⟩ ?_ hsp.1 (fun e he=>pe_range h1 h2 hu hv ((hsp.2 e).1 he))
  refine Nat.le_trans (srt_len _) hok.2
 unfold foldB
 rw[hg,Bool.true_and,decide_eq_true_eq]
 unfold Fol
 refine hsp.1.imp_of_mem fun {x y} hx hy hxy=> ?_
 have hne:x≠y:=fun e=>by
  rw[e,cmpE_zero.2 rfl] at hxy
  omega
 obtain⟨i,j,hi,hj,hp⟩:=peL_mem.1 ((hsp.2 x).1 hx)
 obtain⟨i2,j2,hi2,hj2,hp2⟩:=peL_mem.1 ((hsp.2 y).1 hy)
 have hxe:=hp
 have hye:=hp2
 obtain⟨q,hq,rfl⟩:=peE_parts hp
 obtain⟨q2,hq2,rfl⟩:=peE_parts hp2
 rw[show(pbP a b u v).getD i 0=(pbP a b u v)[i] by simp[hi]] at hq
 rw[show(pbP a b u v).getD i2 0=(pbP a b u v)[i2] by simp[hi2]] at hq2
 rw[Bool.eq_false_iff]
 intro hc
 unfold clash at hc
 simp only[Bool.and_eq_true,Bool.or_eq_true,beq_iff_eq] at hc
 obtain⟨hl,hor⟩:=hc
 have hjj:j=j2:=by omega
 subst hjj
 rcases hor with hor | hor
 ·have:i=i2:=by omega
  subst this
  rw[hxe] at hye
  injection hye with hye
  exact hne hye
 ·have hm:=f5 _ (List.getElem_mem hi) _ q (letters_mem.2 (.inl ⟨by omega,by omega⟩)) hq
  have hm2:=f5 _ (List.getElem_mem hi2) _ q2 (letters_mem.2 (.inl ⟨by omega,by omega⟩)) hq2
  have hqq:q=q2:=by
   have e1:=List.getElem_idxOf (List.idxOf_lt_length_of_mem hm)
   have e2:=List.getElem_idxOf (List.idxOf_lt_length_of_mem hm2)
   have e3:(pbP a b u v).idxOf q=(pbP a b u v).idxOf q2:=by omega
   rw[←e1,←e2]
   simp only[e3]
  subst hqq
  have b1:=pnx_back htw (by omega) hq
  have b2:=pnx_back htw (by omega) hq2
  rw[b1] at b2
  injection b2 with b2
  have:=nodup_inj f1 hi hi2 b2
  subst this
  rw[hxe] at hye
  injection hye with hye
  exact hne hye
theorem pbG_len (h1:foldB a=true) (h2:foldB b=true):(peL a.2.2 b.2.2 b.2.1.toNat a.1.toNat (pbP a b u v) (pbP a b u v).length).length=edgL a.2.2 b.2.2 b.2.1.toNat a.1.toNat (pbP a b u v):=by
 rw[peL_len _ _ _ _ _ _ (Nat.le_refl _),List.take_length]
end
def pbRes (a b:GrD) (u v:Nat):GrD×Bool:=if a.1=b.1∧pbOk a b u v=true then(pbG a b u v,true) else((0,0,[]),false)
theorem GBx.put {w:World} {p base base':Nat} {A A':Option Addr} {c c':Nat} {g:GrD} {ms:List EdD} (h:GBx w p base A c g) (o:OwE w base' (.slice A' ms.length c') ms) (hn: ∀b,(Value.slice A' ms.length c').ownBlock=some b→b≠p):
  GBx (w.setCell ⟨p,2,none⟩ (.slice A' ms.length c')) p base' A' c' (g.1,g.2.1,ms):=by
 refine⟨(World.cell?_setCell_other _ _ _ _ (by simp)).trans h.c0,(World.cell?_setCell_other _ _ _ _ (by simp)).trans h.c1,World.cell?_setCell_same _ _ _ h.c2,fun j=>by rw[World.frozen?_setCell];exact h.fz j,?_,hn,h.i1,h.i2,by simpa using h.lt⟩
 exact o.keep fun b hb=>Below.heap_setCell _ _ _ b (hn b hb)
def pkL (base:List EdD) (e:Option EdD) (j K:Nat):List EdD:=match e with
 | some e=>if j<K then srt cmpE (base++ [e]) else srt cmpE base
 | none=>srt cmpE base
theorem pkL_len (base:List EdD) (e:Option EdD) (j K:Nat):(pkL base e j K).length≤base.length+1:=by
 unfold pkL
 have h1:=srt_len (c:=cmpE) base
 cases e with
 | none=>simp only;omega
 | some e=>
   simp only
   split
   ·have:=srt_len (c:=cmpE) (base++ [e]);simp at this;omega
   ·omega
set_option maxHeartbeats 4000000 in
theorem specPullbackAt_any (va vb:Value) (a b:GrD) (u v:Nat) (w:World) (ha:ArgG w va a) (hb:ArgG w vb b) (hfa:foldB a=true) (hfb:foldB b=true) (hu:(u:Int)<a.2.1) (hv:(v:Int)<b.2.1):
  Calls Tryz.prog 29 #[va,vb, .int .i64 (u:Int), .int .i64 (v:Int)] w fun e w'=> ∃r,e= .returned (.tuple #[r, .bool (pbRes a b u v).2])∧OwG w' w.heap.size r (pbRes a b u v).1∧Below w.heap.size w w':=by
 have HGA:=hDD ha
 have HGB:=hDD hb
 have HFA:=hDD hfa
 have HFB:=hDD hfb
 have htw:=two_fold hfa hfb
 have hbd:=htw.bd
 have hr13:=(grB_parts htw.ga).1
 obtain⟨pn,pl,p1,p1600,pcl⟩:=pbP_facts hfa hfb hu hv
 have HR0:Hid (a.1≠b.1→pbRes a b u v=((0,0,[]),false)):=hDD fun h=>by unfold pbRes;rw[if_neg fun q=>h q.1]
 have HR1:Hid (pbOk a b u v=false→pbRes a b u v=((0,0,[]),false)):=hDD fun h=>by unfold pbRes;rw[if_neg fun q=>by rw[h] at q;exact absurd q.2 (by decide)]
 have HR2:Hid (a.1=b.1→pbOk a b u v=true→pbRes a b u v=(pbG a b u v,true)):=hDD fun h1 h2=>by unfold pbRes;rw[if_pos ⟨h1,h2⟩]
 have HPG:Hid (pbG a b u v=(a.1,((pbP a b u v).length:Int),srt cmpE (peL a.2.2 b.2.2 b.2.1.toNat a.1.toNat (pbP a b u v) (pbP a b u v).length))):=hDD rfl
 have HPO:Hid (pbOk a b u v=(decide ((pbP a b u v).length≤40)&&decide (edgL a.2.2 b.2.2 b.2.1.toNat a.1.toNat (pbP a b u v)≤120))):=hDD (by unfold pbOk;rw[pbG_len hfa hfb])
 have HPP:Hid (pbP a b u v=prsL a b a.2.1.toNat b.2.1.toNat (lettersL a.1.toNat) (u*b.2.1.toNat+v)):=hDD rfl
 have HEL:Hid (∀n,(peL a.2.2 b.2.2 b.2.1.toNat a.1.toNat (pbP a b u v) n).length≤n*a.1.toNat):=hDD fun n=>peL_le _ _ _ _ _ n
 have hin1:inB (u:Int) 0 (a.2.1-1)=true:=inB_iff.2 ⟨by omega,by omega⟩
 have hin2:inB (v:Int) 0 (b.2.1-1)=true:=inB_iff.2 ⟨by omega,by omega⟩
 have HI1:=hDD hin1
 have HI2:=hDD hin2
 generalize pbRes a b u v=RES at*
 generalize pbG a b u v=PG at*
 generalize pbOk a b u v=PO at*
 generalize pbP a b u v=P at*
 have HTW:=hDD htw
 have HPL:=hDD pl
 have HPN:=hDD pn
 have HPC:=hDD pcl
 have OA:=hDD (steps_one htw.fa)
 have OB:=hDD (steps_one htw.fb)
 have HNA:=hDD (nextV_range htw.ga)
 have HNB:=hDD (nextV_range htw.gb)
 obtain⟨sa,rfl,hai1,hai2,haa⟩:=ha
 obtain⟨A,ca,rfl⟩:=haa.form
 obtain⟨sb,rfl,hbi1,hbi2,hbb⟩:=hb
 obtain⟨B,cb,rfl⟩:=hbb.form
 obtain⟨a1,a2,as'⟩:=a
 obtain⟨b1,b2,bs⟩:=b
 obtain⟨rn,rfl⟩: ∃rn:Nat,a1=(rn:Int):=⟨a1.toNat,by simp only at hr13;omega⟩
 obtain⟨na,rfl⟩: ∃n:Nat,a2=(n:Int):=⟨a2.toNat,by have:=htw.sa;simp only at this;omega⟩
 obtain⟨nb,rfl⟩: ∃n:Nat,b2=(n:Int):=⟨b2.toNat,by have:=htw.sb;simp only at this;omega⟩
 simp only[Int.toNat_natCast] at*
 clear haa hbb hfa hfb htw pl pn pcl hin1 hin2
 have hwa:wrap64 ((na:Int)-1)=(na:Int)-1:=IntWalk.wrap64_in _ ⟨by omega,by omega⟩
 have hwb:wrap64 ((nb:Int)-1)=(nb:Int)-1:=IntWalk.wrap64_in _ ⟨by omega,by omega⟩
 go_enter Tryz.func29,Tryz.ntmps29
 go_wp2_with fail
 obtain⟨W1,hW1⟩: ∃W,W=w.alloc (Obj.cells #[Value.int IntKind.i64 (rn:Int),Value.int IntKind.i64 (na:Int), .slice A as'.length ca] 31):=⟨_,rfl⟩
 rw[←hW1]
 obtain⟨x1,bx1,s1⟩:=CBx.new hW1
 obtain⟨W2,hW2⟩: ∃W,W=W1.alloc (Obj.cells #[Value.int IntKind.i64 b1,Value.int IntKind.i64 (nb:Int), .slice B bs.length cb] 31):=⟨_,rfl⟩
 rw[←hW2]
 obtain⟨x2,bx2,s2⟩:=CBx.new hW2
 obtain⟨W,hW⟩: ∃W,W=W2.alloc (Obj.cells #[Value.int IntKind.i64 0,Value.int IntKind.i64 0, .slice none 0 0] 31):=⟨_,rfl⟩
 rw[←hW]
 obtain⟨x3,bx3,s3⟩:=CBx.new hW
 have XA:=hDD ((x1.below bx2).below bx3)
 have XB:=hDD (x2.below bx3)
 have XR:=hDD x3
 rw[s1] at XB
 rw[s2,s1] at XR
 have BX:Hid (Below w.heap.size w W):=hDD (bx1.trans ((bx2.trans (bx3.mono (by omega))).mono (by omega)))
 have hsW:W.heap.size=w.heap.size+3:=by omega
 clear hW hW1 hW2 bx1 bx2 bx3 x1 x2 x3 s1 s2 s3
 have HA:Hid (∀w',Below W.heap.size W w'→ArgG w' (.agg #[.int .i64 (rn:Int), .int .i64 (na:Int), .slice A as'.length ca]) ((rn:Int),(na:Int),as')):=hDD fun w' hb=>HGA.out.below (BX.out.trans (hb.mono (by omega)))
 have HB:Hid (∀w',Below W.heap.size W w'→ArgG w' (.agg #[.int .i64 b1, .int .i64 (nb:Int), .slice B bs.length cb]) (b1,(nb:Int),bs)):=hDD fun w' hb=>HGB.out.below (BX.out.trans (hb.mono (by omega)))
 have h1:=specIsFolded_any _ ((rn:Int),(na:Int),as') W (HA.out W (Below.refl _ _))
 rw[HFA.out] at h1
 refine h1.mono ?_
 clear h1
 rintro e w1 ⟨rfl,b1'⟩
 have B1:=hDD b1'
 have u0:=(XB.out.below b1').c0
 have u1:=(XB.out.below b1').c1
 have u2:=(XB.out.below b1').c2
 have hw1:=b1'.size
 have hl1:w.heap.size+1<w1.heap.size:=by omega
 clear b1'
 go_wp2_with fail
 have h1:=specIsFolded_any _ (b1,(nb:Int),bs) w1 (HB.out w1 B1.out)
 rw[HFB.out] at h1
 refine h1.mono ?_
 clear h1 u0 u1 u2
 rintro e w2 ⟨rfl,b2'⟩
 have B2:=hDD (B1.out.trans (b2'.mono B1.out.size))
 have hw2:=b2'.size
 clear b2'
 have u0:=(XA.out.below B2.out).c0
 have u1:=(XA.out.below B2.out).c1
 have u2:=(XA.out.below B2.out).c2
 have v0:=(XB.out.below B2.out).c0
 have v1:=(XB.out.below B2.out).c1
 have v2:=(XB.out.below B2.out).c2
 have z0:=(XR.out.below B2.out).c0
 have z1:=(XR.out.below B2.out).c1
 have z2:=(XR.out.below B2.out).c2
 have zf0:=(XR.out.below B2.out).fz 0
 have zf1:=(XR.out.below B2.out).fz 1
 have zf2:=(XR.out.below B2.out).fz 2
 have hla:w.heap.size<w2.heap.size:=by omega
 have hlb:w.heap.size+1<w2.heap.size:=by omega
 have hlc:w.heap.size+1+1<w2.heap.size:=by omega
 rcases er:((rn:Int) != b1) with _ | _
 rotate_left
 ·have hrb:(rn:Int)≠b1:=by simpa using er
  have F:=hDD (HR0.out hrb)
  have HBF:=hDD (BX.out.trans (B2.out.mono (by omega)))
  go_wp2
  obtain⟨e0,e1,e2⟩:=cells3F (.int .i64 0) (.int .i64 0) (.slice none 0 0) z0 z1 z2
  have bw:Below w.heap.size w (((w2.setCell ⟨w.heap.size+1+1,0,none⟩ (.int .i64 0)).setCell ⟨w.heap.size+1+1,1,none⟩ (.int .i64 0)).setCell ⟨w.heap.size+1+1,2,none⟩ (.slice none 0 0)):=set3_below _ _ _ HBF.out (by omega)
  generalize (((w2.setCell ⟨w.heap.size+1+1,0,none⟩ (.int .i64 0)).setCell ⟨w.heap.size+1+1,1,none⟩ (.int .i64 0)).setCell ⟨w.heap.size+1+1,2,none⟩ (.slice none 0 0))=wf at*
  rw[F.out]
  exact bodyPost_ret (v:= .tuple #[.agg #[.int .i64 0, .int .i64 0, .slice none 0 0], .bool false]) (by simp[results,Tryz.results29,go_sem,e0,e1,e2]) rfl ⟨_,rfl,⟨.slice none 0 0,rfl,⟨by decide,by decide⟩,⟨by decide,by decide⟩,OwE.nil⟩,bw⟩
 have hrb:(rn:Int)=b1:=by simpa using er
 subst hrb
 have hw1':IntKind.i64.wrap ((na:Int)-1)=(na:Int)-1:=by rw[IntKind.wrap_i64];omega
 have hw2':IntKind.i64.wrap ((nb:Int)-1)=(nb:Int)-1:=by rw[IntKind.wrap_i64];omega
 have HR2b:Hid (PO=true→RES=(PG,true)):=hDD fun h=>HR2.out rfl h
 clear er HR0 HR2 z0 z1 z2 zf0 zf1 zf2
 go_wp2_with (go_at_call 57;refine(l1In_any _ _ _ _).mono ?_;rintro e w' ⟨rfl,rfl⟩;first | rw[HI1.out] | rw[HI2.out])
 have hp0:u*nb+v<na*nb:=pair_lt (by omega) (by omega)
 have hpl:=l14Pairs_any _ _ _ _ na nb rn (u*nb+v) u v w2 (HA.out w2 B2.out) (HB.out w2 B2.out) HTW.out rfl rfl hp0 rfl
 rw[←HPP.out] at hpl
 refine hpl.mono ?_
 clear hpl hp0 u0 u1 u2 v0 v1 v2
 rintro e w3 ⟨sP,rfl,oP,b3'⟩
 have B3:=hDD (B2.out.trans (b3'.mono B2.out.size))
 have hw3:=b3'.size
 obtain⟨AP,cP,rfl,hcP,hmP,_,hfP⟩:=oP.form
 obtain⟨bP,rfl,hbP1,hbP2⟩:=hfP (by rw[ns_len];omega)
 have OP:=hDD oP
 clear b3' oP hfP
 have u0:=(XA.out.below B3.out).c0
 have u1:=(XA.out.below B3.out).c1
 have u2:=(XA.out.below B3.out).c2
 have v0:=(XB.out.below B3.out).c0
 have v1:=(XB.out.below B3.out).c1
 have v2:=(XB.out.below B3.out).c2
 have hla3:w.heap.size<w3.heap.size:=by omega
 have hlb3:w.heap.size+1<w3.heap.size:=by omega
 go_wp2_with fail
 refine(l14Edges_any _ _ _ _ _ na nb rn P w3 (HA.out w3 B3.out) (HB.out w3 B3.out) OP.out.rd HTW.out rfl rfl HPL.out p1600).mono ?_
 rintro e w4 ⟨rfl,b4'⟩
 have B4:=hDD (B3.out.trans (b4'.mono B3.out.size))
 have hw4:=b4'.size
 have OP4:=hDD (OP.out.below b4')
 clear b4' u0 u1 u2 v0 v1 v2
 have hE:=edgL_le as' bs nb rn (by omega) P
 obtain⟨np,hnp⟩: ∃np,np=P.length:=⟨_,rfl⟩
 have HNP:=hDD hnp
 have hnsl:(ns P).length=np:=by rw[ns_len,hnp]
 have hcP2:np≤cP:=by rw[←hnsl];exact hcP
 obtain⟨NS,hNS⟩: ∃NS,NS=ns P:=⟨_,rfl⟩
 rw[←hNS] at hnsl OP OP4⊢
 have HNS:Hid (∀(k:Nat) (hk:k<P.length),∃hk2:k<NS.length,NS[k]=((P[k]:Nat):Int)):=hDD fun k hk=>⟨by omega,by simp only[hNS];exact ns_get P k hk⟩
 have HEL2:Hid (∀i,(peL as' bs nb rn P i).length≤i*rn):=HEL
 rw[←hnp] at HPO HPG p1 p1600 hE
 obtain⟨EL,hEL⟩: ∃EL,edgL as' bs nb rn P=EL:=⟨_,rfl⟩
 have hEL':edgL ((rn:Int),(na:Int),as').2.2 ((rn:Int),(nb:Int),bs).2.2 nb rn P=EL:=hEL
 rw[hEL']
 have HPO2:Hid (PO=(decide (np≤40)&&decide (EL≤120))):=hDD (by rw[←hEL];exact HPO.out)
 clear HPO
 have HPO:=HPO2
 rw[hEL] at hE
 clear hEL hEL' HPO2
 rw[hnsl]
 clear hcP
 have u0:=(XA.out.below B4.out).c0
 have u1:=(XA.out.below B4.out).c1
 have u2:=(XA.out.below B4.out).c2
 have v0:=(XB.out.below B4.out).c0
 have v1:=(XB.out.below B4.out).c1
 have v2:=(XB.out.below B4.out).c2
 have z0:=(XR.out.below B4.out).c0
 have z1:=(XR.out.below B4.out).c1
 have z2:=(XR.out.below B4.out).c2
 have zf0:=(XR.out.below B4.out).fz 0
 have zf1:=(XR.out.below B4.out).fz 1
 have zf2:=(XR.out.below B4.out).fz 2
 have hla4:w.heap.size<w4.heap.size:=by omega
 have hlb4:w.heap.size+1<w4.heap.size:=by omega
 have hlc4:w.heap.size+1+1<w4.heap.size:=by omega
 have HLN:Hid (NS.length=np):=hDD hnsl
 clear hNS hnp hnsl
 rcases el:decide (40<np) with _ | _
 rotate_left
 ·have h40:40<np:=by simpa using el
  have h40I:(40:Int)<(np:Int):=by omega
  have F:=hDD (HR1.out (by rw[HPO.out,decide_eq_false (by omega: ¬np≤40)];rfl))
  have HBF:=hDD (BX.out.trans (B4.out.mono (by omega)))
  go_wp2
  obtain⟨e0,e1,e2⟩:=cells3F (.int .i64 0) (.int .i64 0) (.slice none 0 0) z0 z1 z2
  have bw:Below w.heap.size w (((w4.setCell ⟨w.heap.size+1+1,0,none⟩ (.int .i64 0)).setCell ⟨w.heap.size+1+1,1,none⟩ (.int .i64 0)).setCell ⟨w.heap.size+1+1,2,none⟩ (.slice none 0 0)):=set3_below _ _ _ HBF.out (by omega)
  generalize (((w4.setCell ⟨w.heap.size+1+1,0,none⟩ (.int .i64 0)).setCell ⟨w.heap.size+1+1,1,none⟩ (.int .i64 0)).setCell ⟨w.heap.size+1+1,2,none⟩ (.slice none 0 0))=wf at*
  rw[F.out]
  exact bodyPost_ret (v:= .tuple #[.agg #[.int .i64 0, .int .i64 0, .slice none 0 0], .bool false]) (by simp[results,Tryz.results29,go_sem,e0,e1,e2]) rfl ⟨_,rfl,⟨.slice none 0 0,rfl,⟨by decide,by decide⟩,⟨by decide,by decide⟩,OwE.nil⟩,bw⟩
 have h40:np≤40:=by simp at el;omega
 have h40I: ¬(40:Int)<(np:Int):=by omega
 rcases ee:decide (120<EL) with _ | _
 rotate_left
 ·have h120:120<EL:=by simpa using ee
  have h120I:(120:Int)<(EL:Int):=by omega
  have F:=hDD (HR1.out (by rw[HPO.out,decide_eq_false (by omega: ¬EL≤120),Bool.and_false]))
  clear el ee h40 h120 hE p1600
  have HBF:=hDD (BX.out.trans (B4.out.mono (by omega)))
  go_wp2
  obtain⟨e0,e1,e2⟩:=cells3F (.int .i64 0) (.int .i64 0) (.slice none 0 0) z0 z1 z2
  have bw:Below w.heap.size w (((w4.setCell ⟨w.heap.size+1+1,0,none⟩ (.int .i64 0)).setCell ⟨w.heap.size+1+1,1,none⟩ (.int .i64 0)).setCell ⟨w.heap.size+1+1,2,none⟩ (.slice none 0 0)):=set3_below _ _ _ HBF.out (by omega)
  generalize (((w4.setCell ⟨w.heap.size+1+1,0,none⟩ (.int .i64 0)).setCell ⟨w.heap.size+1+1,1,none⟩ (.int .i64 0)).setCell ⟨w.heap.size+1+1,2,none⟩ (.slice none 0 0))=wf at*
  rw[F.out]
  exact bodyPost_ret (v:= .tuple #[.agg #[.int .i64 0, .int .i64 0, .slice none 0 0], .bool false]) (by simp[results,Tryz.results29,go_sem,e0,e1,e2]) rfl ⟨_,rfl,⟨.slice none 0 0,rfl,⟨by decide,by decide⟩,⟨by decide,by decide⟩,OwE.nil⟩,bw⟩
 have h120:EL≤120:=by simp at ee;omega
 have h120I: ¬(120:Int)<(EL:Int):=by omega
 have HRS:=hDD (HR2b.out (by rw[HPO.out,decide_eq_true h40,decide_eq_true h120];rfl))
 clear el ee z0 z1 z2 zf0 zf1 zf2
 have hn1:1≤np:=p1
 go_wp2
 obtain⟨w5,hw5⟩: ∃W,W=w4.alloc (Obj.cells #[Value.int IntKind.i64 (rn:Int),Value.int IntKind.i64 (np:Int), .slice none 0 0] 31):=⟨_,rfl⟩
 have GB5:=hDD (GBx.new (m:=((rn:Int),(np:Int),[])) (base:=w.heap.size+3) (A:=none) (c:=0) OwE.nil (by unfold I64;simp only;omega) (by unfold I64;simp only;omega) hw5)
 obtain⟨_,b5',hw5s⟩:=CBx.new hw5
 rw[←hw5]
 obtain⟨p,hp⟩: ∃p,p=w4.heap.size:=⟨_,rfl⟩
 rw[←hp] at GB5⊢
 have B5:Hid (Below p w4 w5):=hDD (by rw[hp];exact b5')
 have hpW:W.heap.size≤p:=by have:=B4.out.size;omega
 have hp3:w.heap.size+3≤p:=by omega
 have HAw:Hid (∀w',Below p w4 w'→Below W.heap.size W w'):=hDD fun w' hb=>B4.out.trans (hb.mono (by omega))
 have HXA:Hid (∀w',Below p w4 w'→CBx w' w.heap.size (.int .i64 (rn:Int)) (.int .i64 (na:Int)) (.slice A as'.length ca)∧CBx w' (w.heap.size+1) (.int .i64 (rn:Int)) (.int .i64 (nb:Int)) (.slice B bs.length cb)):=hDD fun w' hb=>⟨XA.out.below (HAw.out w' hb),XB.out.below (HAw.out w' hb)⟩
 have HPW:Hid (∀w',Below p w4 w'→OwI w' w2.heap.size (.slice (some ⟨bP,0,none⟩) NS.length cP) NS):=hDD fun w' hb=>OP4.out.keepB fun b hb'=>hb.block b (by have:=(OP4.out.1.lt b hb').2;omega)
 have hbPp:bP<p:=by omega
 clear hw5 hp b5' u0 u1 u2 v0 v1 v2
 go_loopw [13] (fun i wr=> ∃(k:Nat) (A2:Option Addr) (c2:Nat),k≤np∧i= .int .i64 k∧GBx wr p (w.heap.size+3) A2 c2 ((rn:Int),(np:Int),srt cmpE (peL as' bs nb rn P k))∧Below p w4 wr) (fun i _=>np-(intOf i).toNat)
 case atStart=>exact⟨0,none,0,Nat.zero_le _,rfl,GB5.out,B5.out⟩
 case round=>
  obtain⟨k,A2,c2,hk,rfl,hgb,hbr⟩:=hrel
  obtain⟨wk,rfl⟩: ∃wk:World,wk=wr:=⟨_,rfl⟩
  have HGBk:=hDD hgb
  have HBR:=hDD hbr
  clear hgb hbr
  by_cases hlt:k<np
  ·have hpn:=HPL.out _ (List.getElem_mem (by have:=HNP.out;omega:k<P.length))
   obtain⟨pk,hpk⟩: ∃pk,P[k]'(by have:=HNP.out;omega)=pk:=⟨_,rfl⟩
   have HPK:=hDD hpk
   have HPG2:Hid (P.getD k 0=pk):=hDD (by rw[←hpk];simp[show k<P.length by have:=HNP.out;omega])
   have HNK:Hid (∃hk2:k<NS.length,NS[k]=(pk:Int)):=hDD (by
    obtain⟨h1,h2⟩:=HNS.out k (by have:=HNP.out;omega)
    exact⟨h1,by rw[h2,hpk]⟩)
   rw[hpk] at hpn
   have hnn:na*nb≤1600:=Nat.mul_le_mul hbd.1.2 hbd.2.2
   obtain⟨un,hun⟩: ∃un,un=pk/nb:=⟨_,rfl⟩
   obtain⟨vn,hvn⟩: ∃vn,vn=pk%nb:=⟨_,rfl⟩
   have HUN:=hDD hun
   have HVN:=hDD hvn
   have hun2:un≤1600:=by rw[hun];exact Nat.le_trans (Nat.div_le_self _ _) (by omega)
   have hdiv:wrap64 ((pk:Int)/(nb:Int))=(un:Int):=by
    have:(pk:Int)/(nb:Int)=(un:Int):=by rw[hun];rfl
    rw[this]
    exact IntWalk.wrap64_in _ ⟨by omega,by omega⟩
   have hmod:(pk:Int)%(nb:Int)=(vn:Int):=by rw[hvn];rfl
   have HDV:=hDD hdiv
   have HMD:=hDD hmod
   clear hdiv hmod
   have HBL:Hid ((peL as' bs nb rn P k).length≤4800):=hDD (by
    have h1:=HEL2.out k
    have h2:=Nat.mul_le_mul (show k≤1600 by omega) (show rn≤3 by omega)
    omega)
   have HLS:=hDD (peL_succ as' bs nb rn P k)
   obtain⟨BL,hBL⟩: ∃L,peL as' bs nb rn P k=L:=⟨_,rfl⟩
   rw[hBL] at HBL HLS HGBk
   clear hBL hun hvn hpk
   go_wp2
   go_loopw [14] (fun x wr=> ∃(m:Nat) (A2:Option Addr) (c2:Nat),m≤rn∧x= .int .i64 ((m:Int)+1)∧GBx wr p (w.heap.size+3) A2 c2 ((rn:Int),(np:Int),srt cmpE (BL++peR as' bs nb P k m))∧Below p w4 wr) (fun x _=>rn+1-(intOf x).toNat)
   case atStart=>exact⟨0,A2,c2,Nat.zero_le _,rfl,by simpa[peR] using HGBk.out,HBR.out⟩
   case round=>
    obtain⟨m,A2,c2,hm,rfl,hgb,hbr⟩:=hrel
    obtain⟨wm,rfl⟩: ∃wm:World,wm=wr:=⟨_,rfl⟩
    have HGBm:=hDD hgb
    have HBM:=hDD hbr
    have hsm:=hbr.size
    have p0':=(HXA.out wm hbr).1.c0
    have p1':=(HXA.out wm hbr).1.c1
    have p2':=(HXA.out wm hbr).1.c2
    have p3':=(HXA.out wm hbr).2.c0
    have p4':=(HXA.out wm hbr).2.c1
    have p5':=(HXA.out wm hbr).2.c2
    obtain⟨hk2,hnk⟩:=HNK.out
    have hck:=(HPW.out wm hbr).cellAt k hk2
    rw[hnk] at hck
    have hpl:=hgb.lt
    clear hgb hbr hnk
    by_cases hlt2:m<rn
    ·have hmi:(m:Int)+1≤(rn:Int):=by omega
     have HRS2:=hDD (peR_succ as' bs nb P k m)
     have HRL:=peR_le as' bs nb P k m
     have HPE:Hid (peE as' bs nb P k ((m:Int)+1)=(pnx as' bs nb pk ((m:Int)+1)).map fun q=>((k:Int),(m:Int)+1,((P.idxOf q:Nat):Int))):=hDD (by unfold peE;rw[HPG2.out])
     have HPX:Hid (pnx as' bs nb pk ((m:Int)+1)=if 0≤nextV as' (un:Int) ((m:Int)+1)∧0≤nextV bs (vn:Int) ((m:Int)+1) then some ((nextV as' (un:Int) ((m:Int)+1)).toNat*nb+(nextV bs (vn:Int) ((m:Int)+1)).toNat) else none):=hDD (by unfold pnx;rw[←HUN.out,←HVN.out])
     have HQM:Hid (∀q,pnx as' bs nb pk ((m:Int)+1)=some q→q∈P):=hDD fun q hq=>HPC.out pk (by rw[←HPK.out];exact List.getElem_mem _) _ q (letters_mem.2 (.inl ⟨by omega,by omega⟩)) hq
     have HNA2:=hDD (fun W h=>specNextVertex_any (.agg #[.int .i64 (rn:Int), .int .i64 (na:Int), .slice A as'.length ca]) ((rn:Int),(na:Int),as') (un:Int) ((m:Int)+1) W h (OA.out (un:Int) _))
     have HNB2:=hDD (fun W h=>specNextVertex_any (.agg #[.int .i64 (rn:Int), .int .i64 (nb:Int), .slice B bs.length cb]) ((rn:Int),(nb:Int),bs) (vn:Int) ((m:Int)+1) W h (OB.out (vn:Int) _))
     have HY1:=hDD (HNA.out (un:Int) ((m:Int)+1))
     have HY2:=hDD (HNB.out (vn:Int) ((m:Int)+1))
     have g0:w.heap.size<wm.heap.size:=by omega
     have g1:w.heap.size+1<wm.heap.size:=by omega
     have g2:bP<wm.heap.size:=by omega
     have hdiv:=HDV.out
     have hmod:=HMD.out
     go_wp2_with fail
     have f0:=BelW.cell p0' g0
     have f1:=BelW.cell p1' g0
     have f2:=BelW.cell p2' g0
     have f3:=BelW.cell p3' g1
     have f4:=BelW.cell p4' g1
     have f5:=BelW.cell p5' g1
     have f6:=BelW.cell hck g2
     (refine wp_region_quiet_bel (by kernel_rfl) (by kernel_rfl) ?_;(repeat(go_big_quiet_step (first | (go_at_call 58;with_reducible exact Calls.bel_of (HNA2.out _ (HA.out _ (HAw.out _ (HBM.out.trans ((BelW.h _).mono (Nat.le_of_lt hpl))))))))));refine wpQuiet_nil ?_;intro wq hw';obtain⟨pq,hw''⟩:=hw';have bq:=pq.h;rw[←hw''] at bq;clear hw'' pq)
     clear f0 f1 f2 f3 f4 f5 f6 hdiv hmod
     have sq:=bq.size
     have hplq:p<wq.heap.size:=by omega
     have HBQ:=hDD (HBM.out.trans (bq.mono (by omega)))
     have BQ:=hDD bq
     clear bq p0' p1' p2' p3' p4' p5' hck
     have p0':=(HXA.out wq HBQ.out).1.c0
     have p1':=(HXA.out wq HBQ.out).1.c1
     have p2':=(HXA.out wq HBQ.out).1.c2
     have p3':=(HXA.out wq HBQ.out).2.c0
     have p4':=(HXA.out wq HBQ.out).2.c1
     have p5':=(HXA.out wq HBQ.out).2.c2
     have hck:wq.cell? ⟨bP,k,none⟩=some (.int .i64 (pk:Int)):=by
      obtain⟨hk2,hnk⟩:=HNK.out
      have:=(HPW.out wq HBQ.out).cellAt k hk2
      rwa [hnk] at this
     clear g0 g1 g2
     have g0:w.heap.size<wq.heap.size:=by omega
     have g1:w.heap.size+1<wq.heap.size:=by omega
     have g2:bP<wq.heap.size:=by omega
     have hdiv:=HDV.out
     have hmod:=HMD.out
     go_wp2_with fail
     have f0:=BelW.cell p0' g0
     have f1:=BelW.cell p1' g0
     have f2:=BelW.cell p2' g0
     have f3:=BelW.cell p3' g1
     have f4:=BelW.cell p4' g1
     have f5:=BelW.cell p5' g1
     have f6:=BelW.cell hck g2
     (refine wp_region_quiet_bel (by kernel_rfl) (by kernel_rfl) ?_;(repeat(go_big_quiet_step (first | (go_at_call 58;with_reducible exact Calls.bel_of (HNB2.out _ (HB.out _ (HAw.out _ (HBQ.out.trans ((BelW.h _).mono (Nat.le_of_lt hplq))))))))));refine wpQuiet_nil ?_;intro wz hw';obtain⟨pq,hw''⟩:=hw';have bz:=pq.h;rw[←hw''] at bz;clear hw'' pq)
     clear f0 f1 f2 f3 f4 f5 f6 hdiv hmod g0 g1 g2
     have sz:=bz.size
     have HBZ:=hDD (HBQ.out.trans (bz.mono (by omega)))
     have HGZ:=hDD ((HGBm.out.below BQ.out).below bz)
     clear bz p0' p1' p2' p3' p4' p5' hck
     rcases ey:decide (0≤nextV as' (un:Int) ((m:Int)+1)∧0≤nextV bs (vn:Int) ((m:Int)+1)) with _ | _
     ·have hyn: ¬(0≤nextV as' (un:Int) ((m:Int)+1)∧0≤nextV bs (vn:Int) ((m:Int)+1)):=by simpa using ey
      have HPN0:Hid (peR as' bs nb P k (m+1)=peR as' bs nb P k m):=hDD (by rw[HRS2.out,HPE.out,HPX.out,if_neg hyn];simp)
      generalize nextV as' (un:Int) ((m:Int)+1)=y1 at*
      generalize nextV bs (vn:Int) ((m:Int)+1)=y2 at*
      have hnpI:(0:Int)<(np:Int):=by omega
      have HNSL:=HLN.out
      clear HPE HPX HQM HNA2 HNB2
      go_wp2
      go_loopw [17] (fun x wr=>x= .int .i64 0∧wr=wz) (fun _ _=>0)
      case atStart=>exact⟨rfl,rfl⟩
      case round=>
       obtain⟨rfl,rfl⟩:=hrel
       rcases e1:decide (0≤y1) with _ | _
       ·have h1: ¬0≤y1:=by simpa using e1
        go_wp2
        go_roundw
        case rel=>exact⟨m+1,A2,c2,by omega,by go_num,by rw[HPN0.out];exact HGZ.out,HBZ.out⟩
        case measure=>simp[intOf];omega
       ·have h1:0≤y1:=by simpa using e1
        have h2: ¬0≤y2:=fun h=>hyn ⟨h1,h⟩
        go_wp2
        go_roundw
        case rel=>exact⟨m+1,A2,c2,by omega,by go_num,by rw[HPN0.out];exact HGZ.out,HBZ.out⟩
        case measure=>simp[intOf];omega
     ·have hyy:0≤nextV as' (un:Int) ((m:Int)+1)∧0≤nextV bs (vn:Int) ((m:Int)+1):=by simpa using ey
      have hy1r:=HY1.out
      have hy2r:=HY2.out
      obtain⟨y1,hy1⟩: ∃y:Nat,nextV as' (un:Int) ((m:Int)+1)=(y:Int):=⟨(nextV as' (un:Int) ((m:Int)+1)).toNat,by omega⟩
      obtain⟨y2,hy2⟩: ∃y:Nat,nextV bs (vn:Int) ((m:Int)+1)=(y:Int):=⟨(nextV bs (vn:Int) ((m:Int)+1)).toNat,by omega⟩
      have hpx:pnx as' bs nb pk ((m:Int)+1)=some (y1*nb+y2):=by
       rw[HPX.out,if_pos hyy,hy1,hy2];rfl
      have hqm:=HQM.out _ hpx
      have HPE2:Hid (peR as' bs nb P k (m+1)=peR as' bs nb P k m++ [((k:Int),(m:Int)+1,((P.idxOf (y1*nb+y2):Nat):Int))]):=hDD (by rw[HRS2.out,HPE.out,hpx];rfl)
      have hjl:=List.idxOf_lt_length_of_mem hqm
      have HJX:Hid (∀K (hK:K<P.length),P[K]=y1*nb+y2↔K=P.idxOf (y1*nb+y2)):=hDD fun K hK=>by
       constructor
       ·intro h
        refine nodup_inj HPN.out hK hjl ?_
        rw[h,List.getElem_idxOf hjl]
       ·intro h
        subst h
        exact List.getElem_idxOf hjl
      rw[←HNP.out] at hjl
      rw[hy1,hy2] at hyy⊢
      obtain⟨jx,hjx⟩: ∃j,P.idxOf (y1*nb+y2)=j:=⟨_,rfl⟩
      rw[hjx] at HPE2 HJX hjl
      have hy1n:y1<na:=by omega
      have hy2n:y2<nb:=by omega
      have hyq:y1*nb+y2≤1600:=by have:=pair_lt hy1n hy2n;omega
      have hb1:(-9223372036854775808:Int)≤((y1*nb:Nat):Int)∧((y1*nb:Nat):Int)≤9223372036854775807:=⟨by omega,by omega⟩
      have hb2:(-9223372036854775808:Int)≤((y1*nb+y2:Nat):Int)∧((y1*nb+y2:Nat):Int)≤9223372036854775807:=⟨by omega,by omega⟩
      have hy10:(0:Int)≤(y1:Int):=by omega
      have hy20:(0:Int)≤(y2:Int):=by omega
      have HM1:Hid (IntKind.i64.wrap ((y1:Int)*(nb:Int))=((y1*nb:Nat):Int)):=hDD (by rw[←Int.natCast_mul,wrap_i64_eq];exact IntWalk.wrap64_in _ hb1)
      have HM2:Hid (IntKind.i64.wrap (((y1*nb:Nat):Int)+(y2:Int))=((y1*nb+y2:Nat):Int)):=hDD (by rw[←Int.natCast_add,wrap_i64_eq];exact IntWalk.wrap64_in _ hb2)
      have HM3:Hid (wrap64 ((y1:Int)*(nb:Int))=((y1*nb:Nat):Int)):=hDD (by rw[←Int.natCast_mul];exact IntWalk.wrap64_in _ hb1)
      have HM4:Hid (wrap64 (((y1*nb:Nat):Int)+(y2:Int))=((y1*nb+y2:Nat):Int)):=hDD (by rw[←Int.natCast_add];exact IntWalk.wrap64_in _ hb2)
      clear hb1 hb2
      obtain⟨qn,hqn⟩: ∃q,y1*nb+y2=q:=⟨_,rfl⟩
      rw[hqn] at HM2 HM4 HJX
      obtain⟨pn1,hpn1⟩: ∃q,y1*nb=q:=⟨_,rfl⟩
      rw[hpn1] at HM1 HM2 HM3 HM4
      obtain⟨L0,hL0⟩: ∃L,BL++peR as' bs nb P k m=L:=⟨_,rfl⟩
      have hL0l:L0.length≤4900:=by rw[←hL0,List.length_append];have:=HBL.out;omega
      rw[hL0] at HGZ
      have HL0:=hDD hL0
      clear hy1 hy2 hyy hy1r hy2r hpx hqm hjx hqn hpn1 hL0 HPE HPX HQM HNA2 HNB2 HY1 HY2 ey
      go_wp2
      go_loopw [17] (fun x wr=> ∃(K:Nat) (A2:Option Addr) (c2:Nat),K≤np∧x= .int .i64 K∧GBx wr p (w.heap.size+3) A2 c2 ((rn:Int),(np:Int),pkL L0 (some ((k:Int),(m:Int)+1,(jx:Int))) jx K)∧Below p w4 wr) (fun x _=>np-(intOf x).toNat)
      case atStart=>exact⟨0,A2,c2,Nat.zero_le _,rfl,by rw[show pkL L0 (some ((k:Int),(m:Int)+1,(jx:Int))) jx 0=srt cmpE L0 by simp[pkL]];exact HGZ.out,HBZ.out⟩
      case round=>
       obtain⟨K,A2,c2,hK,rfl,hgb,hbr⟩:=hrel
       have HG3:=hDD hgb
       have HB3:=hDD hbr
       have hs3:=hbr.size
       have hpl3:=hgb.lt
       by_cases hlt3:K<np
       ·have hKI:(K:Int)<(np:Int):=by omega
        have hKP:K<P.length:=by have:=HNP.out;omega
        obtain⟨pK,hpK⟩: ∃q,P[K]=q:=⟨_,rfl⟩
        have HJK:=hDD (HJX.out K hKP)
        rw[hpK] at HJK
        have hck:wr.cell? ⟨bP,K,none⟩=some (.int .i64 (pK:Int)):=by
         obtain⟨h1,h2⟩:=HNS.out K hKP
         have:=(HPW.out wr hbr).cellAt K h1
         rwa [h2,hpK] at this
        have p3':=(HXA.out wr hbr).2.c0
        have p4':=(HXA.out wr hbr).2.c1
        have p5':=(HXA.out wr hbr).2.c2
        have hlbr:w.heap.size+1<wr.heap.size:=by omega
        have hbPr:bP<wr.heap.size:=by omega
        have HKS:Hid (jx≠K→pkL L0 (some ((k:Int),(m:Int)+1,(jx:Int))) jx (K+1)=pkL L0 (some ((k:Int),(m:Int)+1,(jx:Int))) jx K):=hDD fun hne=>by
         unfold pkL
         simp only
         by_cases h:jx<K
         ·rw[if_pos h,if_pos (by omega)]
         ·rw[if_neg h,if_neg (by omega)]
        have HKE:Hid (jx=K→pkL L0 (some ((k:Int),(m:Int)+1,(jx:Int))) jx (K+1)=insF cmpE (pkL L0 (some ((k:Int),(m:Int)+1,(jx:Int))) jx K) ((k:Int),(m:Int)+1,(K:Int))):=hDD fun he=>by
         subst he
         unfold pkL
         simp only
         rw[if_pos (by omega),if_neg (by omega),srt_snoc]
        clear hgb hbr hpK
        rcases eqk:((pK:Int)==(qn:Int)) with _ | _
        ·have hne:jx≠K:=fun h=>by
          have:=HJK.out.2 h.symm
          rw[this] at eqk
          simp at eqk
         have F:=hDD (HKS.out hne)
         clear hne HKE HKS
         have m1:=HM1.out
         have m2:=HM2.out
         have m3:=HM3.out
         have m4:=HM4.out
         go_wp2_with fail
         go_quiet (fail)
         go_wp2
         clear m1 m2 m3 m4
         go_roundw
         case rel=>exact⟨K+1,A2,c2,by omega,by go_num,by rw[F.out];exact HG3.out.below (bel_drewN (Below.refl _ _) _),bel_drewN HB3.out _⟩
         case measure=>simp[intOf];omega
        ·have F:=hDD (HKE.out (HJK.out.1 (Int.ofNat_inj.1 (eq_of_beq eqk))).symm)
         have hLl:=pkL_len L0 (some ((k:Int),(m:Int)+1,(jx:Int))) jx K
         clear HKE HKS HJK
         obtain⟨LK,hLK⟩: ∃L,pkL L0 (some ((k:Int),(m:Int)+1,(jx:Int))) jx K=L:=⟨_,rfl⟩
         obtain⟨LN,hLN⟩: ∃L,insF cmpE LK ((k:Int),(m:Int)+1,(K:Int))=L:=⟨_,rfl⟩
         rw[hLK] at F HG3 hLl
         rw[hLN] at F
         have HLN2:=hDD hLN
         clear hLK hLN
         have z2:=HG3.out.c2
         simp only at z2
         have he64:E64 ((k:Int),(m:Int)+1,(K:Int)):=⟨⟨by simp only;omega,by simp only;omega⟩,⟨by simp only;omega,by simp only;omega⟩,⟨by simp only;omega,by simp only;omega⟩⟩
         have HE64:=hDD he64
         have hLl2:LK.length≤268435456:=by omega
         clear he64
         have m1:=HM1.out
         have m2:=HM2.out
         have m3:=HM3.out
         have m4:=HM4.out
         go_wp2_with fail
         go_quiet (fail)
         go_wp2_with fail
         clear m1 m2 m3 m4 z2
         have HG4:=hDD (HG3.out.below (bel_drewN (Below.refl _ _) nq))
         have HB4:=hDD (bel_drewN HB3.out nq)
         have hplq4:p<(wr.drewN nq).heap.size:=hpl3
         generalize wr.drewN nq=wd at*
         refine(l4Put_any _ LK ((k:Int),(m:Int)+1,(K:Int)) wd HG4.out.ow.arg HE64.out hLl2).mono ?_
         rintro e w9 ⟨r9,rfl,o9,b9⟩
         rw[HLN2.out] at o9
         have hs9:=b9.size
         have HG9:=hDD (HG4.out.below b9)
         have HB9:=hDD (HB4.out.trans (b9.mono (Nat.le_of_lt hplq4)))
         obtain⟨A9,c9,rfl,_⟩:=o9.form
         have HNP9:Hid (∀b,(Value.slice A9 LN.length c9).ownBlock=some b→b≠p):=hDD fun b hb=>by have:=(o9.1.lt b hb).1;omega
         have HGN:=hDD (HG9.out.put o9 HNP9.out)
         have HBN:=hDD (HB9.out.setCell (p:=⟨p,2,none⟩) (Nat.le_refl _) (.slice A9 LN.length c9))
         have z2:=HG9.out.c2
         have zf2:=HG9.out.fz 2
         simp only at z2
         clear o9 b9
         go_wp2
         go_roundw
         case rel=>exact⟨K+1,A9,c9,by omega,by go_num,by rw[F.out];exact HGN.out.mono (by omega),HBN.out⟩
         case measure=>simp[intOf];omega
       ·obtain rfl:K=np:=by omega
        have F:Hid (pkL L0 (some ((k:Int),(m:Int)+1,(jx:Int))) jx K=srt cmpE (BL++peR as' bs nb P k (m+1))):=hDD (by
         unfold pkL
         simp only
         rw[if_pos hjl,HPE2.out,←HL0.out,List.append_assoc])
        have HG4:=HG3
        rw[F.out] at HG4
        have HNSL:=HLN.out
        clear hgb hbr
        go_wp2
        go_roundw
        case rel=>exact⟨m+1,A2,c2,by omega,by go_num,HG4.out,HB3.out⟩
        case measure=>simp[intOf];omega
    ·obtain rfl:m=rn:=by omega
     have hni: ¬(m:Int)+1≤(m:Int):=by omega
     go_wp2
     go_roundw
     case rel=>exact⟨k+1,A2,c2,by omega,by go_num,by rw[HLS.out];exact HGBm.out,HBM.out⟩
     case measure=>simp[intOf];omega
  ·obtain rfl:k=np:=by omega
   have HPGk:=HPG.out
   have F:=hDD (HRS.out.trans (by rw[HPGk]:(PG,true)=(((rn:Int),(k:Int),srt cmpE (peL as' bs nb rn P k)),true)))
   clear HPGk HRS HPG
   obtain⟨LL,hLL⟩: ∃L,srt cmpE (peL as' bs nb rn P k)=L:=⟨_,rfl⟩
   rw[hLL] at F HGBk
   clear hLL
   have BF:=hDD (HAw.out _ HBR.out)
   have z0:=(XR.out.below BF.out).c0
   have z1:=(XR.out.below BF.out).c1
   have z2:=(XR.out.below BF.out).c2
   have zf0:=(XR.out.below BF.out).fz 0
   have zf1:=(XR.out.below BF.out).fz 1
   have zf2:=(XR.out.below BF.out).fz 2
   have y0:=HGBk.out.c0
   have y1:=HGBk.out.c1
   have y2:=HGBk.out.c2
   simp only at y0 y1 y2
   have hpp:=HGBk.out.lt
   have hlc5:w.heap.size+1+1<wk.heap.size:=by omega
   have hne5:w.heap.size+1+1≠p:=by omega
   have HBF:=hDD (BX.out.trans (BF.out.mono (by omega)))
   have HGE:=hDD HGBk.out.ow
   have hi1:=HGBk.out.i1
   have hi2:=HGBk.out.i2
   go_wp2
   obtain⟨e0,e1,e2⟩:=cells3F (.int .i64 (rn:Int)) (.int .i64 (k:Int)) (.slice A2 LL.length c2) z0 z1 z2
   have bw:Below w.heap.size w (((wk.setCell ⟨w.heap.size+1+1,0,none⟩ (.int .i64 (rn:Int))).setCell ⟨w.heap.size+1+1,1,none⟩ (.int .i64 (k:Int))).setCell ⟨w.heap.size+1+1,2,none⟩ (.slice A2 LL.length c2)):=set3_below _ _ _ HBF.out (by omega)
   have ow:OwE (((wk.setCell ⟨w.heap.size+1+1,0,none⟩ (.int .i64 (rn:Int))).setCell ⟨w.heap.size+1+1,1,none⟩ (.int .i64 (k:Int))).setCell ⟨w.heap.size+1+1,2,none⟩ (.slice A2 LL.length c2)) (w.heap.size+3) (.slice A2 LL.length c2) LL:=HGE.out.keep fun b hb=>set3_heap _ _ _ _ _ (by have:=(HGE.out.1.lt b hb).1;omega)
   generalize (((wk.setCell ⟨w.heap.size+1+1,0,none⟩ (.int .i64 (rn:Int))).setCell ⟨w.heap.size+1+1,1,none⟩ (.int .i64 (k:Int))).setCell ⟨w.heap.size+1+1,2,none⟩ (.slice A2 LL.length c2))=wf at*
   rw[F.out]
   exact bodyPost_ret (v:= .tuple #[.agg #[.int .i64 (rn:Int), .int .i64 (k:Int), .slice A2 LL.length c2], .bool true]) (by simp[results,Tryz.results29,go_sem,e0,e1,e2]) rfl ⟨_,rfl,⟨.slice A2 LL.length c2,rfl,hi1,hi2,ow.mono (by omega)⟩,bw⟩
structure MatI (X bb P A B:Nat) (w:World) (Q:Nat→Nat) (f:Nat→Nat→Int):Prop where
 outer:w.ownsRow bb 26 1 (.slice (some ⟨P,0,none⟩) A A) A ((List.range A).map fun i=> .slice (some ⟨Q i,0,none⟩) B B)
 rows: ∀i,i<A→OwI w bb (.slice (some ⟨Q i,0,none⟩) B B) ((List.range B).map (f i))
 inj: ∀i j,i<A→j<A→Q i=Q j→i=j
 neP: ∀i,i<A→Q i≠P
 ltP:P<X
 ltQ: ∀i,i<A→Q i<X
section
variable {X bb P A B:Nat} {w w':World} {Q:Nat→Nat} {f:Nat→Nat→Int}
theorem MatI.cellO (h:MatI X bb P A B w Q f) {i:Nat} (hi:i<A):w.cell? ⟨P,i,none⟩=some (.slice (some ⟨Q i,0,none⟩) B B):=by
 rw[World.ownsRow.cellAt h.outer i (by omega)]
 simp[hi]
theorem MatI.cellI (h:MatI X bb P A B w Q f) {i j:Nat} (hi:i<A) (hj:j<B):w.cell? ⟨Q i,j,none⟩=some (.int .i64 (f i j)):=by
 have:=(h.rows i hi).cellAt j (by simpa using hj)
 simpa using this
theorem MatI.free (h:MatI X bb P A B w Q f) {i:Nat} (hi:i<A) (j:Nat):w.frozen? ⟨Q i,j,none⟩=false:=(h.rows i hi).free j
theorem owns_keep {base:Nat} {e:TypeId} {sz n:Nat} {v:Value} {cs:List Value} (h:w.ownsRow base e sz v n cs) (hb: ∀b,v.ownBlock=some b→w'.heap[b]? =w.heap[b]?):w'.ownsRow base e sz v n cs:=by
 refine⟨h.1,?_⟩
 rcases h.2 with h0 | ⟨g,cap,cur,hv,hg,hh,r⟩
 ·exact .inl h0
 ·exact .inr ⟨g,cap,cur,hv,hg,by rw[hb g (by rw[hv];rfl)];exact hh,r⟩
theorem MatI.keep (h:MatI X bb P A B w Q f) (hb: ∀b,b<X→w'.heap[b]? =w.heap[b]?):MatI X bb P A B w' Q f:=by
 refine⟨owns_keep h.outer fun b e=> ?_,fun i hi=>⟨owns_keep (h.rows i hi).1 fun b e=> ?_,(h.rows i hi).2⟩,h.inj,h.neP,h.ltP,h.ltQ⟩
 ·simp only[Value.ownBlock,Option.some.injEq] at e
  subst e
  exact hb _ h.ltP
 ·simp only[Value.ownBlock,Option.some.injEq] at e
  subst e
  exact hb _ (h.ltQ i hi)
def upd (f:Nat→Nat→Int) (i j:Nat) (z:Int):Nat→Nat→Int:=fun i' j'=>if i'=i∧j'=j then z else f i' j'
theorem MatI.set (h:MatI X bb P A B w Q f) {i j:Nat} (hi:i<A) (hj:j<B) {z:Int} (hz:I64 z):MatI X bb P A B (w.setCell ⟨Q i,j,none⟩ (.int .i64 z)) Q (upd f i j z):=by
 have hs: ∀b,b≠Q i→(w.setCell ⟨Q i,j,none⟩ (.int .i64 z)).heap[b]? =w.heap[b]? :=fun b hb=>Below.heap_setCell w _ _ b hb
 refine⟨owns_keep h.outer fun b e=> ?_,fun i' hi'=> ?_,h.inj,h.neP,h.ltP,h.ltQ⟩
 ·simp only[Value.ownBlock,Option.some.injEq] at e
  subst e
  exact hs _ (fun e=>h.neP i hi e.symm)
 ·by_cases hii:i'=i
  ·subst hii
   have h1:=((h.rows i' hi).set j z hz).1
   have e:((List.range B).map (f i')).set j z=(List.range B).map (upd f i' j z i'):=by
    refine List.ext_getElem (by simp) fun k h1 h2=> ?_
    rw[List.getElem_set]
    simp only[List.getElem_map,List.getElem_range]
    unfold upd
    by_cases hk:j=k
    ·subst hk;simp
    ·rw[if_neg hk,if_neg (fun h=>hk h.2.symm)]
   rwa [e] at h1
  ·have h1:OwI (w.setCell ⟨Q i,j,none⟩ (.int .i64 z)) bb (.slice (some ⟨Q i',0,none⟩) B B) ((List.range B).map (f i')):=
    ⟨owns_keep (h.rows i' hi').1 fun b e=>by
     simp only[Value.ownBlock,Option.some.injEq] at e
     subst e
     exact hs _ (fun e=>hii (h.inj _ _ hi' hi e)),(h.rows i' hi').2⟩
   have e:(List.range B).map (f i')=(List.range B).map (upd f i j z i'):=by
    refine List.map_congr_left fun k _=> ?_
    unfold upd
    rw[if_neg (fun h=>hii h.1)]
   rwa [e] at h1
end
def prC (B:Nat) (p:Nat):List Value:= [.int .i64 ((p/B:Nat):Int), .int .i64 ((p%B:Nat):Int)]
def prCs (B:Nat) (o:List Nat):List Value:=(o.map (prC B)).flatten
theorem prCs_get (B:Nat) (o:List Nat) (k j:Nat) (hk:k<o.length) (hj:j<2):(prCs B o)[k*2+j]? =(prC B o[k])[j]? :=by
 unfold prCs
 induction o generalizing k with
 | nil=>simp at hk
 | cons p o ih=>
   cases k with
   | zero=>
     simp only[Nat.zero_mul,Nat.zero_add,List.map_cons,List.flatten_cons,List.getElem_cons_zero]
     rw[List.getElem?_append_left (by simpa[prC] using hj)]
   | succ k=>
     simp only[List.map_cons,List.flatten_cons,List.getElem_cons_succ]
     rw[List.getElem?_append_right (by simp[prC];omega)]
     have:(k+1)*2+j-(prC B p).length=k*2+j:=by simp[prC];omega
     rw[this]
     exact ih k (by simpa using hk)
theorem prCs_snoc (B:Nat) (o:List Nat) (p:Nat):prCs B (o++ [p])=prCs B o++prC B p:=by simp[prCs]
def OwPr (w:World) (base:Nat) (v:Value) (B:Nat) (o:List Nat):Prop:=w.ownsRow base 80 2 v o.length (prCs B o)
theorem pair_info:(Tryz.prog.info? 80).map (fun i=>(i.zero,i.size,i.bytes))=some (some (.agg #[.int .i64 0, .int .i64 0]),2,16):=by kernel_rfl
theorem piece_info:(Tryz.prog.info? 61).map (fun i=>(i.zero,i.size,i.bytes))=some (some (.agg #[.int .i64 0, .int .i64 0, .int .i64 0, .int .i64 0, .bool false]),5,40):=by kernel_rfl
theorem push_pair {w:World} {ops:Array Oper} {rest:List Oper} {o:Oper} {a:Act} {R:Exit→Act→World→Prop} (hgd:o.guard=none) (s x:Operand)
  (ho:o.op= .call {callee:= .builtin .append,args:= #[s,x],argTypes:= #[81,81]})
  (base:Nat) (v:Value) (B:Nat) (es:List Nat) (hown:OwPr w base v B es) (hs:a.eval s=v) (b:Nat) (e:Nat) (hx:a.eval x= .slice (some ⟨b,0,none⟩) 1 1)
  (hc: ∀j u,(prC B e)[j]? =some u→w.cell? ⟨b,j,none⟩=some u) (hl:es.length≤1073741824) (hbase:base≤w.heap.size)
  (h: ∀v' w',OwPr w' base v' B (es++ [e])→w.grownBy w' v.ownBlock→(v'.ownBlock=v.ownBlock∨v'.ownBlock=some w.heap.size)→wpList Tryz.prog ops R rest (a.put o.dst v') w'):
  wpList Tryz.prog ops R (o::rest) a w:=by
 obtain⟨i0,hi0,hz0,hz1,hz2⟩:=info_parts pair_info
 refine wpList_append_own_at _ hgd s x 81 ho base 80 i0 _ 2 16 Tryz.underlying81 hi0 hz0 hz1 hz2 rfl (by decide) v es.length (prCs B es) hs hown ⟨b,0,none⟩ 1 1 (prC B e) hx rfl ?_ ?_ (by unfold maxLen;omega) (by omega) hbase ?_
 ·intro j u hj
  rw[Addr.add_lit,Nat.zero_add]
  exact hc j u hj
 ·intro u hu
  simp[prC] at hu
  rcases hu with rfl | rfl<;>rfl
 ·intro v' w' h1 h2 h3 h5
  refine h v' w' ?_ h2 h5
  unfold OwPr
  rw[prCs_snoc,List.length_append]
  exact h1
def PcD:=Int×Int×Int×Int×Bool
def pcC (d:PcD):List Value:= [.int .i64 d.1, .int .i64 d.2.1, .int .i64 d.2.2.1, .int .i64 d.2.2.2.1, .bool d.2.2.2.2]
def pcCs (l:List PcD):List Value:=(l.map pcC).flatten
theorem pcCs_snoc (l:List PcD) (d:PcD):pcCs (l++ [d])=pcCs l++pcC d:=by simp[pcCs]
theorem pcCs_get (l:List PcD) (k j:Nat) (hk:k<l.length) (hj:j<5):(pcCs l)[k*5+j]? =(pcC l[k])[j]? :=by
 unfold pcCs
 induction l generalizing k with
 | nil=>simp at hk
 | cons p o ih=>
   cases k with
   | zero=>
     simp only[Nat.zero_mul,Nat.zero_add,List.map_cons,List.flatten_cons,List.getElem_cons_zero]
     rw[List.getElem?_append_left (by simpa[pcC] using hj)]
   | succ k=>
     simp only[List.map_cons,List.flatten_cons,List.getElem_cons_succ]
     rw[List.getElem?_append_right (by simp[pcC];omega)]
     have:(k+1)*5+j-(pcC p).length=k*5+j:=by simp[pcC];omega
     rw[this]
     exact ih k (by simpa using hk)
def OwPc (w:World) (base:Nat) (v:Value) (l:List PcD):Prop:=w.ownsRow base 61 5 v l.length (pcCs l)
theorem push_piece {w:World} {ops:Array Oper} {rest:List Oper} {o:Oper} {a:Act} {R:Exit→Act→World→Prop} (hgd:o.guard=none) (s x:Operand)
  (ho:o.op= .call {callee:= .builtin .append,args:= #[s,x],argTypes:= #[56,56]})
  (base:Nat) (v:Value) (es:List PcD) (hown:OwPc w base v es) (hs:a.eval s=v) (b:Nat) (e:PcD) (hx:a.eval x= .slice (some ⟨b,0,none⟩) 1 1)
  (hc: ∀j u,(pcC e)[j]? =some u→w.cell? ⟨b,j,none⟩=some u) (hl:es.length≤1073741824) (hbase:base≤w.heap.size)
  (h: ∀v' w',OwPc w' base v' (es++ [e])→w.grownBy w' v.ownBlock→(v'.ownBlock=v.ownBlock∨v'.ownBlock=some w.heap.size)→wpList Tryz.prog ops R rest (a.put o.dst v') w'):
  wpList Tryz.prog ops R (o::rest) a w:=by
 obtain⟨i0,hi0,hz0,hz1,hz2⟩:=info_parts piece_info
 refine wpList_append_own_at _ hgd s x 56 ho base 61 i0 _ 5 40 Tryz.underlying56 hi0 hz0 hz1 hz2 rfl (by decide) v es.length (pcCs es) hs hown ⟨b,0,none⟩ 1 1 (pcC e) hx rfl ?_ ?_ (by unfold maxLen;omega) (by omega) hbase ?_
 ·intro j u hj
  rw[Addr.add_lit,Nat.zero_add]
  exact hc j u hj
 ·intro u hu
  simp[pcC] at hu
  rcases hu with rfl | rfl | rfl | rfl | rfl<;>rfl
 ·intro v' w' h1 h2 h3 h5
  refine h v' w' ?_ h2 h5
  unfold OwPc
  rw[pcCs_snoc,List.length_append]
  exact h1
open Go.Maps in
theorem arrP:Go.WideMaps.ArrKey Tryz.prog 80 3 2:=⟨Tryz.underlying80,by kernel_rfl,by kernel_rfl,by kernel_rfl⟩
theorem lawP:Go.Maps.Keyed Tryz.prog 80:=Go.Maps.Keyed.of_law arrP.law
theorem zeroP (w:World):(zeroValue 3).run Tryz.prog w= .ok (.int .i64 0) w:=by kernel_rfl
def kp (s t:Int):Lit:= .string (keyBytes [.int .i64 s, .int .i64 t])
theorem wf_nat {s:Int} (h:I64 s):(Lit.int .i64 s).wf=true:=by
 unfold I64 at h;simpa[Lit.wf,IntKind.min,IntKind.max,IntKind.signed,IntKind.bits] using h
theorem kp_key {s t:Int} (hs:I64 s) (ht:I64 t):keyOf Tryz.prog 80 (.agg #[.int .i64 s, .int .i64 t])=some (kp s t):=
 Go.WideMaps.keyOf_pair arrP Tryz.underlying3 ⟨Tryz.prog.types.size-1,by kernel_rfl⟩ (wf_nat hs) (wf_nat ht)
theorem kp_inj {s t s' t':Int} (hs:I64 s) (ht:I64 t) (hs':I64 s') (ht':I64 t') (h:kp s t=kp s' t'):s=s'∧t=t':=by
 have h1:=kp_key hs ht
 have h2:=kp_key hs' ht'
 rw[←h] at h2
 have:=lawP.inj h1 h2
 simpa using this
theorem nat_I64 {n:Nat} (h:n≤1000000):I64 (n:Int):=by unfold I64;omega
theorem kp_isKey {s t:Int} (hs:I64 s) (ht:I64 t):WideAt.IsKeyLit (kp s t):=lawP.key (kp_key hs ht)
structure MapI (B:Nat) (D:DataW Unit) (o:List Nat):Prop where
 im:Go.Maps.IsMap D
 has: ∀s t:Nat,s≤40→t<B→Go.Maps.has D (kp (s:Int) (t:Int))=decide (s*B+t∈o)
 at_: ∀s t:Nat,s≤40→t<B→s*B+t∈o→D.atKey (kp (s:Int) (t:Int)) (.lit (.int .i64 0))= .lit (.int .i64 ((o.idxOf (s*B+t):Nat):Int))
theorem MapI.nil (B:Nat):MapI B (.map []) []:=⟨Go.Maps.isMap_empty,fun s t _ _=>by simp[Go.Maps.has],fun s t _ _ h=>by cases h⟩
theorem code_inj {B s t s' t':Nat} (ht:t<B) (ht':t'<B) (h:s*B+t=s'*B+t'):s=s'∧t=t':=by
 have hB:0<B:=by omega
 have h1:(s*B+t)/B=s:=by rw[Nat.mul_comm,Nat.mul_add_div hB,Nat.div_eq_of_lt ht];omega
 have h2:(s'*B+t')/B=s':=by rw[Nat.mul_comm,Nat.mul_add_div hB,Nat.div_eq_of_lt ht'];omega
 have h3:s=s':=by rw[←h1,←h2,h]
 subst h3
 exact⟨rfl,by omega⟩
theorem MapI.put {B:Nat} {D:DataW Unit} {o:List Nat} (h:MapI B D o) (hB:B≤40) {s t:Nat} (hs:s≤40) (ht:t<B) (hn:s*B+t∉o):
  MapI B (D.put (kp (s:Int) (t:Int)) (.lit (.int .i64 (o.length:Int)))) (o++ [s*B+t]):=by
 have i1:=nat_I64 (n:=s) (by omega)
 have i2:=nat_I64 (n:=t) (by omega)
 have hk:=kp_isKey i1 i2
 have ne: ∀s' t':Nat,s'≤40→t'<B→s'*B+t'≠s*B+t→kp (s':Int) (t':Int)≠kp (s:Int) (t:Int):=fun s' t' hs' ht' hne e=>by
  have:=kp_inj (nat_I64 (n:=s') (by omega)) (nat_I64 (n:=t') (by omega)) i1 i2 e
  have e1:s'=s:=by omega
  have e2:t'=t:=by omega
  exact hne (by rw[e1,e2])
 refine⟨h.im.put _ _,fun s' t' hs' ht'=> ?_,fun s' t' hs' ht' hm=> ?_⟩
 ·by_cases e:s'*B+t'=s*B+t
  ·obtain⟨rfl,rfl⟩:=code_inj ht' ht e
   rw[Go.Maps.has_put_same h.im hk]
   simp
  ·rw[Go.Maps.has_put_other (ne s' t' hs' ht' e),h.has s' t' hs' ht']
   simp[e]
 ·by_cases e:s'*B+t'=s*B+t
  ·obtain⟨rfl,rfl⟩:=code_inj ht' ht e
   rw[Go.Maps.atKey_put_same h.im hk,List.idxOf_append,if_neg hn]
   simp
  ·have hm':s'*B+t'∈o:=by
    rcases List.mem_append.1 hm with hm | hm
    ·exact hm
    ·exact absurd (List.mem_singleton.1 hm) e
   rw[Go.Maps.atKey_put_other (ne s' t' hs' ht' e),h.at_ s' t' hs' ht' hm',List.idxOf_append,if_pos hm']
theorem wp_insert {P:Program} (w:World) {ops:Array Oper} {rest:List Oper} {o:Oper} {a:Act} {Q:Exit→Act→World→Prop}
  (hg:o.guard=none) (m x v:Operand) (t:TypeId) (hop:o.op=Op.insert t m x v)
  (k e:TypeId) (K:Go.Maps.Keyed P k) (ht:P.underlying t=some (.map k e)) (R:Value→Option (DataW Unit×List MemPlace)) (b n:Nat) (D:DataW Unit)
  (hm:a.eval m= .map (some b)) (hown:w.ownsMap P k R b n D) (hn:n<maxLen) (key val:Value) (kl:Lit) (hx:a.eval x=key) (hv:a.eval v=val) (hkey:keyOf P k key=some kl)
  (d:DataW Unit) (ps:List MemPlace) (hval:R val=some (d,ps))
  (hK: ∀w',w'.ownsMap P k R b (n+1) (D.put kl d)→w.grownBy w' (some b)→wpList P ops Q rest (a.put o.dst undef) w'):wpList P ops Q (o::rest) a w:=by
 refine wpList_plain hg fun K' hK'=> ?_
 obtain⟨w',hrun,r1,r2⟩:=hown.update K ht hn hkey hval
 unfold Oper.wp
 simp[execOp,hop,hm,hx,hv,hrun,Result.andThen]
 exact hK' _ _ (hK w' r1 r2)
theorem bfs_prefix {ea eb:List EdD} {B:Nat} (ls:List Int): ∀(f i:Nat) (o:List Nat) (j y:Nat),o[j]? =some y→(bfsF ea eb B ls f i o)[j]? =some y
 | 0,_,_,_,_,h=>h
 | f+1,i,o,j,y,h=>by
   rw[bfsF]
   cases hi:o[i]? with
   | none=>exact h
   | some p=>
     have:=pfold_prefix (a:=(0,0,ea)) (b:=(0,0,eb)) (B:=B) ls p o h
     exact bfs_prefix ls f _ _ j y this
theorem bfs_stop {ea eb:List EdD} {B:Nat} (ls:List Int) (f:Nat) (o:List Nat):bfsF ea eb B ls f o.length o=o:=by
 cases f with
 | zero=>rfl
 | succ f=>rw[bfsF,List.getElem?_eq_none (Nat.le_refl _)]
theorem bfs_next {ea eb:List EdD} {B:Nat} (ls:List Int) {f i:Nat} {o:List Nat} {p:Nat} (h:o[i]? =some p):bfsF ea eb B ls (f+1) i o=bfsF ea eb B ls f (i+1) (ls.foldl (pst ea eb B p) o):=by
 rw[bfsF,h]
theorem idx_prefix {o P:List Nat} (hP:P.Nodup) (h: ∀j y:Nat,o[j]? =some y→P[j]? =some y) {q:Nat} (hq:q∈o):P.idxOf q=o.idxOf q:=by
 have h1:=List.idxOf_lt_length_of_mem hq
 have h2:=h _ _ (List.getElem?_eq_getElem h1)
 rw[List.getElem_idxOf h1] at h2
 obtain⟨h3,h4⟩:=List.getElem?_eq_some_iff.1 h2
 have h5:q∈P:=by rw[←h4];exact List.getElem_mem _
 have h6:=List.idxOf_lt_length_of_mem h5
 exact nodup_inj hP h6 h3 (by rw[List.getElem_idxOf h6,h4])
def peF (ea eb:List EdD) (B:Nat) (P:List Nat) (k:Nat) (l:List Int):List EdD:=l.filterMap fun x=>if 0<x then peE ea eb B P k x else none
theorem peF_letters (ea eb:List EdD) (B:Nat) (P:List Nat) (k:Nat): ∀r,peF ea eb B P k (lettersL r)=peR ea eb B P k r
 | 0=>rfl
 | r+1=>by
   have h1:peF ea eb B P k (lettersL (r+1))=peF ea eb B P k (lettersL r)++peF ea eb B P k [(r:Int)+1,-((r:Int)+1)]:=by
    rw[show lettersL (r+1)=lettersL r++ [(r:Int)+1,-((r:Int)+1)] from rfl]
    unfold peF
    rw[List.filterMap_append]
   have h2:peF ea eb B P k [(r:Int)+1,-((r:Int)+1)]=(peE ea eb B P k ((r:Int)+1)).toList:=by
    unfold peF
    rw[List.filterMap_cons,if_pos (by omega:(0:Int)<(r:Int)+1)]
    have h3:List.filterMap (fun x=>if 0<x then peE ea eb B P k x else none) [-((r:Int)+1)]= []:=by
     rw[List.filterMap_cons,if_neg (by omega: ¬(0:Int)< -((r:Int)+1))]
     rfl
    rw[h3]
    cases peE ea eb B P k ((r:Int)+1)<;>rfl
   rw[h1,h2,peF_letters ea eb B P k r,peR_succ]
theorem peF_succ (ea eb:List EdD) (B:Nat) (P:List Nat) (k:Nat) (ls:List Int) (m:Nat) (h:m<ls.length):peF ea eb B P k (ls.take (m+1))=peF ea eb B P k (ls.take m)++(if 0<ls[m] then peE ea eb B P k ls[m] else none).toList:=by
 unfold peF
 rw[List.take_succ_eq_append_getElem h,List.filterMap_append]
 congr 1
theorem peF_le (ea eb:List EdD) (B:Nat) (P:List Nat) (k:Nat) (l:List Int):(peF ea eb B P k l).length≤l.length:=List.length_filterMap_le _ _
theorem CBx.put {w:World} {p base':Nat} {z:Value} {A':Option Addr} {c':Nat} {r n:Int} {ms:List EdD} (h:CBx w p (.int .i64 r) (.int .i64 n) z) (o:OwE w base' (.slice A' ms.length c') ms) (hn: ∀b,(Value.slice A' ms.length c').ownBlock=some b→b≠p) (h1:I64 r) (h2:I64 n):
  GBx (w.setCell ⟨p,2,none⟩ (.slice A' ms.length c')) p base' A' c' (r,n,ms):=
 ⟨(World.cell?_setCell_other _ _ _ _ (by simp)).trans h.c0,(World.cell?_setCell_other _ _ _ _ (by simp)).trans h.c1,World.cell?_setCell_same _ _ _ h.c2,fun j=>by rw[World.frozen?_setCell];exact h.fz j,o.keep fun b hb=>Below.heap_setCell _ _ _ b (hn b hb),hn,h1,h2,by simpa using h.lt⟩
theorem prC_ofP {k B m:Nat} (hm:m<B):prC B (k*B+m)= [.int .i64 k, .int .i64 m]:=by
 unfold prC
 rw[Nat.mul_comm,Nat.mul_add_div (by omega),Nat.div_eq_of_lt hm,Nat.mul_add_mod,Nat.mod_eq_of_lt hm,Nat.add_zero]
theorem OwPr_oneP (w:World) {base k m B:Nat} (hb:base≤w.heap.size) (hm:m<B):OwPr (w.alloc (.cells #[.int .i64 k, .int .i64 m] 80)) base (.slice (some ⟨w.heap.size,0,none⟩) 1 1) B [k*B+m]:=by
 have:=World.ownsRow_lit (e:=80) (size:=2) w #[.int .i64 k, .int .i64 m] 1 hb (by unfold maxLen;omega) (by simp)
 unfold OwPr prCs
 simp only[List.map_cons,List.map_nil,List.flatten_cons,List.flatten_nil,List.append_nil,prC_ofP hm,List.length_cons,List.length_nil,Nat.zero_add]
 simpa using this
open Go.Maps in
set_option maxHeartbeats 4000000 in
theorem implPullbackAt_any (va vb:Value) (a b:GrD) (u v:Nat) (w:World) (ha:ArgG w va a) (hb:ArgG w vb b) (hfa:foldB a=true) (hfb:foldB b=true) (hu:(u:Int)<a.2.1) (hv:(v:Int)<b.2.1):
  Calls Tryz.prog 35 #[va,vb, .int .i64 (u:Int), .int .i64 (v:Int)] w fun e w'=> ∃r,e= .returned (.tuple #[r, .bool (pbRes a b u v).2])∧OwG w' w.heap.size r (pbRes a b u v).1∧Below w.heap.size w w':=by
 have HGA:=hDD ha
 have HGB:=hDD hb
 have HFA:=hDD hfa
 have HFB:=hDD hfb
 have htw:=two_fold hfa hfb
 have hbd:=htw.bd
 have hr13:=(grB_parts htw.ga).1
 obtain⟨pn,pl,p1,p1600,pcl⟩:=pbP_facts hfa hfb hu hv
 have HR0:Hid (a.1≠b.1→pbRes a b u v=((0,0,[]),false)):=hDD fun h=>by unfold pbRes;rw[if_neg fun q=>h q.1]
 have HR1:Hid (pbOk a b u v=false→pbRes a b u v=((0,0,[]),false)):=hDD fun h=>by unfold pbRes;rw[if_neg fun q=>by rw[h] at q;exact absurd q.2 (by decide)]
 have HR2:Hid (a.1=b.1→pbOk a b u v=true→pbRes a b u v=(pbG a b u v,true)):=hDD fun h1 h2=>by unfold pbRes;rw[if_pos ⟨h1,h2⟩]
 have HPG:Hid (pbG a b u v=(a.1,((pbP a b u v).length:Int),srt cmpE (peL a.2.2 b.2.2 b.2.1.toNat a.1.toNat (pbP a b u v) (pbP a b u v).length))):=hDD rfl
 have HPO:Hid (pbOk a b u v=(decide ((pbP a b u v).length≤40)&&decide ((peL a.2.2 b.2.2 b.2.1.toNat a.1.toNat (pbP a b u v) (pbP a b u v).length).length≤120))):=hDD rfl
 have HPP:Hid (pbP a b u v=bfsF a.2.2 b.2.2 b.2.1.toNat (lettersL a.1.toNat) (a.2.1.toNat*b.2.1.toNat+1-0) 0 [u*b.2.1.toNat+v]):=hDD rfl
 have HEL:Hid (∀n,(peL a.2.2 b.2.2 b.2.1.toNat a.1.toNat (pbP a b u v) n).length≤n*a.1.toNat):=hDD fun n=>peL_le _ _ _ _ _ n
 have hin1:inB (u:Int) 0 (wrap64 (a.2.1-1))=true:=by
  rw[IntWalk.wrap64_in _ ⟨by omega,by omega⟩];exact inB_iff.2 ⟨by omega,by omega⟩
 have hin2:inB (v:Int) 0 (wrap64 (b.2.1-1))=true:=by
  rw[IntWalk.wrap64_in _ ⟨by omega,by omega⟩];exact inB_iff.2 ⟨by omega,by omega⟩
 have HI1:=hDD hin1
 have HI2:=hDD hin2
 generalize pbRes a b u v=RES at*
 generalize pbG a b u v=PG at*
 generalize pbOk a b u v=PO at*
 generalize pbP a b u v=P at*
 have HTW:=hDD htw
 have HPL:=hDD pl
 have HPN:=hDD pn
 have OA:=hDD (steps_one htw.fa)
 have OB:=hDD (steps_one htw.fb)
 have LA:=hDD (let_of_gr htw.ga)
 have LB:=hDD (let_of_gr htw.gb)
 have HNA:=hDD (nextV_range htw.ga)
 have HNB:=hDD (nextV_range htw.gb)
 have HPS:=hDD (fun (p q:Nat) (x:Int) h=>pnx_lt (p:=p) (q:=q) (x:=x) htw h)
 obtain⟨sa,rfl,hai1,hai2,haa⟩:=ha
 obtain⟨A,ca,rfl⟩:=haa.form
 obtain⟨sb,rfl,hbi1,hbi2,hbb⟩:=hb
 obtain⟨B,cb,rfl⟩:=hbb.form
 obtain⟨a1,a2,as'⟩:=a
 obtain⟨b1,b2,bs⟩:=b
 obtain⟨rn,rfl⟩: ∃rn:Nat,a1=(rn:Int):=⟨a1.toNat,by simp only at hr13;omega⟩
 obtain⟨na,rfl⟩: ∃n:Nat,a2=(n:Int):=⟨a2.toNat,by have:=htw.sa;simp only at this;omega⟩
 obtain⟨nb,rfl⟩: ∃n:Nat,b2=(n:Int):=⟨b2.toNat,by have:=htw.sb;simp only at this;omega⟩
 simp only[Int.toNat_natCast] at*
 clear haa hbb hfa hfb htw pl pn pcl hin1 hin2
 go_enter Tryz.func35,Tryz.ntmps35
 go_wp2_with fail
 obtain⟨W1,hW1⟩: ∃W,W=w.alloc (Obj.cells #[Value.int IntKind.i64 (rn:Int),Value.int IntKind.i64 (na:Int), .slice A as'.length ca] 31):=⟨_,rfl⟩
 rw[←hW1]
 obtain⟨x1,bx1,s1⟩:=CBx.new hW1
 obtain⟨W2,hW2⟩: ∃W,W=W1.alloc (Obj.cells #[Value.int IntKind.i64 b1,Value.int IntKind.i64 (nb:Int), .slice B bs.length cb] 31):=⟨_,rfl⟩
 rw[←hW2]
 obtain⟨x2,bx2,s2⟩:=CBx.new hW2
 obtain⟨W,hW⟩: ∃W,W=W2.alloc (Obj.cells #[Value.int IntKind.i64 0,Value.int IntKind.i64 0, .slice none 0 0] 31):=⟨_,rfl⟩
 rw[←hW]
 obtain⟨x3,bx3,s3⟩:=CBx.new hW
 have XA:=hDD ((x1.below bx2).below bx3)
 have XB:=hDD (x2.below bx3)
 have XR:=hDD x3
 rw[s1] at XB
 rw[s2,s1] at XR
 have BX:Hid (Below w.heap.size w W):=hDD (bx1.trans ((bx2.trans (bx3.mono (by omega))).mono (by omega)))
 have hsW:W.heap.size=w.heap.size+3:=by omega
 clear hW hW1 hW2 bx1 bx2 bx3 x1 x2 x3 s1 s2 s3
 have HA:Hid (∀w',Below W.heap.size W w'→ArgG w' (.agg #[.int .i64 (rn:Int), .int .i64 (na:Int), .slice A as'.length ca]) ((rn:Int),(na:Int),as')):=hDD fun w' hb=>HGA.out.below (BX.out.trans (hb.mono (by omega)))
 have HB:Hid (∀w',Below W.heap.size W w'→ArgG w' (.agg #[.int .i64 b1, .int .i64 (nb:Int), .slice B bs.length cb]) (b1,(nb:Int),bs)):=hDD fun w' hb=>HGB.out.below (BX.out.trans (hb.mono (by omega)))
 have h1:=implIsFolded_any _ ((rn:Int),(na:Int),as') W (HA.out W (Below.refl _ _))
 rw[HFA.out] at h1
 refine h1.mono ?_
 clear h1
 rintro e w1 ⟨rfl,b1'⟩
 have B1:=hDD b1'
 have u0:=(XB.out.below b1').c0
 have u1:=(XB.out.below b1').c1
 have u2:=(XB.out.below b1').c2
 have hw1:=b1'.size
 have hl1:w.heap.size+1<w1.heap.size:=by omega
 clear b1'
 go_wp2_with fail
 have h1:=implIsFolded_any _ (b1,(nb:Int),bs) w1 (HB.out w1 B1.out)
 rw[HFB.out] at h1
 refine h1.mono ?_
 clear h1 u0 u1 u2
 rintro e w2 ⟨rfl,b2'⟩
 have B2:=hDD (B1.out.trans (b2'.mono B1.out.size))
 have hw2:=b2'.size
 clear b2'
 have u0:=(XA.out.below B2.out).c0
 have u1:=(XA.out.below B2.out).c1
 have u2:=(XA.out.below B2.out).c2
 have v0:=(XB.out.below B2.out).c0
 have v1:=(XB.out.below B2.out).c1
 have v2:=(XB.out.below B2.out).c2
 have z0:=(XR.out.below B2.out).c0
 have z1:=(XR.out.below B2.out).c1
 have z2:=(XR.out.below B2.out).c2
 have zf0:=(XR.out.below B2.out).fz 0
 have zf1:=(XR.out.below B2.out).fz 1
 have zf2:=(XR.out.below B2.out).fz 2
 have hla:w.heap.size<w2.heap.size:=by omega
 have hlb:w.heap.size+1<w2.heap.size:=by omega
 have hlc:w.heap.size+1+1<w2.heap.size:=by omega
 rcases er:((rn:Int) != b1) with _ | _
 rotate_left
 ·have hrb:(rn:Int)≠b1:=by simpa using er
  have F:=hDD (HR0.out hrb)
  have HBF:=hDD (BX.out.trans (B2.out.mono (by omega)))
  go_wp2
  obtain⟨e0,e1,e2⟩:=cells3F (.int .i64 0) (.int .i64 0) (.slice none 0 0) z0 z1 z2
  have bw:Below w.heap.size w (((w2.setCell ⟨w.heap.size+1+1,0,none⟩ (.int .i64 0)).setCell ⟨w.heap.size+1+1,1,none⟩ (.int .i64 0)).setCell ⟨w.heap.size+1+1,2,none⟩ (.slice none 0 0)):=set3_below _ _ _ HBF.out (by omega)
  generalize (((w2.setCell ⟨w.heap.size+1+1,0,none⟩ (.int .i64 0)).setCell ⟨w.heap.size+1+1,1,none⟩ (.int .i64 0)).setCell ⟨w.heap.size+1+1,2,none⟩ (.slice none 0 0))=wf at*
  rw[F.out]
  exact bodyPost_ret (v:= .tuple #[.agg #[.int .i64 0, .int .i64 0, .slice none 0 0], .bool false]) (by simp[results,Tryz.results35,go_sem,e0,e1,e2]) rfl ⟨_,rfl,⟨.slice none 0 0,rfl,⟨by decide,by decide⟩,⟨by decide,by decide⟩,OwE.nil⟩,bw⟩
 have hrb:(rn:Int)=b1:=by simpa using er
 subst hrb
 have HR2b:Hid (PO=true→RES=(PG,true)):=hDD fun h=>HR2.out rfl h
 clear er HR0 HR2 z0 z1 z2 zf0 zf1 zf2
 go_wp2_with fail
 refine(grHas_any _ _ _ _ _ _ _).mono ?_
 rintro e w3 ⟨rfl,b3'⟩
 rw[HI1.out]
 have B3:=hDD (B2.out.trans (b3'.mono B2.out.size))
 have hw3:=b3'.size
 clear b3' u0 u1 u2 v0 v1 v2
 have u0:=(XB.out.below B3.out).c0
 have u1:=(XB.out.below B3.out).c1
 have u2:=(XB.out.below B3.out).c2
 have hlb3:w.heap.size+1<w3.heap.size:=by omega
 go_wp2_with fail
 refine(grHas_any _ _ _ _ _ _ _).mono ?_
 rintro e w4 ⟨rfl,b4'⟩
 rw[HI2.out]
 have B4:=hDD (B3.out.trans (b4'.mono B3.out.size))
 have hw4:=b4'.size
 clear b4' u0 u1 u2
 have u0:=(XA.out.below B4.out).c0
 have hla4:w.heap.size<w4.heap.size:=by omega
 have i64u:I64 (u:Int):=nat_I64 (by omega)
 have i64v:I64 (v:Int):=nat_I64 (by omega)
 have HKU:=hDD (kp_key i64u i64v)
 have hmm:= @run_makeMap Tryz.prog
 have HM0:=hDD (World.ownsMap_made w4 Tryz.prog 80 (plainElem (H:=Unit) Tryz.prog 3))
 clear i64u i64v
 go_wp2_with (refine wp_insert _ rfl _ _ _ 84 rfl 80 3 lawP Tryz.underlying84 _ w4.heap.size 0 _ rfl HM0.out (by unfold maxLen;omega) _ _ (kp (u:Int) (v:Int)) rfl rfl HKU.out _ [] (plainElem_int Tryz.underlying3 (by decide)) ?_;intro w5 hown5 hgrow5;have B5:Hid (Below w4.heap.size w4 w5):=hDD (((Below.refl w4.heap.size w4).alloc (Nat.le_refl _) _).grown hgrow5 (by simp) (fun j hj=>by cases hj;exact Nat.le_refl _));clear u0;have u0:=(XA.out.below (B4.out.trans (B5.out.mono B4.out.size))).c0;have hla5:w.heap.size<w5.heap.size:=by(have:=B5.out.size;omega))
 have hw5:w4.heap.size<w5.heap.size:=hown5.lt
 obtain⟨W6,hW6⟩: ∃W,W=w5.alloc (.cells #[.int .i64 (u:Int), .int .i64 (v:Int)] 80):=⟨_,rfl⟩
 have op6:OwPr W6 (w4.heap.size+1) (.slice (some ⟨w5.heap.size,0,none⟩) 1 1) nb [u*nb+v]:=by
  rw[hW6]
  exact OwPr_oneP w5 (by omega) (by omega)
 have b6:Below w5.heap.size w5 W6:=by rw[hW6];exact(Below.refl _ _).alloc (Nat.le_refl _) _
 have hs6:W6.heap.size=w5.heap.size+1:=by rw[hW6];simp
 rw[←hW6]
 obtain⟨W7,hW7⟩: ∃W,W=W6.alloc (Obj.cells #[Value.int IntKind.i64 (rn:Int),Value.int IntKind.i64 0, .slice none 0 0] 31):=⟨_,rfl⟩
 have GB7:=hDD (GBx.new (m:=((rn:Int),0,[])) (base:=W6.heap.size+1) (A:=none) (c:=0) OwE.nil (by unfold I64;simp only;omega) (by unfold I64;simp only;omega) hW7)
 obtain⟨_,b7,hs7⟩:=CBx.new hW7
 rw[←hW7]
 have OP7:Hid (OwPr W7 (w4.heap.size+1) (.slice (some ⟨w5.heap.size,0,none⟩) 1 1) nb [u*nb+v]):=hDD (ownsRow_below op6 b7)
 have MI1:Hid (MapI nb ((DataW.map []).put (kp (u:Int) (v:Int)) (.lit (.int .i64 0))) [u*nb+v]):=hDD (by
  have:=(MapI.nil nb).put (by omega) (s:=u) (t:=v) (by omega) (by omega) (by simp)
  simpa using this)
 have OM7:=hDD ((hown5.kept (grown_bel (row:=none) b6) (by simp)).kept (grown_bel (row:=none) b7) (by simp))
 have hhs:w4.heap.size+1≤w5.heap.size:=hw5
 have B7:Hid (Below w4.heap.size w4 W7):=hDD (B5.out.trans ((b6.trans (b7.mono (by omega))).mono (by omega)))
 obtain⟨p,hp⟩: ∃p,p=W6.heap.size:=⟨_,rfl⟩
 rw[←hp] at GB7
 have hpe:p=w5.heap.size+1:=by omega
 have HAw:Hid (∀w',Below w4.heap.size w4 w'→Below W.heap.size W w'):=hDD fun w' hb=>B4.out.trans (hb.mono B4.out.size)
 have HXA:Hid (∀w',Below w4.heap.size w4 w'→CBx w' w.heap.size (.int .i64 (rn:Int)) (.int .i64 (na:Int)) (.slice A as'.length ca)∧CBx w' (w.heap.size+1) (.int .i64 (rn:Int)) (.int .i64 (nb:Int)) (.slice B bs.length cb)):=hDD fun w' hb=>⟨XA.out.below (HAw.out w' hb),XB.out.below (HAw.out w' hb)⟩
 have HLE:Hid (∀W:World,Calls Tryz.prog 66 #[.int .i64 (rn:Int)] W fun e w'=> ∃r,e= .returned r∧OwI w' W.heap.size r (lettersL rn)∧Below W.heap.size W w'):=hDD fun W=>letters_any rn W (by omega)
 have hll:=lettersL_len rn
 have hl6:(lettersL rn).length≤6:=by omega
 have hl1':1≤(lettersL rn).length:=by omega
 have HRNG:Hid (∀x∈lettersL rn,-3≤x∧x≤3):=hDD fun x hx=>by have:=letters_mem.1 hx;omega
 have HPF:=hDD (fun k=>peF_letters as' bs nb P k rn)
 have HTWB:=hDD (fun (o:List Nat) (h1:o.Nodup) (h2: ∀q∈o,q<na*nb)=>nodup_lt h1 h2)
 have hnn:na*nb≤1600:=Nat.mul_le_mul hbd.1.2 hbd.2.2
 have hpb0:u*nb+v<na*nb:=pair_lt (by omega) (by omega)
 clear hll hW6 hW7 hown5 hgrow5 op6 b6 b7 u0 hmm
 generalize lettersL rn=ls at*
 have hslot:w5.heap.size+1=p:=hpe.symm
 go_wp2
 rw[hslot]
 have hpe1:p≤w5.heap.size+1:=by omega
 have hpe2:w5.heap.size+1≤p:=by omega
 have hp6':p≤W6.heap.size:=by omega
 have hp7':W7.heap.size≤p+1∧p+1≤W7.heap.size:=by omega
 clear hslot hpe hp hs6 hs7
 go_loopw [11,13] (fun vo i wr=> ∃(k:Nat) (o:List Nat) (D:DataW Unit) (A2:Option Addr) (c2:Nat),k≤o.length∧i= .int .i64 k∧o.Nodup∧(∀q∈o,q<na*nb)∧P=bfsF as' bs nb ls (na*nb+1-k) k o∧OwPr wr (w4.heap.size+1) vo nb o∧wr.ownsMap Tryz.prog 80 (plainElem (H:=Unit) Tryz.prog 3) w4.heap.size o.length D∧MapI nb D o∧GBx wr p (p+1) A2 c2 ((rn:Int),0,peL as' bs nb rn P k)∧(∀b,vo.ownBlock=some b→b≠p∧(Value.slice A2 (peL as' bs nb rn P k).length c2).ownBlock≠some b)∧Below w4.heap.size w4 wr) (fun _ i _=>1601-(intOf i).toNat)
 case atStart=>exact⟨0,[u*nb+v],_,none,0,Nat.zero_le _,rfl,by simp,fun q hq=>by rw[List.mem_singleton.1 hq];exact hpb0,HPP.out,OP7.out,OM7.out,MI1.out,GB7.out.mono (by omega),fun b hb=>⟨by simp[Value.ownBlock] at hb;omega,by simp[Value.ownBlock,peL]⟩,B7.out⟩
 case round=>
  obtain⟨k,o,D,A2,c2,hk,rfl,hnd,hlt',hP,hop,hom,hmi,hgb,hdj,hbr⟩:=hrel
  obtain⟨wk,rfl⟩: ∃wk:World,wk=wr:=⟨_,rfl⟩
  have hol:=HTWB.out o hnd hlt'
  have HND:=hDD hnd
  have HLT:=hDD hlt'
  have HPE:=hDD hP
  have HOP:=hDD hop
  have HOM:=hDD hom
  have HMI:=hDD hmi
  have HGB:=hDD hgb
  have HDJ:=hDD hdj
  have HBR:=hDD hbr
  have hwk:=hbr.size
  obtain⟨Ao,co,rfl,hco,hmo,_,hfo⟩:=owns_form hop
  clear hnd hlt' hP hop hom hmi hgb hdj hbr
  by_cases hlt:k<o.length
  ·obtain⟨pk,hpk⟩: ∃pk,o[k]? =some pk:=⟨o[k],List.getElem?_eq_getElem hlt⟩
   have hpn:=HLT.out pk (List.mem_of_getElem? hpk)
   have HPU:Hid (∀m:Nat,((ls.take m).foldl (pst as' bs nb pk) o)[k]? =some pk):=hDD fun m=>pfold_prefix (a:=((rn:Int),(na:Int),as')) (b:=((rn:Int),(nb:Int),bs)) (B:=nb) _ _ _ hpk
   have HNX:Hid (P=bfsF as' bs nb ls (na*nb+1-(k+1)) (k+1) (ls.foldl (pst as' bs nb pk) o)):=hDD (by
    have h:=HPE.out
    rw[show na*nb+1-k=(na*nb+1-(k+1))+1 by omega,bfs_next _ hpk] at h
    exact h)
   have HFP:Hid (∀j y:Nat,(ls.foldl (pst as' bs nb pk) o)[j]? =some y→P[j]? =some y):=hDD fun j y h=>by rw[HNX.out];exact bfs_prefix _ _ _ _ _ _ h
   have HTP:Hid (∀m:Nat,∀j y:Nat,((ls.take m).foldl (pst as' bs nb pk) o)[j]? =some y→P[j]? =some y):=hDD fun m j y h=>by
    refine HFP.out j y ?_
    have e:ls.foldl (pst as' bs nb pk) o=(ls.drop m).foldl (pst as' bs nb pk) ((ls.take m).foldl (pst as' bs nb pk) o):=by rw[←List.foldl_append,List.take_append_drop]
    rw[e]
    exact pfold_prefix (a:=((rn:Int),(na:Int),as')) (b:=((rn:Int),(nb:Int),bs)) (B:=nb) _ _ _ h
   have HPG2:Hid (P.getD k 0=pk):=hDD (by
    have h1:=HTP.out 0 k pk (by simpa using hpk)
    rw[List.getD_eq_getElem?_getD,h1];rfl)
   have HNDm:Hid (∀m:Nat,((ls.take m).foldl (pst as' bs nb pk) o).Nodup):=hDD fun m=>pfold_nodup (a:=((rn:Int),(na:Int),as')) (b:=((rn:Int),(nb:Int),bs)) (B:=nb) _ _ _ HND.out
   have HLTm:Hid (∀m:Nat,∀q∈(ls.take m).foldl (pst as' bs nb pk) o,q<na*nb):=hDD fun m=>pfold_all (a:=((rn:Int),(na:Int),as')) (b:=((rn:Int),(nb:Int),bs)) (B:=nb) (ls:=ls.take m) (S:=fun q=>q<na*nb) (fun p x q _ _ hq=>HPS.out p q x hq) hpn (ls.take m) o (fun _ h=>h) HLT.out
   have HPI:Hid (∀m:Nat,∀q∈(ls.take m).foldl (pst as' bs nb pk) o,P.idxOf q=((ls.take m).foldl (pst as' bs nb pk) o).idxOf q):=hDD fun m q hq=>idx_prefix HPN.out (HTP.out m) hq
   have HSU:Hid (∀(m:Nat) (hm:m<ls.length),(ls.take (m+1)).foldl (pst as' bs nb pk) o=pst as' bs nb pk ((ls.take m).foldl (pst as' bs nb pk) o) ls[m]):=hDD fun m hm=>by
    rw[List.take_succ_eq_append_getElem hm,List.foldl_append];rfl
   have HLM:Hid (∀(m:Nat) (hm:m<ls.length),ls[m]∈ls):=hDD fun m hm=>List.getElem_mem hm
   have HFS:Hid (∀(m:Nat) (hm:m<ls.length),peF as' bs nb P k (ls.take (m+1))=peF as' bs nb P k (ls.take m)++(if 0<ls[m] then peE as' bs nb P k ls[m] else none).toList):=hDD fun m hm=>peF_succ _ _ _ _ _ _ _ hm
   have HFL:Hid (∀m:Nat,(peF as' bs nb P k (ls.take m)).length≤6):=hDD fun m=>Nat.le_trans (peF_le _ _ _ _ _ _) (by rw[List.length_take];omega)
   obtain⟨un,hun⟩: ∃un,un=pk/nb:=⟨_,rfl⟩
   obtain⟨vn,hvn⟩: ∃vn,vn=pk%nb:=⟨_,rfl⟩
   have HUN:=hDD hun
   have HVN:=hDD hvn
   have hkP:k<1600:=by omega
   have HBL:Hid ((peL as' bs nb rn P k).length≤4800):=hDD (by
    have h1:=HEL.out k
    have h2:=Nat.mul_le_mul (show k≤1600 by omega) (show rn≤3 by omega)
    omega)
   have HLS:=hDD (peL_succ as' bs nb rn P k)
   have HPFk:=hDD (HPF.out k)
   obtain⟨BL,hBL⟩: ∃L,peL as' bs nb rn P k=L:=⟨_,rfl⟩
   rw[hBL] at HBL HLS HGB HDJ
   obtain⟨bo,rfl,hbo1,hbo2⟩:=hfo (by omega)
   have u0:=(HXA.out wk HBR.out).1.c0
   clear hBL hun hvn hpk hfo
   go_wp2_with fail
   refine(HLE.out wk).mono ?_
   rintro e wl ⟨rl,rfl,ol,bL⟩
   have hsl:=bL.size
   have HOPL:Hid (OwPr wl (w4.heap.size+1) (.slice (some ⟨bo,0,none⟩) o.length co) nb o):=hDD (ownsRow_below HOP.out bL)
   have HOML:=hDD (HOM.out.kept (grown_bel (row:=none) bL) (by simp))
   have HGBL:=hDD (HGB.out.below bL)
   have BLB:=hDD (HBR.out.trans (bL.mono hwk))
   obtain⟨Al,capl,rfl,hcl,hml,_,hfl⟩:=ol.form
   obtain⟨bl,rfl,hbl1,hbl2⟩:=hfl (by omega)
   unfold maxLen at hml
   have OL:=hDD ol.rd
   have hpl0:=HGB.out.lt
   have HEB:Hid (∀b,(Value.slice A2 BL.length c2).ownBlock=some b→b<wk.heap.size):=hDD fun b hb=>(HGB.out.ow.1.lt b hb).2
   clear ol bL hfl u0
   go_wp2
   go_loopw [11,70] (fun vo j wr=> ∃(m:Nat) (D:DataW Unit) (A2:Option Addr) (c2:Nat),m≤ls.length∧j= .int .i64 m∧OwPr wr (w4.heap.size+1) vo nb ((ls.take m).foldl (pst as' bs nb pk) o)∧wr.ownsMap Tryz.prog 80 (plainElem (H:=Unit) Tryz.prog 3) w4.heap.size ((ls.take m).foldl (pst as' bs nb pk) o).length D∧MapI nb D ((ls.take m).foldl (pst as' bs nb pk) o)∧GBx wr p (p+1) A2 c2 ((rn:Int),0,BL++peF as' bs nb P k (ls.take m))∧(∀b,vo.ownBlock=some b→b≠p∧b≠bl∧(Value.slice A2 (BL++peF as' bs nb P k (ls.take m)).length c2).ownBlock≠some b)∧(Value.slice A2 (BL++peF as' bs nb P k (ls.take m)).length c2).ownBlock≠some bl∧RdI wr (.slice (some ⟨bl,0,none⟩) ls.length capl) ls∧bl<wr.heap.size∧Below w4.heap.size w4 wr) (fun _ j _=>ls.length-(intOf j).toNat)
   case atStart=>exact⟨0,D,A2,c2,Nat.zero_le _,rfl,HOPL.out,HOML.out,HMI.out,by simpa[peF] using HGBL.out,fun b hb=>⟨(HDJ.out b hb).1,by simp[Value.ownBlock] at hb;omega,by simpa[peF] using (HDJ.out b hb).2⟩,fun e=>by have:=HEB.out bl (by simpa[peF] using e);omega,OL.out,hbl2,BLB.out⟩
   case round=>
    obtain⟨m,D,A2,c2,hm1,rfl,hop,hom,hmi,hgb,hdj,hej,hrd,hblr,hbr⟩:=hrel
    have HOP:=hDD hop
    have HOM:=hDD hom
    have HMI:=hDD hmi
    have HGB:=hDD hgb
    have HDJ:=hDD hdj
    have HEJ:=hDD hej
    have HRD:=hDD hrd
    have HBR2:=hDD hbr
    have hwr:=hbr.size
    clear hom hmi hgb hdj hej hbr
    by_cases hlt2:m<ls.length
    ·have HS:=hDD (HSU.out m hlt2)
     have HF:=hDD (HFS.out m hlt2)
     have hfl:=HFL.out m
     have HX3:=hDD (HRNG.out _ (HLM.out m hlt2))
     have hpu:=HPU.out m
     have HND2:=hDD (HNDm.out m)
     have HLT2:=hDD (HLTm.out m)
     have HPI2:=hDD (HPI.out (m+1))
     have hoL:=HTWB.out _ HND2.out HLT2.out
     obtain⟨bl',offl',hAl,_,hcl2⟩:=hrd.at (by omega)
     obtain⟨rfl,rfl⟩:bl=bl'∧0=offl':=by simpa using hAl
     have c0:=hcl2 m hlt2
     rw[Nat.zero_add] at c0
     obtain⟨x,hx⟩: ∃x,ls[m]=x:=⟨_,rfl⟩
     rw[hx] at c0 HS HF HX3
     obtain⟨FF,hFF⟩: ∃L,peF as' bs nb P k (ls.take m)=L:=⟨_,rfl⟩
     rw[hFF] at HF hfl HGB HDJ HEJ
     rw[HS.out] at HPI2
     obtain⟨om,hom⟩: ∃om,(ls.take m).foldl (pst as' bs nb pk) o=om:=⟨_,rfl⟩
     rw[hom] at HS hpu HND2 HLT2 hoL hop HOP HOM HMI HPI2
     clear hx hFF hom hAl hcl2 hrd
     have hkm:k<om.length:=(List.getElem?_eq_some_iff.1 hpu).1
     have hkg:om[k]=pk:=by rw[List.getElem?_eq_getElem hkm] at hpu;injection hpu
     obtain⟨At,ct,rfl,hct,hmt,_,hft⟩:=owns_form hop
     obtain⟨tb,rfl,htb1,htb2⟩:=hft (by omega)
     have ck0:wr.cell? ⟨tb,k*2,none⟩=some (.int .i64 un):=by
      have h1:=World.ownsRow.cellAt hop (k*2+0) (by omega)
      rw[prCs_get nb om k 0 hkm (by omega),hkg] at h1
      rw[HUN.out]
      exact h1
     have ck1:wr.cell? ⟨tb,k*2+1,none⟩=some (.int .i64 vn):=by
      have h1:=World.ownsRow.cellAt hop (k*2+1) (by omega)
      rw[prCs_get nb om k 1 hkm (by omega),hkg] at h1
      rw[HVN.out]
      exact h1
     have a0:=(HXA.out wr HBR2.out).1.c0
     have a1:=(HXA.out wr HBR2.out).1.c1
     have a2:=(HXA.out wr HBR2.out).1.c2
     have b0:=(HXA.out wr HBR2.out).2.c0
     have b1:=(HXA.out wr HBR2.out).2.c1
     have b2:=(HXA.out wr HBR2.out).2.c2
     have hkmi:(k:Int)<(om.length:Int):=by omega
     have HPX:Hid (pnx as' bs nb pk x=if 0≤nextV as' (un:Int) x∧0≤nextV bs (vn:Int) x then some ((nextV as' (un:Int) x).toNat*nb+(nextV bs (vn:Int) x).toNat) else none):=hDD (by unfold pnx;rw[←HUN.out,←HVN.out])
     have HPEE:Hid (peE as' bs nb P k x=(pnx as' bs nb pk x).map fun q=>((k:Int),x,((P.idxOf q:Nat):Int))):=hDD (by unfold peE;rw[HPG2.out])
     have HNA2:=hDD (fun W h=>implNextVertex_any (.agg #[.int .i64 (rn:Int), .int .i64 (na:Int), .slice A as'.length ca]) ((rn:Int),(na:Int),as') (un:Int) x W h (OA.out (un:Int) x) LA.out)
     have HNB2:=hDD (fun W h=>implNextVertex_any (.agg #[.int .i64 (rn:Int), .int .i64 (nb:Int), .slice B bs.length cb]) ((rn:Int),(nb:Int),bs) (vn:Int) x W h (OB.out (vn:Int) x) LB.out)
     have HY1:=hDD (HNA.out (un:Int) x)
     have HY2:=hDD (HNB.out (vn:Int) x)
     have g0:w.heap.size<wr.heap.size:=by omega
     have g1:w.heap.size+1<wr.heap.size:=by omega
     have hplr:=HGB.out.lt
     clear hop hft hpu hkg
     go_wp2_with fail
     have f0:=BelW.cell a0 g0
     have f1:=BelW.cell a1 g0
     have f2:=BelW.cell a2 g0
     have f3:=BelW.cell b0 g1
     have f4:=BelW.cell b1 g1
     have f5:=BelW.cell b2 g1
     have f6:=BelW.cell ck0 htb2
     have f7:=BelW.cell ck1 htb2
     (refine wp_region_quiet_bel (by kernel_rfl) (by kernel_rfl) ?_;(repeat(go_big_quiet_step (first | (go_at_call 67;with_reducible exact Calls.bel_of (HNA2.out _ (HA.out _ (HAw.out _ (HBR2.out.trans ((BelW.h _).mono hwr)))))) | (go_at_call 67;with_reducible exact Calls.bel_of (HNB2.out _ (HB.out _ (HAw.out _ (HBR2.out.trans ((BelW.h _).mono hwr)))))))));refine wpQuiet_nil ?_;intro wq hw';obtain⟨pq,hw''⟩:=hw';have bq:=pq.h;rw[←hw''] at bq;clear hw'' pq)
     clear f0 f1 f2 f3 f4 f5 f6 f7 a0 a1 a2 b0 b1 b2 ck0 ck1 c0 g0 g1
     have sq:=bq.size
     have HOPq:Hid (OwPr wq (w4.heap.size+1) (.slice (some ⟨tb,0,none⟩) om.length ct) nb om):=hDD (ownsRow_below HOP.out bq)
     have HOMq:=hDD (HOM.out.kept (grown_bel (row:=none) bq) (by simp))
     have HGBq:=hDD (HGB.out.below bq)
     have HRDq:=hDD (HRD.out.below bq)
     have HBq:=hDD (HBR2.out.trans (bq.mono hwr))
     clear bq
     rcases ey:decide (0≤nextV as' (un:Int) x∧0≤nextV bs (vn:Int) x) with _ | _
     ·have hyn: ¬(0≤nextV as' (un:Int) x∧0≤nextV bs (vn:Int) x):=by simpa using ey
      have hpx:pnx as' bs nb pk x=none:=by rw[HPX.out,if_neg hyn]
      have HS0:Hid ((ls.take (m+1)).foldl (pst as' bs nb pk) o=om):=hDD (by rw[HS.out];unfold pst;rw[hpx])
      have HF0:Hid (peF as' bs nb P k (ls.take (m+1))=FF):=hDD (by rw[HF.out,HPEE.out,hpx];simp)
      generalize nextV as' (un:Int) x=y1 at*
      generalize nextV bs (vn:Int) x=y2 at*
      clear HPX HPEE HNA2 HNB2 hpx HPI2 HS HF
      rcases e1:decide (y1<0) with _ | _
      ·have h1: ¬y1<0:=by simpa using e1
       have h2:y2<0:=by
        apply Classical.byContradiction
        intro h
        exact hyn ⟨by omega,by omega⟩
       go_wp2
       go_roundw
       case rel=>exact⟨m+1,D,A2,c2,by omega,by go_num,by rw[HS0.out];exact HOPq.out,by rw[HS0.out];exact HOMq.out,by rw[HS0.out];exact HMI.out,by rw[HF0.out];exact HGBq.out,by rw[HF0.out];exact HDJ.out,by rw[HF0.out];exact HEJ.out,HRDq.out,by omega,HBq.out⟩
       case measure=>simp[intOf];omega
      ·have h1:y1<0:=by simpa using e1
       go_wp2
       go_roundw
       case rel=>exact⟨m+1,D,A2,c2,by omega,by go_num,by rw[HS0.out];exact HOPq.out,by rw[HS0.out];exact HOMq.out,by rw[HS0.out];exact HMI.out,by rw[HF0.out];exact HGBq.out,by rw[HF0.out];exact HDJ.out,by rw[HF0.out];exact HEJ.out,HRDq.out,by omega,HBq.out⟩
       case measure=>simp[intOf];omega
     ·have hyy:0≤nextV as' (un:Int) x∧0≤nextV bs (vn:Int) x:=by simpa using ey
      have hy1r:=HY1.out
      have hy2r:=HY2.out
      obtain⟨y1,hy1⟩: ∃y:Nat,nextV as' (un:Int) x=(y:Int):=⟨(nextV as' (un:Int) x).toNat,by omega⟩
      obtain⟨y2,hy2⟩: ∃y:Nat,nextV bs (vn:Int) x=(y:Int):=⟨(nextV bs (vn:Int) x).toNat,by omega⟩
      have hpx:pnx as' bs nb pk x=some (y1*nb+y2):=by
       rw[HPX.out,if_pos hyy,hy1,hy2];rfl
      have hq1:=HPS.out pk (y1*nb+y2) x hpx
      rw[hy1,hy2] at hyy⊢
      have hy1n:y1<na:=by omega
      have hy2n:y2<nb:=by omega
      have hps:pst as' bs nb pk om x=if y1*nb+y2∈om then om else om++ [y1*nb+y2]:=by unfold pst;rw[hpx]
      rw[hps] at HS HPI2
      have HPE2:Hid (peE as' bs nb P k x=some ((k:Int),x,((P.idxOf (y1*nb+y2):Nat):Int))):=hDD (by rw[HPEE.out,hpx];rfl)
      rw[HPE2.out] at HF
      have HKY:=hDD (kp_key (nat_I64 (n:=y1) (by omega)) (nat_I64 (n:=y2) (by omega)))
      have HHS:=hDD (HMI.out.has y1 y2 (by omega) hy2n)
      have hy1f: ¬(y1:Int)<0:=by omega
      have hy2f: ¬(y2:Int)<0:=by omega
      have HPRC:Hid (prC nb (y1*nb+y2)= [.int .i64 (y1:Int), .int .i64 (y2:Int)]):=hDD (prC_ofP hy2n)
      clear hy1 hy2 hyy hy1r hy2r hpx hps HPX HPEE HPE2 HNA2 HNB2 HY1 HY2 ey
      rcases ex:decide (0<x) with _ | _
      ·have hx0: ¬0<x:=by simpa using ex
       have HF0:Hid (peF as' bs nb P k (ls.take (m+1))=FF):=hDD (by rw[HF.out,if_neg hx0];simp)
       rcases eq:decide (y1*nb+y2∈om) with _ | _
       ·have hnq:y1*nb+y2∉om:=by simpa using eq
        have HS1:Hid ((ls.take (m+1)).foldl (pst as' bs nb pk) o=om++ [y1*nb+y2]):=hDD (by rw[HS.out,if_neg hnq])
        have HMN:=hDD (HMI.out.put (by omega) (s:=y1) (t:=y2) (by omega) hy2n hnq)
        rw[eq] at HHS
        have HWL:=hDD (wf_nat (nat_I64 (n:=om.length) (by omega)))
        clear hnq eq ex HF HS HPI2
        obtain⟨qn,hqn⟩: ∃q,y1*nb+y2=q:=⟨_,rfl⟩
        rw[hqn] at HS1 HMN HPRC hq1
        clear hqn
        go_wp2_with (first
         | (at_lookup;refine wpList_lookup_own_ok_int _ rfl _ _ 84 rfl 80 3 .i64 lawP Tryz.underlying84 Tryz.underlying3 (zeroP _) w4.heap.size om.length D rfl HOMq.out _ (kp (y1:Int) (y2:Int)) rfl HKY.out ?_;intro c hat hwc;rw[HHS.out])
         | (at_mapUpdate;refine wpList_mapUpdate_own _ rfl _ _ _ 84 rfl 80 3 lawP Tryz.underlying84 _ w4.heap.size om.length D rfl HOMq.out (by unfold maxLen;omega) _ _ (kp (y1:Int) (y2:Int)) rfl rfl HKY.out _ [] (plainElem_int Tryz.underlying3 HWL.out) ?_;intro w8 hown8 hgrow8;have hw8:=hgrow8.size;have HOP8:Hid (OwPr w8 (w4.heap.size+1) (.slice (some ⟨tb,0,none⟩) om.length ct) nb om):=hDD (owns_keep HOPq.out fun b e=>hgrow8.block b (by have:=(World.ownsRow.lt HOPq.out b e).2;omega) (fun e2=>by have:=(World.ownsRow.lt HOPq.out b e).1;cases e2;omega)))
         | (at_builtin;refine push_pair rfl (.tmp 113) (.tmp 117) rfl (w4.heap.size+1) _ nb om (ownsRow_below HOP8.out ((Below.refl _ _).alloc (Nat.le_refl _) _)) rfl w8.heap.size qn rfl (fun j u hj=>by rw[HPRC.out] at hj;rcases j with _ | _ | j<;>simp at hj<;>subst hj<;>simp[go_sem]) (by omega) (by simp;omega) ?_;intro v9 w9 o9 g9 p9;have HOP9:=hDD o9;have hw9:w8.heap.size+1≤w9.heap.size:=(by have h:=g9.size;simp at h;omega);have HOM9:=hDD ((hown8.alloc (.cells #[.int .i64 (y1:Int), .int .i64 (y2:Int)] 80)).kept g9 (fun e=>by simp[Value.ownBlock] at e;omega));have HEL9:Hid (∀b,(Value.slice A2 (BL++FF).length c2).ownBlock=some b→p+1≤b∧b<wq.heap.size):=hDD (fun b hb=>HGBq.out.ow.1.lt b hb);have HGB9:=hDD (((HGBq.out.grown hgrow8 (fun b hb=>⟨by cases hb;omega,fun e=>by have:=(HEL9.out b e).1;cases hb;omega⟩)).below ((Below.refl _ _).alloc (Nat.le_refl _) (.cells #[.int .i64 (y1:Int), .int .i64 (y2:Int)] 80))).grown g9 (fun b hb=>⟨(HDJ.out b hb).1,(HDJ.out b hb).2.2⟩));have HRD9:Hid (RdI w9 (.slice (some ⟨bl,0,none⟩) ls.length capl) ls):=hDD (((HRDq.out.grown hgrow8 (fun b hb hb'=>by simp[Value.ownBlock] at hb;cases hb';omega)).alloc _).grown g9 (fun b hb hb'=>by simp[Value.ownBlock] at hb;exact(HDJ.out b hb').2.1 hb.symm));have HB8:Hid (Below w4.heap.size w4 w8):=hDD (HBq.out.grown hgrow8 (by omega) (fun j hj=>by cases hj;exact Nat.le_refl _));have HB9:Hid (Below w4.heap.size w4 w9):=hDD ((HB8.out.alloc (by omega) (.cells #[.int .i64 (y1:Int), .int .i64 (y2:Int)] 80)).grown g9 (by first | omega | (simp<;>omega)) (fun j hj=>by simp[Value.ownBlock] at hj;omega));have HDJ9:Hid (∀b,v9.ownBlock=some b→b≠p∧b≠bl∧(Value.slice A2 (BL++FF).length c2).ownBlock≠some b):=hDD (fun b hb=>p9.elim (fun p9=>HDJ.out b (p9.symm.trans hb)) (fun p9=>(by rw[p9] at hb;have hbb:b=w8.heap.size+1:=(by simpa using hb.symm);exact⟨by omega,by omega,fun e=>by have:=(HEL9.out b e).2;omega⟩)));obtain⟨A9,c9,hv9,_⟩:=owns_form HOP9.out;rw[List.length_append,List.length_singleton] at hv9;subst hv9;clear o9 g9 p9 hown8 hgrow8 hat hwc))
        go_roundw
        case rel=>exact⟨m+1,_,A2,c2,by omega,by go_num,by rw[HS1.out];exact HOP9.out,by rw[HS1.out,List.length_append];exact HOM9.out,by rw[HS1.out];exact HMN.out,by rw[HF0.out];exact HGB9.out,by rw[HF0.out];exact HDJ9.out,by rw[HF0.out];exact HEJ.out,HRD9.out,by omega,HB9.out⟩
        case measure=>simp[intOf];omega
       ·have hnq:y1*nb+y2∈om:=by simpa using eq
        have HS1:Hid ((ls.take (m+1)).foldl (pst as' bs nb pk) o=om):=hDD (by rw[HS.out,if_pos hnq])
        rw[eq] at HHS
        clear hnq eq ex HF HS HPI2
        go_wp2_with (first
         | (at_lookup;refine wpList_lookup_own_ok_int _ rfl _ _ 84 rfl 80 3 .i64 lawP Tryz.underlying84 Tryz.underlying3 (zeroP _) w4.heap.size om.length D rfl HOMq.out _ (kp (y1:Int) (y2:Int)) rfl HKY.out ?_;intro c hat hwc;rw[HHS.out]))
        go_roundw
        case rel=>exact⟨m+1,D,A2,c2,by omega,by go_num,by rw[HS1.out];exact HOPq.out,by rw[HS1.out];exact HOMq.out,by rw[HS1.out];exact HMI.out,by rw[HF0.out];exact HGBq.out,by rw[HF0.out];exact HDJ.out,by rw[HF0.out];exact HEJ.out,HRDq.out,by omega,HBq.out⟩
        case measure=>simp[intOf];omega
      ·have hx0:0<x:=by simpa using ex
       rw[if_pos hx0] at HF
       rcases eq:decide (y1*nb+y2∈om) with _ | _
       rotate_left
       ·have hnq:y1*nb+y2∈om:=by simpa using eq
        have HS1:Hid ((ls.take (m+1)).foldl (pst as' bs nb pk) o=om):=hDD (by rw[HS.out,if_pos hnq])
        rw[if_pos hnq] at HPI2
        have hid:=HPI2.out _ hnq
        have hjl:=List.idxOf_lt_length_of_mem hnq
        obtain⟨jx,hjx⟩: ∃j,om.idxOf (y1*nb+y2)=j:=⟨_,rfl⟩
        have HCC:Hid (∀c:Int,D.atKey (kp (y1:Int) (y2:Int)) (.lit (.int .i64 0))= .lit (.int .i64 c)→c=(jx:Int)):=hDD fun c hc=>by
         have h:=HMI.out.at_ y1 y2 (by omega) hy2n hnq
         rw[hc,hjx] at h
         injection h with h
         injection h
        have HF1:Hid (peF as' bs nb P k (ls.take (m+1))=FF++ [((k:Int),x,(jx:Int))]):=hDD (by rw[HF.out,hid,hjx];rfl)
        have hjx1:jx≤1600:=by omega
        rw[eq] at HHS
        clear hnq eq ex HF HS HPI2 hid hjl hjx
        go_wp2_with (first
         | (at_lookup;refine wpList_lookup_own_ok_int _ rfl _ _ 84 rfl 80 3 .i64 lawP Tryz.underlying84 Tryz.underlying3 (zeroP _) w4.heap.size om.length D rfl HOMq.out _ (kp (y1:Int) (y2:Int)) rfl HKY.out ?_;intro c hat hwc;rw[HHS.out];obtain rfl:=HCC.out c hat;clear hat hwc))
        obtain⟨L,hL⟩: ∃L,BL++FF=L:=⟨_,rfl⟩
        have hLl:L.length≤4900:=by rw[←hL,List.length_append];have:=HBL.out;omega
        have HF2:Hid (BL++peF as' bs nb P k (ls.take (m+1))=L++ [((k:Int),x,(jx:Int))]):=hDD (by rw[HF1.out,←hL,List.append_assoc])
        rw[hL] at HGBq HDJ HEJ
        clear hL HF1
        have z2:=HGBq.out.c2
        simp only at z2
        have hpX:=HGBq.out.lt
        have HE64:Hid (E64 ((k:Int),x,(jx:Int))):=hDD ⟨⟨by simp only;omega,by simp only;omega⟩,⟨by have:=HX3.out;simp only;omega,by have:=HX3.out;simp only;omega⟩,⟨by simp only;omega,by simp only;omega⟩⟩
        have HSTE:Hid (edV (stE (k:Int) x (jx:Int))= .agg #[.int .i64 (k:Int), .int .i64 x, .int .i64 (jx:Int)]):=hDD (by unfold stE;rw[if_neg (by omega)];rfl)
        have HSTP:=hDD (fun W'=>step_any (k:Int) x (jx:Int) W' HX3.out)
        refine wp_region_T' (n:=9) (S:=fun w'=>w'.cell? ⟨p,2,none⟩=some (.slice A2 L.length c2)) (by kernel_rfl) (by rfl) z2 (fun hHeld=> ?_)
        (refine wpAnyT_take (n:=9) (i:=0) (v:= ?_) rfl (by kernel_rfl) rfl (by decide) (by kernel_rfl) (by kernel_rfl) (by kernel_rfl) (by kernel_rfl) (fun _ _ _ h=>h) (Or.inl ⟨by rfl,?_⟩) (by assumption) ?_;rotate_left;focus (intro ww hSw;(try dsimp only at hSw);go_simp;try with_reducible rfl);(try simp only[Act.put,List.setIfInBounds_toArray,List.set_cons_zero,List.set_cons_succ]));(refine wpAnyT_take (n:=9) (i:=1) (v:= ?_) rfl (by kernel_rfl) rfl (by decide) (by kernel_rfl) (by kernel_rfl) (by kernel_rfl) (by kernel_rfl) (fun _ _ _ h=>h) (Or.inl ⟨by rfl,?_⟩) (by assumption) ?_;rotate_left;focus (intro ww hSw;(try dsimp only at hSw);go_simp;try with_reducible rfl);(try simp only[Act.put,List.setIfInBounds_toArray,List.set_cons_zero,List.set_cons_succ]));(refine wpAnyT_take (n:=9) (i:=2) (v:= ?_) rfl (by kernel_rfl) rfl (by decide) (by kernel_rfl) (by kernel_rfl) (by kernel_rfl) (by kernel_rfl) (fun _ _ _ h=>h) (Or.inl ⟨by rfl,?_⟩) (by assumption) ?_;rotate_left;focus (intro ww hSw;(try dsimp only at hSw);go_simp;try with_reducible rfl);(try simp only[Act.put,List.setIfInBounds_toArray,List.set_cons_zero,List.set_cons_succ]));(refine wpAnyT_take (n:=9) (i:=3) (v:= ?_) rfl (by kernel_rfl) rfl (by decide) (by kernel_rfl) (by kernel_rfl) (by kernel_rfl) (by kernel_rfl) (fun _ _ _ h=>h) (Or.inl ⟨by rfl,?_⟩) (by assumption) ?_;rotate_left;focus (intro ww hSw;(try dsimp only at hSw);go_simp;try with_reducible rfl);(try simp only[Act.put,List.setIfInBounds_toArray,List.set_cons_zero,List.set_cons_succ]));(refine wpAnyT_take (n:=9) (i:=4) (v:= ?_) rfl (by kernel_rfl) rfl (by decide) (by kernel_rfl) (by kernel_rfl) (by kernel_rfl) (by kernel_rfl) (fun _ _ _ h=>h) (Or.inl ⟨by rfl,?_⟩) (by assumption) ?_;rotate_left;focus (intro ww hSw;(try dsimp only at hSw);go_simp;try with_reducible rfl);(try simp only[Act.put,List.setIfInBounds_toArray,List.set_cons_zero,List.set_cons_succ]))
        refine wpAnyT_step (i:=5) (by kernel_rfl) rfl fun K' hK=> ?_
        go_simp
        refine(HSTP.out _).mono ?_
        rintro e w10 ⟨rfl,b10⟩
        rw[HSTE.out]
        have hw10:wq.heap.size≤w10.heap.size:=b10.size
        have b10':Below wq.heap.size wq w10:=(Below.refl _ _).drew.trans b10
        clear b10
        have z10:w10.cell? ⟨p,2,none⟩=some (.slice A2 L.length c2):=(b10'.cell (p:=⟨p,2,none⟩) hpX).trans z2
        refine hK.out _ _ z10 (fun _=> ?_)
        clear hK hHeld
        refine wpAnyT_step (i:=6) (by kernel_rfl) rfl fun K' hK=> ?_
        go_simp
        have b11:Below w10.heap.size w10 (w10.alloc (Obj.cells #[Value.int IntKind.i64 (k:Int),Value.int IntKind.i64 x,Value.int IntKind.i64 (jx:Int)] 54)):=(Below.refl _ _).alloc (Nat.le_refl _) _
        have nE: ∀j u,(edC ((k:Int),x,(jx:Int)))[j]? =some u→(w10.alloc (Obj.cells #[Value.int IntKind.i64 (k:Int),Value.int IntKind.i64 x,Value.int IntKind.i64 (jx:Int)] 54)).cell? ⟨w10.heap.size,j,none⟩=some u:=fun j u hj=>by
         rcases j with _ | _ | _ | j<;>simp[edC] at hj<;>subst hj<;>simp[go_sem]
        have sV:(w10.alloc (Obj.cells #[Value.int IntKind.i64 (k:Int),Value.int IntKind.i64 x,Value.int IntKind.i64 (jx:Int)] 54)).heap.size=w10.heap.size+1:=by simp
        have z11:(w10.alloc (Obj.cells #[Value.int IntKind.i64 (k:Int),Value.int IntKind.i64 x,Value.int IntKind.i64 (jx:Int)] 54)).cell? ⟨p,2,none⟩=some (.slice A2 L.length c2):=(b11.cell (p:=⟨p,2,none⟩) (by show p<_;omega)).trans z10
        refine hK.out _ _ z11 (fun _=> ?_)
        clear hK
        generalize w10.alloc (Obj.cells #[Value.int IntKind.i64 (k:Int),Value.int IntKind.i64 x,Value.int IntKind.i64 (jx:Int)] 54)=V at b11 nE sV z11⊢
        have bXV:Below wq.heap.size wq V:=b10'.trans (b11.mono hw10)
        have HGV:=hDD (HGBq.out.below bXV)
        refine wpAnyT_step (i:=7) (by kernel_rfl) rfl fun K' hK=> ?_
        rw[if_pos (by rfl)]
        refine wp_push_edge (.tmp 122) (.tmp 127) rfl (p+1) _ L HGV.out.ow rfl w10.heap.size ((k:Int),x,(jx:Int)) rfl nE HE64.out (by omega) (by omega) ?_
        intro v' w' o' g' p'
        obtain⟨A9',c9',rfl,_⟩:=OwE.form o'
        have O9':=hDD o'
        have hgs:=g'.size
        clear o'
        have hrow: ∀y,(Value.slice A2 L.length c2).ownBlock=some y→p+1≤y∧y<wq.heap.size:=fun y hy=>HGBq.out.ow.1.lt y hy
        have z12:w'.cell? ⟨p,2,none⟩=some (.slice A2 L.length c2):=(World.cell?_of_block (w:=V) (g'.block p (by omega) (fun e=>by have:=(hrow p e.symm).1;omega))).trans z11
        refine hK.out _ _ z12 (fun _=> ?_)
        clear hK
        simp only[Act.put,List.setIfInBounds_toArray,List.set_cons_zero,List.set_cons_succ]
        (refine wpAnyT_take (n:=9) (i:=8) (v:= ?_) rfl (by kernel_rfl) rfl (by decide) (by kernel_rfl) (by kernel_rfl) (by kernel_rfl) (by kernel_rfl) (fun _ _ _ h=>h) (Or.inl ⟨by rfl,?_⟩) (by assumption) ?_;rotate_left;focus (intro ww hSw;(try dsimp only at hSw);go_simp;try with_reducible rfl);(try simp only[Act.put,List.setIfInBounds_toArray,List.set_cons_zero,List.set_cons_succ]))
        have HG12c:=hDD (fun j=>((World.frozen?_of_block (w:=V) (g'.block p (by omega) (fun e=>by have:=(hrow p e.symm).1;omega))).trans (HGV.out.fz j):w'.frozen? ⟨p,j,none⟩=false))
        have qf:=HG12c.out 2
        refine wpAnyT_last (n:=9) (by kernel_rfl) rfl (by kernel_rfl) fun K' hK=> ?_
        go_simp
        refine hK.out _ _ ?_
        clear hK
        go_wp2
        obtain⟨wf,hwf⟩: ∃wf,wf=w'.setCell ⟨p,2,none⟩ (.slice A9' (L++ [((k:Int),x,(jx:Int))]).length c9'):=⟨_,rfl⟩
        have hwf2:w'.setCell ⟨p,2,none⟩ (.slice A9' (L.length+1) c9')=wf:=by rw[hwf,List.length_append,List.length_singleton]
        try rw[←hwf]
        try rw[hwf2]
        have hwfs:wf.heap.size=w'.heap.size:=by rw[hwf];simp
        have KEEP:Hid (∀b,b<wq.heap.size→b≠p→(Value.slice A2 L.length c2).ownBlock≠some b→wf.heap[b]? =wq.heap[b]?):=hDD fun b h1 h2 h3=>by
         rw[hwf,Below.heap_setCell _ _ _ b h2,g'.block b (by have:=bXV.size;omega) (fun e=>h3 e.symm),bXV.block b h1]
        have hpV:p<V.heap.size:=by have:=bXV.size;omega
        have hrp:(Value.slice A2 L.length c2).ownBlock≠some p:=fun e=>by have:=(hrow p e).1;omega
        have hC:CBx w' p (.int .i64 (rn:Int)) (.int .i64 0) (.slice A2 L.length c2):=by
         have hb:=g'.block p hpV (fun e=>hrp e.symm)
         exact⟨(World.cell?_of_block (w:=V) hb).trans HGV.out.c0,(World.cell?_of_block (w:=V) hb).trans HGV.out.c1,(World.cell?_of_block (w:=V) hb).trans HGV.out.c2,fun j=>(World.frozen?_of_block (w:=V) hb).trans (HGV.out.fz j),by omega⟩
        have HGF:Hid (GBx wf p (p+1) A9' c9' ((rn:Int),0,L++ [((k:Int),x,(jx:Int))])):=hDD (by
         rw[hwf]
         exact hC.put O9'.out (fun b hb=>by have:=(O9'.out.1.lt b hb).1;omega) HGV.out.i1 HGV.out.i2)
        have HOPF:=hDD (owns_keep (w':=wf) HOPq.out fun b e=>KEEP.out b (World.ownsRow.lt HOPq.out b e).2 (HDJ.out b e).1 (HDJ.out b e).2.2)
        have hbmE:(Value.slice A2 L.length c2).ownBlock≠some w4.heap.size:=fun e=>by have:=(hrow _ e).1;omega
        have HOMF:Hid (wf.ownsMap Tryz.prog 80 (plainElem (H:=Unit) Tryz.prog 3) w4.heap.size (om.length) D):=hDD (by
         obtain⟨es,cl,h1,h2⟩:=HOMq.out
         exact⟨es,cl,(KEEP.out _ (by omega) (by omega) hbmE).trans h1,h2⟩)
        have HRDF:Hid (RdI wf (.slice (some ⟨bl,0,none⟩) ls.length capl) ls):=hDD (by
         rw[hwf]
         exact((HRDq.out.below bXV).grown g' (fun b hb hb'=>HEJ.out (by simp[Value.ownBlock] at hb;subst hb;exact hb'))).grown (set_grown _ _ _ _) (fun b hb hb'=>by simp[Value.ownBlock] at hb;cases hb';omega))
        have HDJF:Hid (∀b,(Value.slice (some ⟨tb,0,none⟩) om.length ct).ownBlock=some b→b≠p∧b≠bl∧(Value.slice A9' (L++ [((k:Int),x,(jx:Int))]).length c9').ownBlock≠some b):=hDD fun b hb=>⟨(HDJ.out b hb).1,(HDJ.out b hb).2.1,fun e=>by
         rcases p' with p' | p'
         ·exact(HDJ.out b hb).2.2 (p'.symm.trans e)
         ·rw[p'] at e
          have h1:=(World.ownsRow.lt HOPq.out b hb).2
          have h2:=bXV.size
          have h3:V.heap.size=b:=by simpa using e
          omega⟩
        have HEJF:Hid ((Value.slice A9' (L++ [((k:Int),x,(jx:Int))]).length c9').ownBlock≠some bl):=hDD fun e=>by
         rcases p' with p' | p'
         ·exact HEJ.out (p'.symm.trans e)
         ·rw[p'] at e
          have h2:=bXV.size
          have h3:V.heap.size=bl:=by simpa using e
          omega
        have HBF:Hid (Below w4.heap.size w4 wf):=hDD (by
         rw[hwf]
         exact((HBq.out.trans (bXV.mono (by omega))).grown g' (by omega) (fun j hj=>by have:=(hrow j hj).1;omega)).setCell (by show w4.heap.size≤p;omega) _)
        have hblf:bl<wf.heap.size:=by have:=bXV.size;omega
        clear hwf hwf2 hC g' p'
        go_roundw
        case rel=>exact⟨m+1,_,A9',c9',by omega,by go_num,by rw[HS1.out];exact HOPF.out,by rw[HS1.out];exact HOMF.out,by rw[HS1.out];exact HMI.out,by rw[HF2.out];exact HGF.out,by rw[HF2.out];exact HDJF.out,by rw[HF2.out];exact HEJF.out,HRDF.out,hblf,HBF.out⟩
        case measure=>simp[intOf];omega
       ·have hnq:y1*nb+y2∉om:=by simpa using eq
        have HS1:Hid ((ls.take (m+1)).foldl (pst as' bs nb pk) o=om++ [y1*nb+y2]):=hDD (by rw[HS.out,if_neg hnq])
        have HMN:=hDD (HMI.out.put (by omega) (s:=y1) (t:=y2) (by omega) hy2n hnq)
        rw[if_neg hnq] at HPI2
        have hid:=HPI2.out (y1*nb+y2) (by simp)
        have hjx:(om++ [y1*nb+y2]).idxOf (y1*nb+y2)=om.length:=by rw[List.idxOf_append,if_neg hnq];simp
        have HF1:Hid (peF as' bs nb P k (ls.take (m+1))=FF++ [((k:Int),x,(om.length:Int))]):=hDD (by rw[HF.out,hid,hjx];rfl)
        rw[eq] at HHS
        have HWL:=hDD (wf_nat (nat_I64 (n:=om.length) (by omega)))
        clear hnq eq ex HF HS HPI2 hid hjx
        obtain⟨qn,hqn⟩: ∃q,y1*nb+y2=q:=⟨_,rfl⟩
        rw[hqn] at HS1 HMN HPRC hq1
        clear hqn
        go_wp2_with (first
         | (at_lookup;refine wpList_lookup_own_ok_int _ rfl _ _ 84 rfl 80 3 .i64 lawP Tryz.underlying84 Tryz.underlying3 (zeroP _) w4.heap.size om.length D rfl HOMq.out _ (kp (y1:Int) (y2:Int)) rfl HKY.out ?_;intro c hat hwc;rw[HHS.out])
         | (at_mapUpdate;refine wpList_mapUpdate_own _ rfl _ _ _ 84 rfl 80 3 lawP Tryz.underlying84 _ w4.heap.size om.length D rfl HOMq.out (by unfold maxLen;omega) _ _ (kp (y1:Int) (y2:Int)) rfl rfl HKY.out _ [] (plainElem_int Tryz.underlying3 HWL.out) ?_;intro w8 hown8 hgrow8;have hw8:=hgrow8.size;have HOP8:Hid (OwPr w8 (w4.heap.size+1) (.slice (some ⟨tb,0,none⟩) om.length ct) nb om):=hDD (owns_keep HOPq.out fun b e=>hgrow8.block b (by have:=(World.ownsRow.lt HOPq.out b e).2;omega) (fun e2=>by have:=(World.ownsRow.lt HOPq.out b e).1;cases e2;omega)))
         | (at_builtin;refine push_pair rfl (.tmp 113) (.tmp 117) rfl (w4.heap.size+1) _ nb om (ownsRow_below HOP8.out ((Below.refl _ _).alloc (Nat.le_refl _) _)) rfl w8.heap.size qn rfl (fun j u hj=>by rw[HPRC.out] at hj;rcases j with _ | _ | j<;>simp at hj<;>subst hj<;>simp[go_sem]) (by omega) (by simp;omega) ?_;intro v9 w9 o9 g9 p9;have HOP9:=hDD o9;have hw9:w8.heap.size+1≤w9.heap.size:=(by have h:=g9.size;simp at h;omega);have HOM9:=hDD ((hown8.alloc (.cells #[.int .i64 (y1:Int), .int .i64 (y2:Int)] 80)).kept g9 (fun e=>by simp[Value.ownBlock] at e;omega));have HEL9:Hid (∀b,(Value.slice A2 (BL++FF).length c2).ownBlock=some b→p+1≤b∧b<wq.heap.size):=hDD (fun b hb=>HGBq.out.ow.1.lt b hb);have HGB9:=hDD (((HGBq.out.grown hgrow8 (fun b hb=>⟨by cases hb;omega,fun e=>by have:=(HEL9.out b e).1;cases hb;omega⟩)).below ((Below.refl _ _).alloc (Nat.le_refl _) (.cells #[.int .i64 (y1:Int), .int .i64 (y2:Int)] 80))).grown g9 (fun b hb=>⟨(HDJ.out b hb).1,(HDJ.out b hb).2.2⟩));have HRD9:Hid (RdI w9 (.slice (some ⟨bl,0,none⟩) ls.length capl) ls):=hDD (((HRDq.out.grown hgrow8 (fun b hb hb'=>by simp[Value.ownBlock] at hb;cases hb';omega)).alloc _).grown g9 (fun b hb hb'=>by simp[Value.ownBlock] at hb;exact(HDJ.out b hb').2.1 hb.symm));have HB8:Hid (Below w4.heap.size w4 w8):=hDD (HBq.out.grown hgrow8 (by omega) (fun j hj=>by cases hj;exact Nat.le_refl _));have HB9:Hid (Below w4.heap.size w4 w9):=hDD ((HB8.out.alloc (by omega) (.cells #[.int .i64 (y1:Int), .int .i64 (y2:Int)] 80)).grown g9 (by first | omega | (simp<;>omega)) (fun j hj=>by simp[Value.ownBlock] at hj;omega));have HDJ9:Hid (∀b,v9.ownBlock=some b→b≠p∧b≠bl∧(Value.slice A2 (BL++FF).length c2).ownBlock≠some b):=hDD (fun b hb=>p9.elim (fun p9=>HDJ.out b (p9.symm.trans hb)) (fun p9=>(by rw[p9] at hb;have hbb:b=w8.heap.size+1:=(by simpa using hb.symm);exact⟨by omega,by omega,fun e=>by have:=(HEL9.out b e).2;omega⟩)));obtain⟨A9,c9,hv9,_⟩:=owns_form HOP9.out;rw[List.length_append,List.length_singleton] at hv9;subst hv9;clear o9 g9 p9 hown8 hgrow8 hat hwc))
        obtain⟨L,hL⟩: ∃L,BL++FF=L:=⟨_,rfl⟩
        have hLl:L.length≤4900:=by rw[←hL,List.length_append];have:=HBL.out;omega
        have HF2:Hid (BL++peF as' bs nb P k (ls.take (m+1))=L++ [((k:Int),x,(om.length:Int))]):=hDD (by rw[HF1.out,←hL,List.append_assoc])
        rw[hL] at HGB9 HDJ9 HEJ
        clear hL HF1
        have z2:=HGB9.out.c2
        simp only at z2
        have hpX:=HGB9.out.lt
        have HE64:Hid (E64 ((k:Int),x,(om.length:Int))):=hDD ⟨⟨by simp only;omega,by simp only;omega⟩,⟨by have:=HX3.out;simp only;omega,by have:=HX3.out;simp only;omega⟩,⟨by simp only;omega,by simp only;omega⟩⟩
        have HSTE:Hid (edV (stE (k:Int) x (om.length:Int))= .agg #[.int .i64 (k:Int), .int .i64 x, .int .i64 (om.length:Int)]):=hDD (by unfold stE;rw[if_neg (by omega)];rfl)
        have HSTP:=hDD (fun W'=>step_any (k:Int) x (om.length:Int) W' HX3.out)
        refine wp_region_T' (n:=9) (S:=fun w'=>w'.cell? ⟨p,2,none⟩=some (.slice A2 L.length c2)) (by kernel_rfl) (by rfl) z2 (fun hHeld=> ?_)
        (refine wpAnyT_take (n:=9) (i:=0) (v:= ?_) rfl (by kernel_rfl) rfl (by decide) (by kernel_rfl) (by kernel_rfl) (by kernel_rfl) (by kernel_rfl) (fun _ _ _ h=>h) (Or.inl ⟨by rfl,?_⟩) (by assumption) ?_;rotate_left;focus (intro ww hSw;(try dsimp only at hSw);go_simp;try with_reducible rfl);(try simp only[Act.put,List.setIfInBounds_toArray,List.set_cons_zero,List.set_cons_succ]));(refine wpAnyT_take (n:=9) (i:=1) (v:= ?_) rfl (by kernel_rfl) rfl (by decide) (by kernel_rfl) (by kernel_rfl) (by kernel_rfl) (by kernel_rfl) (fun _ _ _ h=>h) (Or.inl ⟨by rfl,?_⟩) (by assumption) ?_;rotate_left;focus (intro ww hSw;(try dsimp only at hSw);go_simp;try with_reducible rfl);(try simp only[Act.put,List.setIfInBounds_toArray,List.set_cons_zero,List.set_cons_succ]));(refine wpAnyT_take (n:=9) (i:=2) (v:= ?_) rfl (by kernel_rfl) rfl (by decide) (by kernel_rfl) (by kernel_rfl) (by kernel_rfl) (by kernel_rfl) (fun _ _ _ h=>h) (Or.inl ⟨by rfl,?_⟩) (by assumption) ?_;rotate_left;focus (intro ww hSw;(try dsimp only at hSw);go_simp;try with_reducible rfl);(try simp only[Act.put,List.setIfInBounds_toArray,List.set_cons_zero,List.set_cons_succ]));(refine wpAnyT_take (n:=9) (i:=3) (v:= ?_) rfl (by kernel_rfl) rfl (by decide) (by kernel_rfl) (by kernel_rfl) (by kernel_rfl) (by kernel_rfl) (fun _ _ _ h=>h) (Or.inl ⟨by rfl,?_⟩) (by assumption) ?_;rotate_left;focus (intro ww hSw;(try dsimp only at hSw);go_simp;try with_reducible rfl);(try simp only[Act.put,List.setIfInBounds_toArray,List.set_cons_zero,List.set_cons_succ]));(refine wpAnyT_take (n:=9) (i:=4) (v:= ?_) rfl (by kernel_rfl) rfl (by decide) (by kernel_rfl) (by kernel_rfl) (by kernel_rfl) (by kernel_rfl) (fun _ _ _ h=>h) (Or.inl ⟨by rfl,?_⟩) (by assumption) ?_;rotate_left;focus (intro ww hSw;(try dsimp only at hSw);go_simp;try with_reducible rfl);(try simp only[Act.put,List.setIfInBounds_toArray,List.set_cons_zero,List.set_cons_succ]))
        refine wpAnyT_step (i:=5) (by kernel_rfl) rfl fun K' hK=> ?_
        go_simp
        refine(HSTP.out _).mono ?_
        rintro e w10 ⟨rfl,b10⟩
        rw[HSTE.out]
        have hw10:w9.heap.size≤w10.heap.size:=b10.size
        have b10':Below w9.heap.size w9 w10:=(Below.refl _ _).drew.trans b10
        clear b10
        have z10:w10.cell? ⟨p,2,none⟩=some (.slice A2 L.length c2):=(b10'.cell (p:=⟨p,2,none⟩) hpX).trans z2
        refine hK.out _ _ z10 (fun _=> ?_)
        clear hK hHeld
        refine wpAnyT_step (i:=6) (by kernel_rfl) rfl fun K' hK=> ?_
        go_simp
        have b11:Below w10.heap.size w10 (w10.alloc (Obj.cells #[Value.int IntKind.i64 (k:Int),Value.int IntKind.i64 x,Value.int IntKind.i64 (om.length:Int)] 54)):=(Below.refl _ _).alloc (Nat.le_refl _) _
        have nE: ∀j u,(edC ((k:Int),x,(om.length:Int)))[j]? =some u→(w10.alloc (Obj.cells #[Value.int IntKind.i64 (k:Int),Value.int IntKind.i64 x,Value.int IntKind.i64 (om.length:Int)] 54)).cell? ⟨w10.heap.size,j,none⟩=some u:=fun j u hj=>by
         rcases j with _ | _ | _ | j<;>simp[edC] at hj<;>subst hj<;>simp[go_sem]
        have sV:(w10.alloc (Obj.cells #[Value.int IntKind.i64 (k:Int),Value.int IntKind.i64 x,Value.int IntKind.i64 (om.length:Int)] 54)).heap.size=w10.heap.size+1:=by simp
        have z11:(w10.alloc (Obj.cells #[Value.int IntKind.i64 (k:Int),Value.int IntKind.i64 x,Value.int IntKind.i64 (om.length:Int)] 54)).cell? ⟨p,2,none⟩=some (.slice A2 L.length c2):=(b11.cell (p:=⟨p,2,none⟩) (by show p<_;omega)).trans z10
        refine hK.out _ _ z11 (fun _=> ?_)
        clear hK
        generalize w10.alloc (Obj.cells #[Value.int IntKind.i64 (k:Int),Value.int IntKind.i64 x,Value.int IntKind.i64 (om.length:Int)] 54)=V at b11 nE sV z11⊢
        have bXV:Below w9.heap.size w9 V:=b10'.trans (b11.mono hw10)
        have HGV:=hDD (HGB9.out.below bXV)
        refine wpAnyT_step (i:=7) (by kernel_rfl) rfl fun K' hK=> ?_
        rw[if_pos (by rfl)]
        refine wp_push_edge (.tmp 122) (.tmp 127) rfl (p+1) _ L HGV.out.ow rfl w10.heap.size ((k:Int),x,(om.length:Int)) rfl nE HE64.out (by omega) (by omega) ?_
        intro v' w' o' g' p'
        obtain⟨A9',c9',rfl,_⟩:=OwE.form o'
        have O9':=hDD o'
        have hgs:=g'.size
        clear o'
        have hrow: ∀y,(Value.slice A2 L.length c2).ownBlock=some y→p+1≤y∧y<w9.heap.size:=fun y hy=>HGB9.out.ow.1.lt y hy
        have z12:w'.cell? ⟨p,2,none⟩=some (.slice A2 L.length c2):=(World.cell?_of_block (w:=V) (g'.block p (by omega) (fun e=>by have:=(hrow p e.symm).1;omega))).trans z11
        refine hK.out _ _ z12 (fun _=> ?_)
        clear hK
        simp only[Act.put,List.setIfInBounds_toArray,List.set_cons_zero,List.set_cons_succ]
        (refine wpAnyT_take (n:=9) (i:=8) (v:= ?_) rfl (by kernel_rfl) rfl (by decide) (by kernel_rfl) (by kernel_rfl) (by kernel_rfl) (by kernel_rfl) (fun _ _ _ h=>h) (Or.inl ⟨by rfl,?_⟩) (by assumption) ?_;rotate_left;focus (intro ww hSw;(try dsimp only at hSw);go_simp;try with_reducible rfl);(try simp only[Act.put,List.setIfInBounds_toArray,List.set_cons_zero,List.set_cons_succ]))
        have HG12c:=hDD (fun j=>((World.frozen?_of_block (w:=V) (g'.block p (by omega) (fun e=>by have:=(hrow p e.symm).1;omega))).trans (HGV.out.fz j):w'.frozen? ⟨p,j,none⟩=false))
        have qf:=HG12c.out 2
        refine wpAnyT_last (n:=9) (by kernel_rfl) rfl (by kernel_rfl) fun K' hK=> ?_
        go_simp
        refine hK.out _ _ ?_
        clear hK
        go_wp2
        obtain⟨wf,hwf⟩: ∃wf,wf=w'.setCell ⟨p,2,none⟩ (.slice A9' (L++ [((k:Int),x,(om.length:Int))]).length c9'):=⟨_,rfl⟩
        have hwf2:w'.setCell ⟨p,2,none⟩ (.slice A9' (L.length+1) c9')=wf:=by rw[hwf,List.length_append,List.length_singleton]
        try rw[←hwf]
        try rw[hwf2]
        have hwfs:wf.heap.size=w'.heap.size:=by rw[hwf];simp
        have KEEP:Hid (∀b,b<w9.heap.size→b≠p→(Value.slice A2 L.length c2).ownBlock≠some b→wf.heap[b]? =w9.heap[b]?):=hDD fun b h1 h2 h3=>by
         rw[hwf,Below.heap_setCell _ _ _ b h2,g'.block b (by have:=bXV.size;omega) (fun e=>h3 e.symm),bXV.block b h1]
        have hpV:p<V.heap.size:=by have:=bXV.size;omega
        have hrp:(Value.slice A2 L.length c2).ownBlock≠some p:=fun e=>by have:=(hrow p e).1;omega
        have hC:CBx w' p (.int .i64 (rn:Int)) (.int .i64 0) (.slice A2 L.length c2):=by
         have hb:=g'.block p hpV (fun e=>hrp e.symm)
         exact⟨(World.cell?_of_block (w:=V) hb).trans HGV.out.c0,(World.cell?_of_block (w:=V) hb).trans HGV.out.c1,(World.cell?_of_block (w:=V) hb).trans HGV.out.c2,fun j=>(World.frozen?_of_block (w:=V) hb).trans (HGV.out.fz j),by omega⟩
        have HGF:Hid (GBx wf p (p+1) A9' c9' ((rn:Int),0,L++ [((k:Int),x,(om.length:Int))])):=hDD (by
         rw[hwf]
         exact hC.put O9'.out (fun b hb=>by have:=(O9'.out.1.lt b hb).1;omega) HGV.out.i1 HGV.out.i2)
        have HOPF:=hDD (owns_keep (w':=wf) HOP9.out fun b e=>KEEP.out b (World.ownsRow.lt HOP9.out b e).2 (HDJ9.out b e).1 (HDJ9.out b e).2.2)
        have hbmE:(Value.slice A2 L.length c2).ownBlock≠some w4.heap.size:=fun e=>by have:=(hrow _ e).1;omega
        have HOMF:Hid (wf.ownsMap Tryz.prog 80 (plainElem (H:=Unit) Tryz.prog 3) w4.heap.size (om.length+1) (D.put (kp (y1:Int) (y2:Int)) (.lit (.int .i64 (om.length:Int))))):=hDD (by
         obtain⟨es,cl,h1,h2⟩:=HOM9.out
         exact⟨es,cl,(KEEP.out _ (by omega) (by omega) hbmE).trans h1,h2⟩)
        have HRDF:Hid (RdI wf (.slice (some ⟨bl,0,none⟩) ls.length capl) ls):=hDD (by
         rw[hwf]
         exact((HRD9.out.below bXV).grown g' (fun b hb hb'=>HEJ.out (by simp[Value.ownBlock] at hb;subst hb;exact hb'))).grown (set_grown _ _ _ _) (fun b hb hb'=>by simp[Value.ownBlock] at hb;cases hb';omega))
        have HDJF:Hid (∀b,(Value.slice A9 (om.length+1) c9).ownBlock=some b→b≠p∧b≠bl∧(Value.slice A9' (L++ [((k:Int),x,(om.length:Int))]).length c9').ownBlock≠some b):=hDD fun b hb=>⟨(HDJ9.out b hb).1,(HDJ9.out b hb).2.1,fun e=>by
         rcases p' with p' | p'
         ·exact(HDJ9.out b hb).2.2 (p'.symm.trans e)
         ·rw[p'] at e
          have h1:=(World.ownsRow.lt HOP9.out b hb).2
          have h2:=bXV.size
          have h3:V.heap.size=b:=by simpa using e
          omega⟩
        have HEJF:Hid ((Value.slice A9' (L++ [((k:Int),x,(om.length:Int))]).length c9').ownBlock≠some bl):=hDD fun e=>by
         rcases p' with p' | p'
         ·exact HEJ.out (p'.symm.trans e)
         ·rw[p'] at e
          have h2:=bXV.size
          have h3:V.heap.size=bl:=by simpa using e
          omega
        have HBF:Hid (Below w4.heap.size w4 wf):=hDD (by
         rw[hwf]
         exact((HB9.out.trans (bXV.mono (by omega))).grown g' (by omega) (fun j hj=>by have:=(hrow j hj).1;omega)).setCell (by show w4.heap.size≤p;omega) _)
        have hblf:bl<wf.heap.size:=by have:=bXV.size;omega
        clear hwf hwf2 hC g' p'
        go_roundw
        case rel=>exact⟨m+1,_,A9',c9',by omega,by go_num,by rw[HS1.out];exact HOPF.out,by rw[HS1.out,List.length_append];exact HOMF.out,by rw[HS1.out];exact HMN.out,by rw[HF2.out];exact HGF.out,by rw[HF2.out];exact HDJF.out,by rw[HF2.out];exact HEJF.out,HRDF.out,hblf,HBF.out⟩
        case measure=>simp[intOf];omega
    ·obtain rfl:m=ls.length:=by omega
     rw[List.take_length] at HOP HOM HMI HGB HDJ
     have hNDf:=HNDm.out ls.length
     have hLTf:=HLTm.out ls.length
     have hpu:=HPU.out ls.length
     rw[List.take_length] at hNDf hLTf hpu
     have hlen:k+1≤(ls.foldl (pst as' bs nb pk) o).length:=by
      have:=(List.getElem?_eq_some_iff.1 hpu).1
      omega
     rw[HPFk.out] at HGB HDJ
     have HNDf:=hDD hNDf
     have HLTf:=hDD hLTf
     rw[List.take_length] at hop
     clear hrd hNDf hLTf hpu HFP HTP HNDm HLTm HPI HSU HPU
     obtain⟨of',hof⟩: ∃L,ls.foldl (pst as' bs nb pk) o=L:=⟨_,rfl⟩
     rw[hof] at hop HOP HOM HMI HNDf HLTf HNX hlen
     clear hof
     obtain⟨At,ct,rfl,_⟩:=owns_form hop
     clear hop
     go_wp2
     go_roundw
     case rel=>exact⟨k+1,_,D,A2,c2,hlen,by go_num,HNDf.out,HLTf.out,HNX.out,HOP.out,HOM.out,HMI.out,by rw[HLS.out];exact HGB.out,fun b hb=>by rw[HLS.out];exact⟨(HDJ.out b hb).1,(HDJ.out b hb).2.2⟩,HBR2.out⟩
     case measure=>simp[intOf];omega
  ·obtain rfl:k=o.length:=by omega
   have hPo:P=o:=by rw[HPE.out,bfs_stop]
   have hPl:P.length=o.length:=by rw[hPo]
   have HPL2:=hDD hPl
   obtain⟨E,hE⟩: ∃E,peL as' bs nb rn P o.length=E:=⟨_,rfl⟩
   have HPO2:Hid (PO=(decide (o.length≤40)&&decide (E.length≤120))):=hDD (by rw[←hE,←hPl];exact HPO.out)
   have HPG2:Hid (PG=((rn:Int),(o.length:Int),srt cmpE E)):=hDD (by rw[←hE,←hPl];exact HPG.out)
   have hEl:E.length≤4800:=by
    have h1:=HEL.out o.length
    rw[←hE]
    have h2:=Nat.mul_le_mul (show o.length≤1600 by omega) (show rn≤3 by omega)
    exact Nat.le_trans h1 (by omega)
   rw[hE] at HGB
   clear hPo hPl hE HPO HPG hfo
   have BF:=hDD (HAw.out _ HBR.out)
   have z0:=(XR.out.below BF.out).c0
   have z1:=(XR.out.below BF.out).c1
   have z2:=(XR.out.below BF.out).c2
   have zf0:=(XR.out.below BF.out).fz 0
   have zf1:=(XR.out.below BF.out).fz 1
   have zf2:=(XR.out.below BF.out).fz 2
   have y0:=HGB.out.c0
   have y1:=HGB.out.c1
   have y2:=HGB.out.c2
   have yf1:=HGB.out.fz 1
   simp only at y0 y1 y2
   have hpp:=HGB.out.lt
   have hlc5:w.heap.size+1+1<wk.heap.size:=by omega
   have hne5:w.heap.size+1+1≠p:=by omega
   have hne6:p≠w.heap.size+1+1:=by omega
   rcases el:decide (40<o.length) with _ | _
   rotate_left
   ·have h40I:(40:Int)<(o.length:Int):=Int.ofNat_lt.2 (by simpa using el)
    have F:=hDD (HR1.out (by rw[HPO2.out,decide_eq_false (by omega: ¬o.length≤40)];rfl))
    clear el
    have HBF:=hDD (BX.out.trans ((HAw.out _ HBR.out).mono (by omega)))
    have HBS:=hDD (HBF.out.setCell (p:=⟨p,1,none⟩) (by show w.heap.size≤p;omega) (.int .i64 (o.length:Int)))
    go_wp2
    obtain⟨ws,hws⟩: ∃W,W=wk.setCell ⟨p,1,none⟩ (.int .i64 (o.length:Int)):=⟨_,rfl⟩
    have hcs: ∀j u,wk.cell? ⟨w.heap.size+1+1,j,none⟩=some u→ws.cell? ⟨w.heap.size+1+1,j,none⟩=some u:=fun j u h=>by rw[hws,cell_set_other _ _ _ _ _ _ hne5];exact h
    rw[←hws] at HBS⊢
    obtain⟨e0,e1,e2⟩:=cells3F (.int .i64 0) (.int .i64 0) (.slice none 0 0) (hcs 0 _ z0) (hcs 1 _ z1) (hcs 2 _ z2)
    have bw:Below w.heap.size w (((ws.setCell ⟨w.heap.size+1+1,0,none⟩ (.int .i64 0)).setCell ⟨w.heap.size+1+1,1,none⟩ (.int .i64 0)).setCell ⟨w.heap.size+1+1,2,none⟩ (.slice none 0 0)):=set3_below _ _ _ HBS.out (by omega)
    generalize (((ws.setCell ⟨w.heap.size+1+1,0,none⟩ (.int .i64 0)).setCell ⟨w.heap.size+1+1,1,none⟩ (.int .i64 0)).setCell ⟨w.heap.size+1+1,2,none⟩ (.slice none 0 0))=wf at*
    rw[F.out]
    exact bodyPost_ret (v:= .tuple #[.agg #[.int .i64 0, .int .i64 0, .slice none 0 0], .bool false]) (by simp[results,Tryz.results35,go_sem,e0,e1,e2]) rfl ⟨_,rfl,⟨.slice none 0 0,rfl,⟨by decide,by decide⟩,⟨by decide,by decide⟩,OwE.nil⟩,bw⟩
   have h40:o.length≤40:=by simp at el;omega
   have h40I: ¬(40:Int)<(o.length:Int):=by omega
   rcases ee:decide (120<E.length) with _ | _
   rotate_left
   ·have h120I:(120:Int)<(E.length:Int):=Int.ofNat_lt.2 (by simpa using ee)
    have F:=hDD (HR1.out (by rw[HPO2.out,decide_eq_false (by omega: ¬E.length≤120),Bool.and_false]))
    clear el ee h40
    have HBF:=hDD (BX.out.trans ((HAw.out _ HBR.out).mono (by omega)))
    have HBS:=hDD (HBF.out.setCell (p:=⟨p,1,none⟩) (by show w.heap.size≤p;omega) (.int .i64 (o.length:Int)))
    go_wp2
    obtain⟨ws,hws⟩: ∃W,W=wk.setCell ⟨p,1,none⟩ (.int .i64 (o.length:Int)):=⟨_,rfl⟩
    have hcs: ∀j u,wk.cell? ⟨w.heap.size+1+1,j,none⟩=some u→ws.cell? ⟨w.heap.size+1+1,j,none⟩=some u:=fun j u h=>by rw[hws,cell_set_other _ _ _ _ _ _ hne5];exact h
    rw[←hws] at HBS⊢
    obtain⟨e0,e1,e2⟩:=cells3F (.int .i64 0) (.int .i64 0) (.slice none 0 0) (hcs 0 _ z0) (hcs 1 _ z1) (hcs 2 _ z2)
    have bw:Below w.heap.size w (((ws.setCell ⟨w.heap.size+1+1,0,none⟩ (.int .i64 0)).setCell ⟨w.heap.size+1+1,1,none⟩ (.int .i64 0)).setCell ⟨w.heap.size+1+1,2,none⟩ (.slice none 0 0)):=set3_below _ _ _ HBS.out (by omega)
    generalize (((ws.setCell ⟨w.heap.size+1+1,0,none⟩ (.int .i64 0)).setCell ⟨w.heap.size+1+1,1,none⟩ (.int .i64 0)).setCell ⟨w.heap.size+1+1,2,none⟩ (.slice none 0 0))=wf at*
    rw[F.out]
    exact bodyPost_ret (v:= .tuple #[.agg #[.int .i64 0, .int .i64 0, .slice none 0 0], .bool false]) (by simp[results,Tryz.results35,go_sem,e0,e1,e2]) rfl ⟨_,rfl,⟨.slice none 0 0,rfl,⟨by decide,by decide⟩,⟨by decide,by decide⟩,OwE.nil⟩,bw⟩
   have h120:E.length≤120:=by simp at ee;omega
   have h120I: ¬(120:Int)<(E.length:Int):=by omega
   have F:=hDD ((HR2b.out (by rw[HPO2.out,decide_eq_true h40,decide_eq_true h120];rfl)).trans (by rw[HPG2.out]:(PG,true)=(((rn:Int),(o.length:Int),srt cmpE E),true)))
   clear el ee h40 h120
   go_wp2_with fail
   obtain⟨ws,hws⟩: ∃W,W=wk.setCell ⟨p,1,none⟩ (.int .i64 (o.length:Int)):=⟨_,rfl⟩
   have hwss:ws.heap.size=wk.heap.size:=by rw[hws];simp
   have HOE:Hid (OwE ws (p+1) (.slice A2 E.length c2) E):=hDD (by rw[hws];exact HGB.out.ow.keep fun b hb=>Below.heap_setCell _ _ _ b (HGB.out.ne b hb))
   have hC:CBx ws p (.int .i64 (rn:Int)) (.int .i64 (o.length:Int)) (.slice A2 E.length c2):=by
    rw[hws]
    exact⟨(World.cell?_setCell_other _ _ _ _ (by simp)).trans y0,World.cell?_setCell_same _ _ _ y1,(World.cell?_setCell_other _ _ _ _ (by simp)).trans y2,fun j=>by rw[World.frozen?_setCell];exact HGB.out.fz j,by simpa using hpp⟩
   have hR:CBx ws (w.heap.size+1+1) (.int .i64 0) (.int .i64 0) (.slice none 0 0):=by
    rw[hws]
    exact⟨(cell_set_other _ _ _ _ _ _ hne5).trans z0,(cell_set_other _ _ _ _ _ _ hne5).trans z1,(cell_set_other _ _ _ _ _ _ hne5).trans z2,fun j=>by rw[World.frozen?_setCell];exact(XR.out.below BF.out).fz j,by simpa using hlc5⟩
   have HBS:Hid (Below w4.heap.size w4 ws):=hDD (by rw[hws];exact HBR.out.setCell (by show w4.heap.size≤p;omega) _)
   rw[←hws]
   have HC:=hDD hC
   have HR:=hDD hR
   clear hws hC hR y0 y1 y2 yf1 z0 z1 z2 zf0 zf1 zf2
   refine(sortedD_any _ _ _ HOE.out.arg (by omega)).mono ?_
   rintro e' w9 ⟨r9,rfl,o9,b9⟩
   have hs9:=b9.size
   have HC9:=hDD (HC.out.below b9)
   have HR9:=hDD (HR.out.below b9)
   have HB9:=hDD (HBS.out.trans (b9.mono (by omega)))
   obtain⟨A9,c9,rfl,_⟩:=OwE.form o9
   obtain⟨L,hL⟩: ∃L,srt cmpE E=L:=⟨_,rfl⟩
   rw[hL] at o9 F⊢
   have O9:=hDD o9
   clear b9 o9 hL
   have HNP9:Hid (∀b,(Value.slice A9 L.length c9).ownBlock=some b→b≠p∧b≠w.heap.size+1+1):=hDD fun b hb=>by have:=(O9.out.1.lt b hb).1;omega
   have y0:=HC9.out.c0
   have y1:=HC9.out.c1
   have y2:=HC9.out.c2
   have yf2:=HC9.out.fz 2
   have z0:=HR9.out.c0
   have z1:=HR9.out.c1
   have z2:=HR9.out.c2
   have zf0:=HR9.out.fz 0
   have zf1:=HR9.out.fz 1
   have zf2:=HR9.out.fz 2
   have hlc9:w.heap.size+1+1<w9.heap.size:=by omega
   have hp9:p<w9.heap.size:=by omega
   have HBF:=hDD (BX.out.trans ((HAw.out _ HB9.out).mono (by omega)))
   have HBG:=hDD (HBF.out.setCell (p:=⟨p,2,none⟩) (by show w.heap.size≤p;omega) (.slice A9 L.length c9))
   go_wp2
   obtain⟨wt,hwt⟩: ∃W,W=w9.setCell ⟨p,2,none⟩ (.slice A9 L.length c9):=⟨_,rfl⟩
   have hct: ∀j u,w9.cell? ⟨w.heap.size+1+1,j,none⟩=some u→wt.cell? ⟨w.heap.size+1+1,j,none⟩=some u:=fun j u h=>by rw[hwt,cell_set_other _ _ _ _ _ _ hne5];exact h
   have hot:OwE wt ws.heap.size (.slice A9 L.length c9) L:=by rw[hwt];exact O9.out.keep fun b hb=>Below.heap_setCell _ _ _ b (HNP9.out b hb).1
   rw[←hwt] at HBG⊢
   obtain⟨e0,e1,e2⟩:=cells3F (.int .i64 (rn:Int)) (.int .i64 (o.length:Int)) (.slice A9 L.length c9) (hct 0 _ z0) (hct 1 _ z1) (hct 2 _ z2)
   have bw:Below w.heap.size w (((wt.setCell ⟨w.heap.size+1+1,0,none⟩ (.int .i64 (rn:Int))).setCell ⟨w.heap.size+1+1,1,none⟩ (.int .i64 (o.length:Int))).setCell ⟨w.heap.size+1+1,2,none⟩ (.slice A9 L.length c9)):=set3_below _ _ _ HBG.out (by omega)
   have ow:OwE (((wt.setCell ⟨w.heap.size+1+1,0,none⟩ (.int .i64 (rn:Int))).setCell ⟨w.heap.size+1+1,1,none⟩ (.int .i64 (o.length:Int))).setCell ⟨w.heap.size+1+1,2,none⟩ (.slice A9 L.length c9)) ws.heap.size (.slice A9 L.length c9) L:=hot.keep fun b hb=>set3_heap _ _ _ _ _ (HNP9.out b hb).2
   generalize (((wt.setCell ⟨w.heap.size+1+1,0,none⟩ (.int .i64 (rn:Int))).setCell ⟨w.heap.size+1+1,1,none⟩ (.int .i64 (o.length:Int))).setCell ⟨w.heap.size+1+1,2,none⟩ (.slice A9 L.length c9))=wf at*
   rw[F.out]
   exact bodyPost_ret (v:= .tuple #[.agg #[.int .i64 (rn:Int), .int .i64 (o.length:Int), .slice A9 L.length c9], .bool true]) (by simp[results,Tryz.results35,go_sem,e0,e1,e2]) rfl ⟨_,rfl,⟨.slice A9 L.length c9,rfl,by unfold I64;simp only;omega,by unfold I64;simp only;omega,ow.mono (by omega)⟩,bw⟩
theorem pbRes_ok {a b:GrD} {u v:Nat} (h1:foldB a=true) (h2:foldB b=true) (hu:(u:Int)<a.2.1) (hv:(v:Int)<b.2.1) (h:(pbRes a b u v).2=true):pbRes a b u v=(pbG a b u v,true)∧foldB (pbRes a b u v).1=true:=by
 unfold pbRes at*
 split
 ·rename_i q
  exact⟨rfl,pbG_fold h1 h2 hu hv q.2⟩
 ·rename_i q
  rw[if_neg q] at h
  cases h
end Go.Proofs.YtfadnkjlilhneaaGreat
namespace Go.Proofs.YtfadnkjlilhneaaGreat
set_option maxRecDepth 20000
set_option linter.unusedVariables false
set_option linter.unusedSimpArgs false
open Go.RowKit
def eqB (B:Nat) (l:List Nat):Bool:=l.any fun p=>decide (p/B=p%B)
theorem eqB_snoc (B:Nat) (l:List Nat) (k:Nat) (h:k<l.length):eqB B (l.take (k+1))=(eqB B (l.take k)||decide (l[k]/B=l[k]%B)):=by
 unfold eqB
 rw[List.take_succ_eq_append_getElem h,List.any_append]
 simp
def cntP (ea eb:List EdD) (B p:Nat) (ls:List Int) (m:Nat):Nat:=((ls.take m).filter fun x=>decide (0<x)&&(pnx ea eb B p x).isSome).length
theorem cntP_succ (ea eb:List EdD) (B p:Nat) (ls:List Int) (m:Nat) (h:m<ls.length):cntP ea eb B p ls (m+1)=cntP ea eb B p ls m+if 0<ls[m]∧(pnx ea eb B p ls[m]).isSome=true then 1 else 0:=by
 unfold cntP
 rw[List.take_succ_eq_append_getElem h,List.filter_append,List.length_append]
 congr 1
 simp only[List.filter_cons,List.filter_nil]
 by_cases hc:0<ls[m]∧(pnx ea eb B p ls[m]).isSome=true
 ·rw[if_pos hc,if_pos (by simp[hc.1,hc.2])];rfl
 ·rw[if_neg hc,if_neg (fun h=>hc (by simpa using h))];rfl
theorem cntP_le (ea eb:List EdD) (B p:Nat) (ls:List Int) (m:Nat):cntP ea eb B p ls m≤m:=by
 unfold cntP
 refine Nat.le_trans (List.length_filter_le _ _) ?_
 rw[List.length_take]
 omega
theorem cntP_full (ea eb:List EdD) (B p:Nat): ∀r:Nat,cntP ea eb B p (lettersL r) (lettersL r).length=edgN ea eb B r p:=by
 intro r
 unfold cntP edgN
 rw[List.take_length]
 induction r with
 | zero=>rfl
 | succ r ih=>
   unfold lettersL
   rw[List.filter_append,List.length_append,ih,List.range_succ,List.filter_append,List.length_append]
   congr 1
   have e1:decide ((0:Int)<(r:Int)+1)=true:=decide_eq_true (by omega)
   have e2:decide ((0:Int)< -((r:Int)+1))=false:=decide_eq_false (by omega)
   simp only[List.filter_cons,List.filter_nil,e1,e2,Bool.true_and,Bool.false_and]
   cases (pnx ea eb B p ((r:Int)+1)).isSome<;>rfl
theorem edgL_snoc (ea eb:List EdD) (B r:Nat) (o:List Nat) (k:Nat) (h:k<o.length):edgL ea eb B r (o.take (k+1))=edgL ea eb B r (o.take k)+edgN ea eb B r o[k]:=by
 rw[edgL_succ _ _ _ _ _ _ h];rfl
def pcD (a b:GrD) (A B r i:Nat):PcD:=(((i/B:Nat):Int),((i%B:Nat):Int),((prsL a b A B (lettersL r) i).length:Int),(edgL a.2.2 b.2.2 B r (prsL a b A B (lettersL r) i):Int),eqB B (prsL a b A B (lettersL r) i))
def pst2 (a b:GrD) (A B r:Nat) (s:List Nat×List PcD) (i:Nat):List Nat×List PcD:=
 if i∈s.1 then s else(s.1++prsL a b A B (lettersL r) i,s.2++ [pcD a b A B r i])
def pcs (a b:GrD) (A B r k:Nat):List Nat×List PcD:=(List.range k).foldl (pst2 a b A B r) ([],[])
theorem pcs_succ (a b:GrD) (A B r k:Nat):pcs a b A B r (k+1)=pst2 a b A B r (pcs a b A B r k) k:=by
 unfold pcs
 rw[List.range_succ,List.foldl_append]
 rfl
def pcR (d:PcD):Int:=d.2.2.2.1-d.2.2.1+1
theorem pcs_comp (a b:GrD) (A B r k:Nat):(pcs a b A B r k).1=(compS a b A B r k).1∧(pcs a b A B r k).2.map pcR=(compS a b A B r k).2:=by
 induction k with
 | zero=>exact⟨rfl,rfl⟩
 | succ k ih=>
   rw[pcs_succ,compS_succ]
   unfold pst2 cst
   rw[ih.1]
   split
   ·exact ih
   ·refine⟨rfl,?_⟩
    simp only[List.map_append,ih.2]
    rfl
theorem pcs_len (a b:GrD) (A B r k:Nat):(pcs a b A B r k).2.length≤k:=by
 induction k with
 | zero=>simp[pcs]
 | succ k ih=>
   rw[pcs_succ]
   unfold pst2
   split
   ·omega
   ·simp;omega
theorem pcs_out {a b:GrD} {A B:Nat} (h:Two a b A B) {r:Nat} (hr:r≤3) {k:Nat} (hk:k≤A*B) {p q:Nat} {x:Int} (hx:x∈lettersL r) (hp:p∉(pcs a b A B r k).1) (hq:pnx a.2.2 b.2.2 B p x=some q):q∉(pcs a b A B r k).1:=by
 rw[(pcs_comp a b A B r k).1] at*
 intro hqm
 exact hp ((compS_closed h hr k hk).2 q hqm (-x) p (letters_ok hr x hx).2 (pnx_back h (letters_ok hr x hx).1 hq))
theorem prs_mem {a b:GrD} {A B:Nat} (h:Two a b A B) {ls:List Int} {p q:Nat} (f i:Nat) (o:List Nat) (hq:q∈o):q∈bfsF a.2.2 b.2.2 B ls f i o:=by
 have: ∀(f i:Nat) (o:List Nat),q∈o→q∈bfsF a.2.2 b.2.2 B ls f i o:=by
  intro f
  induction f with
  | zero=>intro i o ho;exact ho
  | succ f ih=>
    intro i o ho
    unfold bfsF
    cases o[i]? with
    | none=>exact ho
    | some q=>exact ih _ _ (pfold_sub ls q o ho)
 exact this f i o hq
theorem pcs_done {a b:GrD} {A B:Nat} (h:Two a b A B) (r:Nat): ∀k q,q<k→q∈(pcs a b A B r k).1:=by
 intro k
 induction k with
 | zero=>intro q hq;omega
 | succ k ih=>
   intro q hq
   rw[pcs_succ]
   unfold pst2
   split
   ·rename_i hk
    rcases Nat.lt_or_ge q k with h1 | h1
    ·exact ih q h1
    ·rwa [show q=k by omega]
   ·rcases Nat.lt_or_ge q k with h1 | h1
    ·exact List.mem_append_left _ (ih q h1)
    ·exact List.mem_append_right _ (by rw[show q=k by omega];exact prs_self h)
def rtP (a b:GrD) (A B r p:Nat):Nat:=((List.range (A*B)).find? fun q=>decide (p∈prsL a b A B (lettersL r) q)).getD 0
def ixP (a b:GrD) (A B r p:Nat):Int:=((pcs a b A B r (rtP a b A B r p)).2.length:Int)
section
variable {a b:GrD} {A B:Nat} (h:Two a b A B) {r:Nat} (hr:r≤3)
include h hr
theorem pcs_far {k:Nat} (hk:k≤A*B) {q p:Nat} (hq:q<k) (hp:p∈prsL a b A B (lettersL r) q):p∈(pcs a b A B r k).1:=by
 have hc:=(compS_closed h hr k hk).2
 rw[←(pcs_comp a b A B r k).1] at hc
 exact bfs_all (S:=fun z=>z∈(pcs a b A B r k).1) (fun z x y hz hx hy=>hc z hz x y hx hy) _ _ _ (fun z hz=>by rw[List.mem_singleton.1 hz];exact pcs_done h r k q hq) p hp
theorem rtP_of {k:Nat} (hk:k<A*B) (hn:k∉(pcs a b A B r k).1) {p:Nat} (hp:p∈prsL a b A B (lettersL r) k):rtP a b A B r p=k:=by
 have hc:=(compS_closed h hr k (Nat.le_of_lt hk)).2
 rw[←(pcs_comp a b A B r k).1] at hc
 have hpn:=prs_out h (letters_ok hr) hc hn p hp
 unfold rtP
 have:(List.range (A*B)).find? (fun q=>decide (p∈prsL a b A B (lettersL r) q))=some k:=by
  rw[List.find?_range_eq_some]
  refine⟨by simpa using hp,List.mem_range.2 hk,fun j hj=> ?_⟩
  simp only[Bool.not_eq_true',decide_eq_false_iff_not]
  exact fun hj2=>hpn (pcs_far h hr (Nat.le_of_lt hk) hj hj2)
 rw[this]
 rfl
theorem ixP_of {k:Nat} (hk:k<A*B) (hn:k∉(pcs a b A B r k).1) {p:Nat} (hp:p∈prsL a b A B (lettersL r) k):ixP a b A B r p=((pcs a b A B r k).2.length:Int):=by
 unfold ixP
 rw[rtP_of h hr hk hn hp]
end
def MarkF (G:Nat→Int) (A B:Nat) (f:Nat→Nat→Int) (M:List Nat):Prop:= ∀i j,i<A→j<B→(I64 (f i j)∧(0≤f i j↔i*B+j∈M))∧(i*B+j∈M→f i j=G (i*B+j))
theorem markF_upd {G:Nat→Int} {A B:Nat} {f:Nat→Nat→Int} {M:List Nat} (h:MarkF G A B f M) {i j:Nat} (hj:j<B) {z:Int} (hz:0≤z) (hz2:I64 z) (hG:G (i*B+j)=z):MarkF G A B (upd f i j z) (M++ [i*B+j]):=by
 intro i' j' hi' hj'
 unfold upd
 by_cases hc:i'=i∧j'=j
 ·rw[if_pos hc,hc.1,hc.2]
  exact⟨⟨hz2,by simp[hz]⟩,fun _=>hG.symm⟩
 ·rw[if_neg hc]
  obtain⟨⟨h1,h2⟩,h3⟩:=h i' j' hi' hj'
  have hne:i'*B+j'≠i*B+j:=fun e=>by
   refine absurd ?_ hc
   have e1:(i'*B+j')/B=(i*B+j)/B:=by rw[e]
   have e2:(i'*B+j')%B=(i*B+j)%B:=by rw[e]
   rw[Nat.mul_comm,Nat.mul_add_div (by omega),Nat.div_eq_of_lt hj',Nat.mul_comm i,Nat.mul_add_div (by omega),Nat.div_eq_of_lt hj] at e1
   rw[Nat.mul_comm,Nat.mul_add_mod,Nat.mod_eq_of_lt hj',Nat.mul_comm i,Nat.mul_add_mod,Nat.mod_eq_of_lt hj] at e2
   exact⟨by omega,e2⟩
  refine⟨⟨h1,?_⟩,fun hm=>h3 ?_⟩
  ·rw[h2,List.mem_append,List.mem_singleton]
   exact⟨fun h=> .inl h,fun h=>h.elim id fun e=>absurd e hne⟩
  ·rcases List.mem_append.1 hm with q | q
   ·exact q
   ·exact absurd (List.mem_singleton.1 q) hne
end Go.Proofs.YtfadnkjlilhneaaGreat
