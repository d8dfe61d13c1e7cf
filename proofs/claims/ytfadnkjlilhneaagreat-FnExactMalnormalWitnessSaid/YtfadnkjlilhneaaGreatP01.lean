/- Parts of the proof: Base, Law, Gr, OwnF, Put, Mark, GrS, Frame, MarkG, Num, Cmp, GrA, Ord, Has, QuiC, GrD, GrB. -/
import Derived.Test.YtfadnkjlilhneaaGreatProg
import Derived.WalkKit
import Derived.WalkSpells
import Derived.WalkLawsBesides
import Derived.Lib.Hide
import Derived.Maps.AppendAt
import Derived.Deep.AppendLies
import Derived.RegionTactic
import Derived.Deep.QuietTactic
import Derived.BigQuiet
import Derived.Deep.RegionHeld3
import Derived.Outline
import Derived.ProofKit
import Derived.OpenShut
import Derived.ShutString
import Derived.ChangeOld
import Derived.Lib.SmallJoins
import Derived.Laws.StructEq
namespace Go.Proofs.YtfadnkjlilhneaaGreat
open Go.RowKit
theorem hDD {P : Prop} (h : P) : Hid P := Lib.hid h
end Go.Proofs.YtfadnkjlilhneaaGreat
namespace Go.Proofs.YtfadnkjlilhneaaGreat
set_option maxRecDepth 20000
set_option linter.unusedVariables false
set_option linter.unusedSimpArgs false
open Go.RowKit
def I64 (n:Int):Prop:= -9223372036854775808≤n∧n≤9223372036854775807
abbrev I64s (xs:List Int):Prop:= ∀x∈xs,I64 x
abbrev ints (xs:List Int):List Value:=xs.map (Value.int .i64)
theorem ints_length (xs:List Int):(ints xs).length=xs.length:=by simp[ints]
theorem ints_get (xs:List Int) (i:Nat) (h:i<xs.length):(ints xs)[i]'(by simpa[ints] using h)= .int .i64 xs[i]:=by simp[ints]
def RdV (t:TypeId) (size:Nat) (w:World) (v:Value) (n:Nat) (cs:List Value):Prop:=
 cs.length=n*size∧ ∃A cap,v= .slice A n cap∧n≤cap∧cap≤maxLen∧(A=none→cap=0)∧
  (0<n→ ∃b off cur fr,A=some ⟨b,off,none⟩∧w.heap[b]? =some (.cells cur t fr)∧ ∀i (hi:i<cs.length),cur[off+i]? =some cs[i])
def RdI (w:World) (v:Value) (xs:List Int):Prop:=RdV 3 1 w v xs.length (ints xs)∧I64s xs
def OwI (w:World) (base:Nat) (v:Value) (xs:List Int):Prop:=w.ownsRow base 3 1 v xs.length (ints xs)∧I64s xs
def RdII (w:World) (v:Value) (L:List (List Int)):Prop:=
 ∃vs:List Value,vs.length=L.length∧RdV 26 1 w v L.length vs∧ ∀i (h:i<L.length) (h':i<vs.length),RdI w vs[i] L[i]
def ArgI (w:World) (v:Value) (xs:List Int):Prop:=
 ∃A cap,v= .slice A xs.length cap∧xs.length≤cap∧cap≤maxLen∧I64s xs∧
  (0<xs.length→ ∃b off,A=some ⟨b,off,none⟩∧ ∀i (hi:i<xs.length),w.cell? ⟨b,off+i,none⟩=some (.int .i64 xs[i]))
theorem int_info:(Tryz.prog.info? 3).map (fun i=>(i.zero,i.size,i.bytes))=some (some (.int .i64 0),1,8):=by kernel_rfl
section
variable {t:TypeId} {size:Nat} {w w':World} {v:Value} {n:Nat} {cs:List Value} {xs:List Int} {base:Nat}
theorem lt_of_heap {b:Nat} {o:Obj} (h:w.heap[b]? =some o):b<w.heap.size:=by
 rcases Nat.lt_or_ge b w.heap.size with h' | h'
 ·exact h'
 ·rw[Array.getElem?_eq_none h'] at h;cases h
theorem RdV.mono (h:RdV t size w v n cs) (hk: ∀b,v.ownBlock=some b→b<w.heap.size→w'.heap[b]? =w.heap[b]?):RdV t size w' v n cs:=by
 obtain⟨hl,A,cap,hv,hc,hm,hn,hb⟩:=h
 refine⟨hl,A,cap,hv,hc,hm,hn,fun h0=> ?_⟩
 obtain⟨b,off,cur,fr,hA,hh,hx⟩:=hb h0
 exact⟨b,off,cur,fr,hA,by rw[hk b (by rw[hv,hA];rfl) (lt_of_heap hh)];exact hh,hx⟩
theorem RdV.below (h:RdV t size w v n cs) (hb:Below w.heap.size w w'):RdV t size w' v n cs:=h.mono fun b _ hlt=>hb.block b hlt
theorem RdV.alloc (h:RdV t size w v n cs) (o:Obj):RdV t size (w.alloc o) v n cs:=h.mono fun b _ hlt=>Below.heap_alloc w o b hlt
theorem RdV.drew (h:RdV t size w v n cs):RdV t size w.drew v n cs:=h
theorem RdV.drewN (h:RdV t size w v n cs) (k:Nat):RdV t size (w.drewN k) v n cs:=h
theorem RdV.grown (h:RdV t size w v n cs) {row:Option Nat} (hg:w.grownBy w' row) (hne: ∀b,v.ownBlock=some b→row=some b→False):RdV t size w' v n cs:=
 h.mono fun b hv hlt=>hg.block b hlt (fun e=>hne b hv e.symm)
theorem RdV.of_own (h:w.ownsRow base t size v n cs):RdV t size w v n cs:=by
 refine⟨h.1,?_⟩
 rcases h.2 with ⟨rfl,rfl⟩ | ⟨g,cap,cur,rfl,hg,hh,hnc,hcm,hcs,htake⟩
 ·exact⟨none,0,rfl,Nat.le_refl _,by simp[maxLen],fun _=>rfl,fun h=>absurd h (by simp)⟩
 ·refine⟨_,cap,rfl,hnc,hcm,(fun h=>by cases h),fun _=>⟨g,0,cur,_,rfl,hh,fun i hi=> ?_⟩⟩
  have hi':i<n*size:=by rw[←h.1];exact hi
  have:(cur.toList.take (n*size))[i]? =cs[i]? :=by rw[htake]
  rw[List.getElem?_take,if_pos hi'] at this
  simpa[hi] using this
theorem RdV.cell (h:RdV t size w v n cs): ∃A cap,v= .slice A n cap∧n≤cap∧cap≤maxLen∧(A=none→cap=0)∧
  (0<n→ ∃b off,A=some ⟨b,off,none⟩∧b<w.heap.size∧ ∀i (hi:i<cs.length),w.cell? ⟨b,off+i,none⟩=some cs[i]):=by
 obtain⟨hl,A,cap,hv,hc,hm,hn,hb⟩:=h
 refine⟨A,cap,hv,hc,hm,hn,fun h0=> ?_⟩
 obtain⟨b,off,cur,fr,hA,hh,hx⟩:=hb h0
 exact⟨b,off,hA,lt_of_heap hh,fun i hi=>by rw[cell_of_row w b (off+i) cur _ fr hh];exact hx i hi⟩
theorem OwI.set {g cap:Nat} (h:OwI w base (.slice (some ⟨g,0,none⟩) n cap) xs) (j:Nat) (z:Int) (hz:I64 z):
  OwI (w.setCell ⟨g,j,none⟩ (.int .i64 z)) base (.slice (some ⟨g,0,none⟩) n cap) (xs.set j z)∧w.grownBy (w.setCell ⟨g,j,none⟩ (.int .i64 z)) (some g):=by
 have hn:n=xs.length:=by
  rcases h.1.2 with ⟨hv,_⟩ | ⟨g',cap',cur,hv,_⟩
  ·cases hv
  ·injection hv
 subst hn
 obtain⟨h1,h2⟩:=h.1.stored j (.int .i64 z)
 refine⟨⟨?_,fun y hy=> ?_⟩,h2⟩
 ·rw[List.length_set]
  simpa[ints,List.map_set] using h1
 ·rcases List.mem_or_eq_of_mem_set hy with hy | rfl
  ·exact h.2 y hy
  ·exact hz
theorem OwI.cellAt {g cap:Nat} (h:OwI w base (.slice (some ⟨g,0,none⟩) n cap) xs) (j:Nat) (hj:j<xs.length):w.cell? ⟨g,j,none⟩=some (.int .i64 xs[j]):=by
 have hn:n=xs.length:=by
  rcases h.1.2 with ⟨hv,_⟩ | ⟨g',cap',cur,hv,_⟩
  ·cases hv
  ·injection hv
 subst hn
 rw[h.1.cellAt j (by omega)]
 simp[ints,hj]
theorem OwI.free {g cap:Nat} (h:OwI w base (.slice (some ⟨g,0,none⟩) n cap) xs) (j:Nat):w.frozen? ⟨g,j,none⟩=false:=by
 have hn:n=xs.length:=by
  rcases h.1.2 with ⟨hv,_⟩ | ⟨g',cap',cur,hv,_⟩
  ·cases hv
  ·injection hv
 subst hn
 exact h.1.frozenAt j
theorem RdV.cut (h:RdV t 1 w v n cs) {k cap:Nat} {A:Option Addr} (hv:v= .slice A n cap) (hk:k≤n):
  RdV t 1 w (.slice (if cap=k then A else A.map (·.add k)) (n-k) (cap-k)) (n-k) (cs.drop k):=by
 obtain⟨hl,A',cap',hv',hc,hm,hn,hb⟩:=h
 rw[hv'] at hv
 obtain⟨rfl,-,rfl⟩:A'=A∧True∧cap'=cap:=by simpa using hv
 refine⟨by simp[hl],_,_,rfl,by omega,by omega,?_,fun h0=> ?_⟩
 ·split
  ·omega
  ·intro h;cases A' with
   | none=>have:=hn rfl;omega
   | some a=>cases h
 ·obtain⟨b,off,cur,fr,rfl,hh,hx⟩:=hb (by omega)
  rw[if_neg (by omega)]
  refine⟨b,off+k,cur,fr,by simp[Addr.add_lit],hh,fun i hi=> ?_⟩
  rw[List.getElem_drop,Nat.add_assoc]
  exact hx _ _
theorem RdV.head (h:RdV t 1 w v n cs) {k cap:Nat} {A:Option Addr} (hv:v= .slice A n cap) (hk:k≤n):RdV t 1 w (.slice A k cap) k (cs.take k):=by
 obtain⟨hl,A',cap',hv',hc,hm,hn,hb⟩:=h
 rw[hv'] at hv
 obtain⟨rfl,-,rfl⟩:A'=A∧True∧cap'=cap:=by simpa using hv
 refine⟨by simp[hl];omega,_,_,rfl,by omega,hm,hn,fun h0=> ?_⟩
 obtain⟨b,off,cur,fr,rfl,hh,hx⟩:=hb (by omega)
 refine⟨b,off,cur,fr,rfl,hh,fun i hi=> ?_⟩
 rw[List.getElem_take]
 exact hx _ _
theorem RdI.arg (h:RdI w v xs):ArgI w v xs:=by
 obtain⟨A,cap,hv,hc,hm,_,hb⟩:=h.1.cell
 refine⟨A,cap,hv,hc,hm,h.2,fun h0=> ?_⟩
 obtain⟨b,off,hA,_,hx⟩:=hb h0
 refine⟨b,off,hA,fun i hi=> ?_⟩
 rw[hx i (by rw[ints_length];exact hi),ints_get]
theorem RdI.at {A:Option Addr} {m cap:Nat} (h:RdI w (.slice A m cap) xs) (h0:0<xs.length):
  ∃b off,A=some ⟨b,off,none⟩∧b<w.heap.size∧ ∀i (hi:i<xs.length),w.cell? ⟨b,off+i,none⟩=some (.int .i64 xs[i]):=by
 obtain⟨A',cap',hv,hc,hm,_,hb⟩:=h.1.cell
 obtain⟨b,off,hA,hlt,hx⟩:=hb h0
 injection hv with hv
 refine⟨b,off,hv.trans hA,hlt,fun i hi=> ?_⟩
 rw[hx i (by rw[ints_length];exact hi),ints_get]
theorem RdI.below (h:RdI w v xs) (hb:Below w.heap.size w w'):RdI w' v xs:=⟨h.1.below hb,h.2⟩
theorem RdI.drewN (h:RdI w v xs) (n:Nat):RdI (w.drewN n) v xs:=h
theorem RdI.drew (h:RdI w v xs):RdI w.drew v xs:=h
theorem RdI.alloc (h:RdI w v xs) (o:Obj):RdI (w.alloc o) v xs:=⟨h.1.alloc o,h.2⟩
theorem RdI.grown (h:RdI w v xs) {row:Option Nat} (hg:w.grownBy w' row) (hne: ∀b,v.ownBlock=some b→row=some b→False):RdI w' v xs:=⟨h.1.grown hg hne,h.2⟩
theorem RdI.cut (h:RdI w v xs) {k cap:Nat} {A:Option Addr} (hv:v= .slice A xs.length cap) (hk:k≤xs.length):
  RdI w (.slice (if cap=k then A else A.map (·.add k)) (xs.length-k) (cap-k)) (xs.drop k):=by
 refine⟨?_,fun x hx=>h.2 x (List.mem_of_mem_drop hx)⟩
 have:=h.1.cut hv hk
 simpa[ints] using this
theorem RdI.head (h:RdI w v xs) {k cap:Nat} {A:Option Addr} (hv:v= .slice A xs.length cap) (hk:k≤xs.length):RdI w (.slice A k cap) (xs.take k):=by
 refine⟨?_,fun x hx=>h.2 x (List.mem_of_mem_take hx)⟩
 have:=h.1.head hv hk
 simpa[ints,Nat.min_eq_left hk] using this
theorem RdII.below {L:List (List Int)} (h:RdII w v L) (hb:Below w.heap.size w w'):RdII w' v L:=by
 obtain⟨vs,h1,h2,h3⟩:=h
 exact⟨vs,h1,h2.below hb,fun i hi hi'=>(h3 i hi hi').below hb⟩
theorem RdII.drewN {L:List (List Int)} (h:RdII w v L) (k:Nat):RdII (w.drewN k) v L:=h
theorem RdII.form {L:List (List Int)} (h:RdII w v L): ∃A cap,v= .slice A L.length cap∧L.length≤cap∧cap≤maxLen∧(A=none→cap=0):=by
 obtain⟨vs,h1,h2,h3⟩:=h
 obtain⟨A,cap,hv,hc,hm,hn,_⟩:=h2.cell
 exact⟨A,cap,hv,hc,hm,hn⟩
theorem RdII.at {A:Option Addr} {m cap:Nat} {L:List (List Int)} (h:RdII w (.slice A m cap) L) {k:Nat} (hk:k<L.length):
  ∃b off A1 cap1,A=some ⟨b,off,none⟩∧b<w.heap.size∧w.cell? ⟨b,off+k,none⟩=some (.slice A1 L[k].length cap1)∧L[k].length≤cap1∧cap1≤maxLen∧RdI w (.slice A1 L[k].length cap1) L[k]:=by
 obtain⟨vs,h1,h2,h3⟩:=h
 obtain⟨A',cap',hv,hc,hm,_,hb⟩:=h2.cell
 obtain⟨b,off,hA,hlt,hx⟩:=hb (by omega)
 injection hv with hv
 have hr:=h3 k hk (by omega)
 obtain⟨A1,cap1,hv1,hc1,hm1,_⟩:=hr.1.cell
 refine⟨b,off,A1,cap1,hv.trans hA,hlt,?_,hc1,hm1,?_⟩
 ·rw[hx k (by omega),hv1]
 ·rw[←hv1];exact hr
theorem OwI.rd (h:OwI w base v xs):RdI w v xs:=⟨RdV.of_own h.1,h.2⟩
theorem OwI.arg (h:OwI w base v xs):ArgI w v xs:=h.rd.arg
theorem OwI.mono {base':Nat} (h:OwI w base v xs) (hb:base'≤base):OwI w base' v xs:=by
 refine⟨⟨h.1.1,?_⟩,h.2⟩
 rcases h.1.2 with h0 | ⟨g,cap,cur,hv,hg,r⟩
 ·exact .inl h0
 ·exact .inr ⟨g,cap,cur,hv,Nat.le_trans hb hg,r⟩
theorem ownsRow_below {e:TypeId} {sz:Nat} (h:w.ownsRow base e sz v n cs) (hb:Below w.heap.size w w'):w'.ownsRow base e sz v n cs:=by
 refine⟨h.1,?_⟩
 rcases h.2 with h0 | ⟨g,cap,cur,hv,hg,hh,r⟩
 ·exact .inl h0
 ·exact .inr ⟨g,cap,cur,hv,hg,by rw[hb.block g (lt_of_heap hh)];exact hh,r⟩
theorem OwI.drew (h:OwI w base v xs):OwI w.drew base v xs:=h
theorem OwI.far (h:OwI w base v xs) {p:Addr} (hp:p.block<base) (u:Value):OwI (w.setCell p u) base v xs:=⟨ownsRow_setCell_below h.1 hp u,h.2⟩
theorem OwI.below (h:OwI w base v xs) (hb:Below w.heap.size w w'):OwI w' base v xs:=⟨ownsRow_below h.1 hb,h.2⟩
theorem OwI.drewN (h:OwI w base v xs) (k:Nat):OwI (w.drewN k) base v xs:=h
theorem OwI.kept {row:Option Nat} (h:OwI w base v xs) (hg:w.grownBy w' row) (hne:v.ownBlock=none∨v.ownBlock≠row):OwI w' base v xs:=⟨h.1.kept hg hne,h.2⟩
theorem owns_form {e:TypeId} {sz:Nat} (h:w.ownsRow base e sz v n cs): ∃A cap,v= .slice A n cap∧n≤cap∧cap≤maxLen∧(A=none→cap=0)∧(0<n→ ∃g,A=some ⟨g,0,none⟩∧base≤g∧g<w.heap.size):=by
 rcases h.2 with ⟨rfl,rfl⟩ | ⟨g,cap,cur,rfl,hg,hh,hnc,hcm,_⟩
 ·exact⟨none,0,rfl,Nat.le_refl _,by simp[maxLen],fun _=>rfl,fun h=>absurd h (by simp)⟩
 ·exact⟨_,cap,rfl,hnc,hcm,(fun h=>by cases h),fun _=>⟨g,rfl,hg,lt_of_heap hh⟩⟩
theorem owns_head {e:TypeId} {sz:Nat} (h:w.ownsRow base e sz v n cs) {A:Option Addr} {cap k:Nat} (hv:v= .slice A n cap) (hk:k≤n):w.ownsRow base e sz (.slice A k cap) k (cs.take (k*sz)):=by
 refine⟨by rw[List.length_take,h.1];exact Nat.min_eq_left (Nat.mul_le_mul_right _ hk),?_⟩
 rcases h.2 with ⟨hv',rfl⟩ | ⟨g,cap',cur,hv',hg,hh,hnc,hcm,hcs,htake⟩
 ·rw[hv'] at hv
  obtain⟨rfl,-,rfl⟩:none=A∧True∧0=cap:=by simpa using hv
  exact .inl ⟨by obtain rfl:k=0:=by omega
                 rfl,by omega⟩
 ·rw[hv'] at hv
  obtain⟨rfl,-,rfl⟩:some ⟨g,0,none⟩=A∧True∧cap'=cap:=by simpa using hv
  refine .inr ⟨g,_,cur,rfl,hg,hh,by omega,hcm,hcs,?_⟩
  rw[←htake,List.take_take,Nat.min_eq_left (Nat.mul_le_mul_right _ hk)]
theorem ArgI.below (h:ArgI w v xs) (hb:Below w.heap.size w w'):ArgI w' v xs:=by
 obtain⟨A,cap,hv,hc,hm,hr,hx⟩:=h
 refine⟨A,cap,hv,hc,hm,hr,fun h0=> ?_⟩
 obtain⟨b,off,hA,hx⟩:=hx h0
 exact⟨b,off,hA,fun i hi=>(hb.cell (World.block_lt_of_cell? w _ (hx i hi))).trans (hx i hi)⟩
theorem ArgI.drewN (h:ArgI w v xs) (k:Nat):ArgI (w.drewN k) v xs:=h
theorem bel_drewN {B:Nat} {a:World} (h:Below B a w) (k:Nat):Below B a (w.drewN k):=⟨h.os,h.tape,h.output,h.size,h.block⟩
end
theorem wrap_i64_eq (x:Int):IntKind.i64.wrap x=wrap64 x:=by
 rw[IntKind.wrap_i64];unfold wrap64;rfl
theorem I64s_nil:I64s []:=fun _ h=>by cases h
theorem OwI_lit (w:World) (xs:List Int) (hx:I64s xs) (hl:xs.length≤1099511627776) {base:Nat} (hb:base≤w.heap.size):OwI (w.alloc (.cells (ints xs).toArray 3)) base (.slice (some ⟨w.heap.size,0,none⟩) xs.length xs.length) xs:=
 ⟨by have:=World.ownsRow_lit (e:=3) (size:=1) w (ints xs).toArray xs.length hb (by unfold maxLen;omega) (by simp);simpa using this,hx⟩
theorem OwI_litN (w:World) (xs:List Int) (N:Nat) (hN:w.heap.size=N) (hx:I64s xs) (hl:xs.length≤1099511627776) {base:Nat} (hb:base≤N):OwI (w.alloc (.cells (ints xs).toArray 3)) base (.slice (some ⟨N,0,none⟩) xs.length xs.length) xs:=by
 subst hN;exact OwI_lit w xs hx hl hb
theorem bcell {W w1:World} (hb:Below W.heap.size W w1):(∀b o,b<W.heap.size→w1.cell? ⟨b,o,none⟩=W.cell? ⟨b,o,none⟩)∧(∀b o,b<W.heap.size→w1.frozen? ⟨b,o,none⟩=W.frozen? ⟨b,o,none⟩):=
 ⟨fun b o h=>hb.cell (p:=⟨b,o,none⟩) h,fun b o h=>hb.frozen (p:=⟨b,o,none⟩) h⟩
theorem bcellN {N:Nat} {W w1:World} (hb:Below N W w1):(∀b o,b<N→w1.cell? ⟨b,o,none⟩=W.cell? ⟨b,o,none⟩)∧(∀b o,b<N→w1.frozen? ⟨b,o,none⟩=W.frozen? ⟨b,o,none⟩):=
 ⟨fun b o h=>hb.cell (p:=⟨b,o,none⟩) h,fun b o h=>hb.frozen (p:=⟨b,o,none⟩) h⟩
theorem ret_bool {a b:Bool} (h:a=b):Ending.returned (.bool a)= .returned (.bool b):=by rw[h]
theorem ret_int {k:IntKind} {a b:Int} (h:a=b):Ending.returned (.int k a)= .returned (.int k b):=by rw[h]
theorem take_eq_succ {α} {xs ys:List α} {k:Nat} (h:xs.take k=ys.take k) (hx:k<xs.length) (hy:k<ys.length) (he:xs[k]=ys[k]):xs.take (k+1)=ys.take (k+1):=by
 rw[List.take_succ_eq_append_getElem hx,List.take_succ_eq_append_getElem hy,h,he]
theorem cell_new1 (w:World) (u:Value) (t:TypeId):(w.alloc (.cells #[u] t)).cell? ⟨w.heap.size,0,none⟩=some u:=by
 exact cell_one_new w u t 0 u rfl
theorem OwI.alloc {w:World} {base:Nat} {v:Value} {xs:List Int} (h:OwI w base v xs) (o:Obj):OwI (w.alloc o) base v xs:=⟨h.1.alloc o,h.2⟩
theorem push_int {w:World} {ops:Array Oper} {rest:List Oper} {o:Oper} {a:Act} {Q:Exit→Act→World→Prop} (hgd:o.guard=none) (s x:Operand)
  (ho:o.op= .call {callee:= .builtin .append,args:= #[s,x],argTypes:= #[26,26]})
  (base:Nat) (v:Value) (xs:List Int) (hown:OwI w base v xs) (hs:a.eval s=v) (b:Nat) (z:Int) (hx:a.eval x= .slice (some ⟨b,0,none⟩) 1 1)
  (hc:w.cell? ⟨b,0,none⟩=some (.int .i64 z)) (hz:I64 z) (hl:xs.length≤1099511627776) (hbase:base≤w.heap.size)
  (h: ∀v' w',OwI w' base v' (xs++ [z])→w.grownBy w' v.ownBlock→(v'.ownBlock=v.ownBlock∨v'.ownBlock=some w.heap.size)→wpList Tryz.prog ops Q rest (a.put o.dst v') w'):
  wpList Tryz.prog ops Q (o::rest) a w:=by
 obtain⟨i0,hi0,hz0,hz1,hz2⟩:=info_parts int_info
 refine wpList_append_own_at _ hgd s x 26 ho base 3 i0 (.int .i64 0) 1 8 Tryz.underlying26 hi0 hz0 hz1 hz2 rfl (by decide) v xs.length (ints xs) hs hown.1 ⟨b,0,none⟩ 1 1 [.int .i64 z] hx rfl ?_ ?_ (by unfold maxLen;omega) (by omega) hbase ?_
 ·intro j u hj
  match j,hj with
  | 0,hj=>simp at hj;subst hj;simpa[Addr.add] using hc
 ·intro u hu;simp at hu;subst hu;rfl
 ·intro v' w' h1 h2 h3 h5
  exact h v' w' ⟨by simpa[ints] using h1,fun y hy=>by
   rcases List.mem_append.1 hy with hy | hy
   ·exact hown.2 y hy
   ·simp at hy;subst hy;exact hz⟩ h2 h5
theorem owI_cut {w:World} {base:Nat} {A:Option Addr} {n cap:Nat} {xs:List Int} (h:OwI w base (.slice A n cap) xs) {k:Nat} (hk:k≤xs.length):OwI w base (.slice A k cap) (xs.take k):=by
 obtain⟨A',cap',hv,_⟩:=owns_form h.1
 injection hv with h1 h2 h3
 subst h2
 refine⟨?_,fun x hx=>h.2 x (List.mem_of_mem_take hx)⟩
 have:=owns_head h.1 (k:=k) rfl hk
 simpa[ints,Nat.min_eq_left hk] using this
theorem OwI.form {w:World} {base:Nat} {v:Value} {xs:List Int} (h:OwI w base v xs): ∃A cap,v= .slice A xs.length cap∧xs.length≤cap∧cap≤maxLen∧(A=none→cap=0)∧(0<xs.length→ ∃g,A=some ⟨g,0,none⟩∧base≤g∧g<w.heap.size):=owns_form h.1
theorem wp_append_ints {w:World} {o:Oper} {a:Act} {K:Act→World→Prop} {Q:Exit→Act→World→Prop} (s x:Operand)
  (ho:o.op= .call {callee:= .builtin .append,args:= #[s,x],argTypes:= #[26,26]})
  (base:Nat) (v:Value) (xs:List Int) (hown:OwI w base v xs) (hs:a.eval s=v) (u:Value) (ys:List Int) (hr:RdI w u ys) (hx:a.eval x=u)
  (hl:xs.length+ys.length≤1099511627776) (hbase:base≤w.heap.size)
  (h: ∀v' w',OwI w' base v' (xs++ys)→w.grownBy w' v.ownBlock→(v'.ownBlock=v.ownBlock∨v'.ownBlock=some w.heap.size)→K (a.put o.dst v') w'):
  o.wp Tryz.prog a w K Q:=by
 obtain⟨i0,hi0,hz0,hz1,hz2⟩:=info_parts int_info
 obtain⟨A,cap,rfl,hc,hm,hn,hb⟩:=hr.1.cell
 rcases A with _ | ad
 ·have h0:ys= []:=List.eq_nil_of_length_eq_zero (by
   rcases Nat.eq_zero_or_pos ys.length with h0 | h0
   ·exact h0
   ·obtain⟨_,_,h,_⟩:=hb h0;cases h)
  subst h0
  obtain rfl:=hn rfl
  have hrun:=run_append_owned_none (P:=Tryz.prog) w base 26 o.type 3 i0 1 Tryz.underlying26 hi0 v xs.length (ints xs) hown.1
  unfold Oper.wp execOp
  simp only[ho,resolve,invoke,builtin,Sem.run_bind,Sem.run_pure,Result.andThen_ok,List.map_toArray,List.map_cons,List.map_nil,hs,hx,List.length_nil,hrun]
  exact h v w (by simpa using hown) (World.grownBy.refl _ _) (.inl rfl)
 ·obtain⟨v',w',hrun,h1,h2,_,h5⟩:=run_append_own_at (P:=Tryz.prog) w base 26 o.type 3 i0 (.int .i64 0) 1 8 Tryz.underlying26 hi0 hz0 hz1 hz2 rfl (by decide) v xs.length (ints xs) hown.1 ad ys.length cap (ints ys) (by simp) (by
   intro j y hj
   have hj':j<ys.length:=by simpa using (List.getElem?_eq_some_iff.1 hj).1
   obtain⟨b,off,had,_,hcl⟩:=hb (by omega)
   have had:=Option.some.inj had
   subst had
   rw[Addr.add_lit,hcl j (by simpa using hj'),←hj]
   simp[hj']) (ints_oneCell _ _) (by unfold maxLen;omega) (by omega) hbase
  unfold Oper.wp execOp
  simp only[ho,resolve,invoke,builtin,Sem.run_bind,Sem.run_pure,Result.andThen_ok,List.map_toArray,List.map_cons,List.map_nil,hs,hx,hrun]
  exact h v' w' ⟨by simpa[ints] using h1,fun y hy=>by
   rcases List.mem_append.1 hy with hy | hy
   ·exact hown.2 y hy
   ·exact hr.2 y hy⟩ h2 h5
theorem append_ints {w:World} {ops:Array Oper} {rest:List Oper} {o:Oper} {a:Act} {Q:Exit→Act→World→Prop} (hgd:o.guard=none) (s x:Operand)
  (ho:o.op= .call {callee:= .builtin .append,args:= #[s,x],argTypes:= #[26,26]})
  (base:Nat) (v:Value) (xs:List Int) (hown:OwI w base v xs) (hs:a.eval s=v) (u:Value) (ys:List Int) (hr:RdI w u ys) (hx:a.eval x=u)
  (hl:xs.length+ys.length≤1099511627776) (hbase:base≤w.heap.size)
  (h: ∀v' w',OwI w' base v' (xs++ys)→w.grownBy w' v.ownBlock→(v'.ownBlock=v.ownBlock∨v'.ownBlock=some w.heap.size)→wpList Tryz.prog ops Q rest (a.put o.dst v') w'):
  wpList Tryz.prog ops Q (o::rest) a w:=
 wpList_plain hgd fun _ hK=>wp_append_ints s x ho base v xs hown hs u ys hr hx hl hbase fun v' w' h1 h2 h3=>hK _ _ (h v' w' h1 h2 h3)
theorem step_append_ints {w:World} {ops:Array Oper} {o:Oper} {a:Act} {K:Act→World→Prop} {Q:Exit→Act→World→Prop} {E:Prop} (hgd:o.guard=none) (s x:Operand)
  (ho:o.op= .call {callee:= .builtin .append,args:= #[s,x],argTypes:= #[26,26]})
  (base:Nat) (v:Value) (xs:List Int) (hown:OwI w base v xs) (hs:a.eval s=v) (u:Value) (ys:List Int) (hr:RdI w u ys) (hx:a.eval x=u)
  (hl:xs.length+ys.length≤1099511627776) (hbase:base≤w.heap.size)
  (h: ∀v' w',OwI w' base v' (xs++ys)→w.grownBy w' v.ownBlock→(v'.ownBlock=v.ownBlock∨v'.ownBlock=some w.heap.size)→K (a.put o.dst v') w'):
  if Region.wanted o (yielded ops a.tmps)=true then Oper.wp Tryz.prog o a w K Q else E:=by
 have hw:Region.wanted o (yielded ops a.tmps)=true:=by simp[Region.wanted,hgd]
 rw[if_pos hw]
 exact wp_append_ints s x ho base v xs hown hs u ys hr hx hl hbase h
theorem RdI.one {w:World} {b off cap n k:Nat} {xs:List Int} (h:RdI w (.slice (some ⟨b,off,none⟩) n cap) xs) (hk:k<xs.length):RdI w (.slice (some ⟨b,off+k,none⟩) 1 (cap-k)) [xs[k]]:=by
 obtain⟨⟨hl,A',cap',hv,hc,hm,hn,hb⟩,hr⟩:=h
 injection hv with h1 h2 h3
 subst h1 h2 h3
 obtain⟨b',off',cur,fr,hA,hh,hx⟩:=hb (by omega)
 have e1:b=b'∧off=off':=by simpa using hA
 obtain⟨rfl,rfl⟩:=e1
 refine⟨⟨rfl,_,_,rfl,by simp;omega,by omega,(fun h=>by cases h),fun _=>⟨b,off+k,cur,fr,rfl,hh,fun i hi=> ?_⟩⟩,fun x hx=> ?_⟩
 ·obtain rfl:i=0:=by simp at hi;omega
  have:=hx k (by simpa using hk)
  simpa using this
 ·simp at hx
  subst hx
  exact hr _ (by simp)
theorem bel_push {B base:Nat} {w0 w w1:World} {v:Value} {o:Obj} {e:TypeId} {sz n:Nat} {cs:List Value} (hb:Below B w0 w) (hB:B≤w.heap.size) (ho:w.ownsRow base e sz v n cs) (hbB:B≤base) (hg:(w.alloc o).grownBy w1 v.ownBlock):Below B w0 w1:=
 (hb.alloc hB o).grown hg (by simp;omega) fun k hk=>by have:=ho.lt k hk;omega
end Go.Proofs.YtfadnkjlilhneaaGreat
namespace Go.Proofs.YtfadnkjlilhneaaGreat
set_option maxRecDepth 20000
set_option linter.unusedVariables false
set_option linter.unusedSimpArgs false
open Go.RowKit
set_option maxHeartbeats 400000 in
theorem eqIntS_any (v u:Value) (xs ys:List Int) (w:World) (h:ArgI w v xs) (h':ArgI w u ys):
  Calls Tryz.prog 11 #[v,u] w fun e w'=>e= .returned (.bool (decide (xs=ys)))∧ ∃n,w'=w.drewN n:=by
 obtain⟨A,cap,rfl,hcap,hm,hr,hb⟩:=h
 obtain⟨A',cap',rfl,hcap',hm',hr',hb'⟩:=h'
 unfold maxLen at hm hm'
 by_cases hne:xs.length=ys.length
 ·have hd:((xs.length:Int) != (ys.length:Int))=false:=by simp[hne]
  have HNE:=hDD hne
  clear hne
  go_enter Tryz.func11,Tryz.ntmps11
  go_wp2
  go_loopw [5] (fun i wr=> ∃k:Nat,k≤xs.length∧i= .int .i64 k∧xs.take k=ys.take k∧ ∃n,wr=w.drewN n) (fun i _=>xs.length-(intOf i).toNat)
  case atStart=>exact⟨0,Nat.zero_le _,rfl,by simp,0,rfl⟩
  case round=>
   obtain⟨k,hk,rfl,heq,n,rfl⟩:=hrel
   have HEQ:=hDD heq
   clear heq
   by_cases hlt:k<xs.length
   ·obtain⟨b,off,rfl,hc⟩:=hb (by omega)
    have hlt':k<ys.length:=by have:=HNE.out;omega
    obtain⟨b',off',rfl,hc'⟩:=hb' (by omega)
    have hcell:=hc k hlt
    have hcell':=hc' k hlt'
    clear hc hc' hb hb'
    by_cases hx:xs[k]=ys[k]
    ·have hx1:(xs[k] != ys[k])=false:=by simp[hx]
     have HX:=hDD hx
     clear hx
     go_wp2
     go_quiet (fail)
     go_wp2
     go_roundw
     case rel=>exact⟨k+1,by omega,by go_num,take_eq_succ HEQ.out hlt hlt' HX.out,_,rfl⟩
     case measure=>simp[intOf];omega
    ·have hx1:(xs[k] != ys[k])=true:=by simp[hx]
     go_wp2
     go_quiet (fail)
     go_wp2
     go_ret
     exact⟨ret_bool (by symm;rw[decide_eq_false_iff_not];rintro rfl;exact hx rfl),_,World.drewN_drewN _ _ _⟩
   ·obtain rfl:k=xs.length:=by omega
    go_wp2
    go_ret
    refine⟨ret_bool ?_,n,rfl⟩
    have h1:=HEQ.out
    rw[List.take_length,HNE.out,List.take_length] at h1
    simp[h1]
 ·have hd:((xs.length:Int) != (ys.length:Int))=true:=by simp;omega
  go_enter Tryz.func11,Tryz.ntmps11
  go_wp2
  go_ret
  exact⟨ret_bool (by symm;rw[decide_eq_false_iff_not];rintro rfl;exact hne rfl),0,rfl⟩
def iota (k:Int) (n:Nat):List Int:=(List.range n).map fun i=>k+(i:Nat)
theorem iota_length (k:Int) (n:Nat):(iota k n).length=n:=by simp[iota]
theorem iota_get (k:Int) (n i:Nat) (h:i<n):(iota k n)[i]'(by simp[iota,h])=k+(i:Nat):=by simp[iota]
theorem mark_step (k:Int) (xs:List Int) (i:Nat) (hi:i<xs.length):
  (((iota k i++xs.drop i).map (Value.int .i64)).set i (.int .i64 (k+(i:Nat))))=(iota k (i+1)++xs.drop (i+1)).map (Value.int .i64):=by
 have e:xs.drop i=xs[i]::xs.drop (i+1):=List.drop_eq_getElem_cons hi
 rw[e,←List.map_set,List.set_append_right _ _ (by simp[iota])]
 simp only[iota,List.length_map,List.length_range,Nat.sub_self,List.set_cons_zero,List.range_succ,List.map_append,List.map_cons,List.map_nil,List.append_assoc,List.cons_append,List.nil_append]
set_option maxHeartbeats 400000 in
theorem markIntS_any (v:Value) (xs:List Int) (k:Int) (base:Nat) (w:World) (h:OwI w base v xs) (hl:xs.length≤1073741824) (hk0:0≤k) (hk:k≤1125899906842624):
  Calls Tryz.prog 14 #[v, .int .i64 k] w fun e w'=>e= .returned (.int .i64 (k+xs.length))∧OwI w' base v (iota k xs.length)∧w.grownBy w' v.ownBlock:=by
 obtain⟨hown,hr⟩:=h
 rcases hown.2 with ⟨rfl,hn⟩ | ⟨g,cap,cur,rfl,hg,hh,hnc,hcm,hcs,htake⟩
 ·have:xs= []:=List.eq_nil_of_length_eq_zero hn
  subst this
  go_enter Tryz.func14,Tryz.ntmps14
  go_wp2
  refine wp_loop_rounds 1 ?_
  rw[rounds_succ]
  go_wp2
  go_ret
  exact⟨ret_int (by simp),⟨by simpa[iota] using hown,fun x hx=>by simp[iota] at hx⟩,World.grownBy.refl _ _⟩
 ·clear hh hcs htake cur
  go_enter Tryz.func14,Tryz.ntmps14
  go_wp2
  go_loopw [1,5] (fun kk i wr=> ∃j:Nat,j≤xs.length∧i= .int .i64 j∧kk= .int .i64 (k+(j:Nat))∧
    wr.ownsRow base 3 1 (.slice (some ⟨g,0,none⟩) xs.length cap) xs.length ((iota k j++xs.drop j).map (Value.int .i64))∧w.grownBy wr (some g))
   (fun _ i _=>xs.length-(intOf i).toNat)
  case atStart=>exact⟨0,Nat.zero_le _,rfl,by simp,by simpa[iota] using hown,World.grownBy.refl _ _⟩
  case round=>
   obtain⟨j,hj,rfl,rfl,hown1,hgr⟩:=hrel
   by_cases hlt:j<xs.length
   ·have hfr:=hown1.frozenAt j
    have hold:=hown1.cellAt j (by omega)
    have hold':wr.cell? ⟨g,j,none⟩=some (.int .i64 xs[j]):=by
     rw[hold];simp[List.getElem?_append,iota,hlt]
    have HS:=hDD (hown1.stored j (.int .i64 (k+(j:Nat))))
    clear hold
    go_wp2
    go_roundw
    case rel=>exact⟨j+1,by omega,by go_num,by go_num,by rw[←mark_step k xs j hlt];exact HS.out.1,hgr.trans HS.out.2⟩
    case measure=>simp[intOf];omega
   ·obtain rfl:j=xs.length:=by omega
    go_wp2
    go_ret
    exact⟨rfl,⟨by simpa[iota] using hown1,fun x hx=>by simp[iota] at hx;obtain⟨a,ha,rfl⟩:=hx;unfold I64;omega⟩,hgr⟩
set_option maxHeartbeats 400000 in
theorem heldIntS_any (v:Value) (n:Nat) (k:Int) (w:World) (h:ArgI w v (iota k n)) (hl:n≤1073741824) (hk0:0≤k) (hk:k≤1125899906842624):
  Calls Tryz.prog 15 #[v, .int .i64 k] w fun e w'=>e= .returned (.int .i64 (k+n))∧w=w':=by
 obtain⟨A,cap,hv,hcap,hm,hr,hb⟩:=h
 rw[iota_length] at hv hcap
 subst hv
 go_enter Tryz.func15,Tryz.ntmps15
 go_wp2
 go_loop [1,5] (fun kk i=> ∃j:Nat,j≤n∧i= .int .i64 j∧kk= .int .i64 (k+(j:Nat))) (fun _ i=>n-(intOf i).toNat)
 case atStart=>exact⟨0,Nat.zero_le _,rfl,by simp⟩
 case round=>
  obtain⟨j,hj,rfl,rfl⟩:=hrel
  by_cases hlt:j<n
  ·obtain⟨b,off,rfl,hc⟩:=hb (by rw[iota_length];omega)
   have hcell:=hc j (by rw[iota_length];omega)
   rw[iota_get k n j hlt] at hcell
   clear hc hb
   go_wp2
   go_round
   case rel=>exact⟨j+1,by omega,by go_num,by go_num⟩
   case measure=>simp[intOf];omega
  ·obtain rfl:j=n:=by omega
   go_wp2
   go_ret
   exact⟨rfl,rfl⟩
structure Tr (a b:Nat) (w w':World):Prop where
 os:w'.os=w.os
 tape:w'.tape=w.tape
 output:w'.output=w.output
 size:w.heap.size≤w'.heap.size
 block: ∀k,k<w.heap.size→ ¬(a≤k∧k<b)→w'.heap[k]? =w.heap[k]?
theorem Tr.refl (w:World):Tr 0 0 w w:=⟨rfl,rfl,rfl,Nat.le_refl _,fun _ _ _=>rfl⟩
theorem Tr.below {w w':World} (h:Below w.heap.size w w'):Tr 0 0 w w':=⟨h.os,h.tape,h.output,h.size,fun k hk _=>h.block k hk⟩
theorem Tr.drewN (w:World) (n:Nat):Tr 0 0 w (w.drewN n):=⟨rfl,rfl,rfl,Nat.le_refl _,fun _ _ _=>rfl⟩
theorem Tr.drew (w:World):Tr 0 0 w w.drew:=⟨rfl,rfl,rfl,Nat.le_refl _,fun _ _ _=>rfl⟩
theorem Tr.grown {w w':World} {row:Option Nat} (h:w.grownBy w' row) {a b:Nat} (hr: ∀k,row=some k→a≤k∧k<b):Tr a b w w':=
 ⟨h.os,h.tape,h.output,h.size,fun k hk hn=>h.block k hk (fun e=>hn (hr k e.symm))⟩
def Loc (O:World→Prop) (lo hi:Nat):Prop:= ∀w w':World,O w→(∀b,lo≤b→b<hi→w'.heap[b]? =w.heap[b]?)→O w'
structure Ob (O:World→Prop) (lo hi:Nat) (w:World):Prop where
 holds:O w
 loc:Loc O lo hi
 le:hi≤w.heap.size
theorem Ob.tr {O:World→Prop} {lo hi a b:Nat} {w w':World} (h:Ob O lo hi w) (t:Tr a b w w') (hd:b≤lo∨hi≤a∨b≤a):Ob O lo hi w':=by
 refine⟨h.loc w w' h.holds fun k h1 h2=>t.block k ?_ ?_,h.loc,?_⟩
 ·have:=h.le;omega
 ·omega
 ·have:=h.le;have:=t.size;omega
theorem bel_tr {N a b:Nat} {w0 w w':World} (h:Below N w0 w) (t:Tr a b w w') (hN:N≤w.heap.size) (hd:N≤a∨b≤a):Below N w0 w':=
 ⟨t.os.trans h.os,t.tape.trans h.tape,t.output.trans h.output,Nat.le_trans h.size t.size,fun k hk=>(t.block k (by omega) (by omega)).trans (h.block k hk)⟩
theorem Tr.then_ {a b:Nat} {w w1 w2:World} (h:Tr 0 0 w w1) (t:Tr a b w1 w2) (hb:b≤w.heap.size):Tr a b w w2:=
 ⟨t.os.trans h.os,t.tape.trans h.tape,t.output.trans h.output,Nat.le_trans h.size t.size,fun k hk hn=>(t.block k (Nat.lt_of_lt_of_le hk h.size) hn).trans (h.block k hk (by omega))⟩
theorem Tr.alloc_eq {w W:World} {o:Obj} (h:W=w.alloc o):Tr 0 0 w W:=by
 subst h
 exact Tr.below ((Below.refl _ _).alloc (Nat.le_refl _) _)
theorem Tr.alloc_size {w W:World} {o:Obj} (h:W=w.alloc o):w.heap.size+1≤W.heap.size:=by
 subst h
 simp
def Box (b:Nat) (cs:List Value) (t:TypeId) (w:World):Prop:=w.heap[b]? =some (.cells cs.toArray t (0,0))
theorem Box.new {w W:World} {cs:List Value} {t:TypeId} (h:W=w.alloc (Obj.cells cs.toArray t)):Ob (Box w.heap.size cs t) w.heap.size (w.heap.size+1) W:=by
 subst h
 exact⟨heap_alloc_new w _,fun u u' hu hb=>by unfold Box at*;rw[hb _ (Nat.le_refl _) (by omega)];exact hu,by simp⟩
theorem Box.cell_0 {b:Nat} {x:Value} {cs:List Value} {t:TypeId} {w:World} (h:Box b (x::cs) t w):w.cell? ⟨b,0,none⟩=some x:=by
 rw[cell_of_row w b 0 _ t (0,0) h];rfl
theorem Box.cell_1 {b:Nat} {x y:Value} {cs:List Value} {t:TypeId} {w:World} (h:Box b (x::y::cs) t w):w.cell? ⟨b,1,none⟩=some y:=by
 rw[cell_of_row w b 1 _ t (0,0) h];rfl
theorem Box.cell_2 {b:Nat} {x y z:Value} {cs:List Value} {t:TypeId} {w:World} (h:Box b (x::y::z::cs) t w):w.cell? ⟨b,2,none⟩=some z:=by
 rw[cell_of_row w b 2 _ t (0,0) h];rfl
theorem ArgI.loc {w:World} {v:Value} {xs:List Int} (h:ArgI w v xs):Loc (fun w=>ArgI w v xs) 0 w.heap.size:=by
 intro u u' hu hb
 obtain⟨A,cap,hv,hc,hm,hr,hx⟩:=h
 obtain⟨A',cap',hv',hc',hm',hr',hx'⟩:=hu
 refine⟨A',cap',hv',hc',hm',hr',fun h0=> ?_⟩
 obtain⟨b,off,hA,hcell⟩:=hx h0
 obtain⟨b',off',hA',hcell'⟩:=hx' h0
 have hbb:b=b':=by
  rw[hv] at hv'
  injection hv' with e1 e2 e3
  rw[hA,hA'] at e1
  simpa using (by simpa using e1:b=b'∧off=off').1
 subst hbb
 have hlt:b<w.heap.size:=World.block_lt_of_cell? w _ (hcell 0 h0)
 exact⟨b,off',hA',fun i hi=>by rw[World.cell?_of_block (w:=u) (hb b (Nat.zero_le _) hlt)];exact hcell' i hi⟩
theorem ArgI.ob {w:World} {v:Value} {xs:List Int} (h:ArgI w v xs):Ob (fun w=>ArgI w v xs) 0 w.heap.size w:=⟨h,h.loc,Nat.le_refl _⟩
def OI (lo hi:Nat) (v:Value) (xs:List Int) (w:World):Prop:=OwI w lo v xs∧ ∀b,v.ownBlock=some b→b<hi
theorem OI.loc {lo hi:Nat} {v:Value} {xs:List Int} (hr: ∀b,v.ownBlock=some b→b<hi):Loc (OI lo hi v xs) lo hi:=by
 intro u u' hu hb
 refine⟨⟨⟨hu.1.1.1,?_⟩,hu.1.2⟩,hu.2⟩
 rcases hu.1.1.2 with h0 | ⟨g,cap,cur,hv,hg,hh,r⟩
 ·exact .inl h0
 ·exact .inr ⟨g,cap,cur,hv,hg,by rw[hb g hg (hr g (by rw[hv];rfl))];exact hh,r⟩
theorem OwI.ob {w:World} {lo:Nat} {v:Value} {xs:List Int} (h:OwI w lo v xs):Ob (OI lo w.heap.size v xs) lo w.heap.size w:=
 ⟨⟨h,fun b hb=>(h.1.lt b hb).2⟩,OI.loc fun b hb=>(h.1.lt b hb).2,Nat.le_refl _⟩
theorem ArgI.form {w:World} {v:Value} {xs:List Int} (h:ArgI w v xs): ∃A cap,v= .slice A xs.length cap:=by
 obtain⟨A,cap,hv,_⟩:=h
 exact⟨A,cap,hv⟩
theorem eqIntS_ob (v u:Value) (xs ys:List Int) (w:World) {lo hi lo' hi':Nat} (h:OI lo hi v xs w) (h':OI lo' hi' u ys w):
  Calls Tryz.prog 11 #[v,u] w fun e w'=>e= .returned (.bool (decide (xs=ys)))∧Tr 0 0 w w':=
 (eqIntS_any v u xs ys w h.1.arg h'.1.arg).mono fun _ _ ⟨he,n,hn⟩=>⟨he,by rw[hn];exact Tr.drewN _ _⟩
theorem heldIntS_ob (v:Value) (xs:List Int) (k:Int) (lo hi:Nat) (w:World) (h:Ob (OI lo hi v (iota k xs.length)) lo hi w)
  (hl:xs.length≤1073741824) (hk0:0≤k) (hk:k≤1125899906842624):
  Calls Tryz.prog 15 #[v, .int .i64 k] w fun e w'=>e= .returned (.int .i64 (k+xs.length))∧Tr 0 0 w w':=
 (heldIntS_any v xs.length k w h.holds.1.arg hl hk0 hk).mono fun _ _ ⟨he,hw⟩=>⟨he,by rw[←hw];exact Tr.refl _⟩
theorem Tr.trans {a b:Nat} {w w1 w2:World} (h:Tr a b w w1) (t:Tr a b w1 w2):Tr a b w w2:=
 ⟨t.os.trans h.os,t.tape.trans h.tape,t.output.trans h.output,Nat.le_trans h.size t.size,fun k hk hn=>(t.block k (Nat.lt_of_lt_of_le hk h.size) hn).trans (h.block k hk hn)⟩
def Kept (w0:World) (P:World→Prop) (u:World):Prop:=P w0∧ ∀b,b<w0.heap.size→u.heap[b]? =w0.heap[b]?
theorem Kept.ob {w:World} {P:World→Prop} (h:P w):Ob (Kept w P) 0 w.heap.size w:=
 ⟨⟨h,fun _ _=>rfl⟩,fun _ _ hu hb=>⟨hu.1,fun b hlt=>(hb b (Nat.zero_le _) hlt).trans (hu.2 b hlt)⟩,Nat.le_refl _⟩
end Go.Proofs.YtfadnkjlilhneaaGreat
namespace Go.Proofs.YtfadnkjlilhneaaGreat
set_option maxRecDepth 20000
set_option linter.unusedVariables false
set_option linter.unusedSimpArgs false
open Go.RowKit
abbrev EdD:=Int×Int×Int
abbrev GrD:=Int×Int×List EdD
def edC (e:EdD):List Value:= [.int .i64 e.1, .int .i64 e.2.1, .int .i64 e.2.2]
def edCs (es:List EdD):List Value:=(es.map edC).flatten
def E64 (e:EdD):Prop:=I64 e.1∧I64 e.2.1∧I64 e.2.2
abbrev E64s (es:List EdD):Prop:= ∀e∈es,E64 e
theorem E64s_nil:E64s []:=fun _ h=>by cases h
theorem E64s_append {a b:List EdD} (ha:E64s a) (hb:E64s b):E64s (a++b):=fun e he=>by
 rcases List.mem_append.1 he with he | he
 ·exact ha e he
 ·exact hb e he
theorem E64s_one {e:EdD} (h:E64 e):E64s [e]:=fun x hx=>by simp at hx;subst hx;exact h
theorem edCs_cons (e:EdD) (es:List EdD):edCs (e::es)=edC e++edCs es:=by simp[edCs]
theorem edCs_append (a b:List EdD):edCs (a++b)=edCs a++edCs b:=by simp[edCs]
theorem edCs_length (es:List EdD):(edCs es).length=es.length*3:=by
 induction es with
 | nil=>rfl
 | cons e es ih=>rw[edCs_cons];simp[edC,ih];omega
theorem edCs_get (es:List EdD) (k j:Nat) (hk:k<es.length) (hj:j<3):(edCs es)[k*3+j]? =(edC es[k])[j]? :=by
 induction es generalizing k with
 | nil=>cases hk
 | cons e es ih=>
   rw[edCs_cons]
   match k with
   | 0=>rw[List.getElem?_append_left (by simp[edC];omega)];simp
   | k+1=>
     rw[List.getElem?_append_right (by simp[edC];omega)]
     have:(k+1)*3+j-(edC e).length=k*3+j:=by simp[edC];omega
     rw[this,ih k (by simpa using hk)]
     rfl
theorem edCs_one {es:List EdD} {v:Value} (h:v∈edCs es):v.oneCell'=true:=by
 unfold edCs at h
 obtain⟨l,hl,hv⟩:=List.mem_flatten.1 h
 obtain⟨e,_,rfl⟩:=List.mem_map.1 hl
 simp[edC] at hv
 rcases hv with rfl | rfl | rfl<;>rfl
def ArgE (w:World) (v:Value) (es:List EdD):Prop:=
 ∃A cap,v= .slice A es.length cap∧es.length≤cap∧cap≤maxLen∧(A=none→cap=0)∧E64s es∧
  (0<es.length→ ∃b off,A=some ⟨b,off,none⟩∧b<w.heap.size∧ ∀k (hk:k<es.length),w.cell? ⟨b,off+k*3,none⟩=some (.int .i64 es[k].1)∧w.cell? ⟨b,off+k*3+1,none⟩=some (.int .i64 es[k].2.1)∧w.cell? ⟨b,off+k*3+2,none⟩=some (.int .i64 es[k].2.2))
def OwE (w:World) (base:Nat) (v:Value) (es:List EdD):Prop:=w.ownsRow base 54 3 v es.length (edCs es)∧E64s es
def ArgG (w:World) (v:Value) (g:GrD):Prop:= ∃s,v= .agg #[.int .i64 g.1, .int .i64 g.2.1,s]∧I64 g.1∧I64 g.2.1∧ArgE w s g.2.2
def OwG (w:World) (base:Nat) (v:Value) (g:GrD):Prop:= ∃s,v= .agg #[.int .i64 g.1, .int .i64 g.2.1,s]∧I64 g.1∧I64 g.2.1∧OwE w base s g.2.2
section
variable {w w':World} {v:Value} {es:List EdD} {g:GrD} {base:Nat}
theorem ArgE.below (h:ArgE w v es) (hb:Below w.heap.size w w'):ArgE w' v es:=by
 obtain⟨A,cap,hv,hc,hm,hn,hr,hx⟩:=h
 refine⟨A,cap,hv,hc,hm,hn,hr,fun h0=> ?_⟩
 obtain⟨b,off,hA,hlt,hx⟩:=hx h0
 have:=hb.size
 refine⟨b,off,hA,by omega,fun k hk=> ?_⟩
 obtain⟨h1,h2,h3⟩:=hx k hk
 exact⟨(hb.cell (p:=⟨b,_,none⟩) hlt).trans h1,(hb.cell (p:=⟨b,_,none⟩) hlt).trans h2,(hb.cell (p:=⟨b,_,none⟩) hlt).trans h3⟩
theorem ArgE.drewN (h:ArgE w v es) (k:Nat):ArgE (w.drewN k) v es:=h
theorem ArgE.drew (h:ArgE w v es):ArgE w.drew v es:=h
theorem ArgE.alloc (h:ArgE w v es) (o:Obj):ArgE (w.alloc o) v es:=h.below ((Below.refl _ _).alloc (Nat.le_refl _) _)
theorem ArgE.grown {row:Option Nat} (h:ArgE w v es) (hg:w.grownBy w' row) (hne: ∀b,v.ownBlock=some b→row=some b→False):ArgE w' v es:=by
 obtain⟨A,cap,hv,hc,hm,hn,hr,hx⟩:=h
 refine⟨A,cap,hv,hc,hm,hn,hr,fun h0=> ?_⟩
 obtain⟨b,off,hA,hlt,hx⟩:=hx h0
 have hh:w'.heap[b]? =w.heap[b]? :=hg.block b hlt fun e=>hne b (by rw[hv,hA];rfl) e.symm
 have:=hg.size
 refine⟨b,off,hA,by omega,fun k hk=> ?_⟩
 obtain⟨h1,h2,h3⟩:=hx k hk
 exact⟨(World.cell?_of_block (w:=w) hh).trans h1,(World.cell?_of_block (w:=w) hh).trans h2,(World.cell?_of_block (w:=w) hh).trans h3⟩
theorem ArgE.form (h:ArgE w v es): ∃A cap,v= .slice A es.length cap:=by
 obtain⟨A,cap,hv,_⟩:=h
 exact⟨A,cap,hv⟩
theorem ArgE.at {A:Option Addr} {m cap:Nat} (h:ArgE w (.slice A m cap) es) {k:Nat} (hk:k<es.length):
  ∃b off,A=some ⟨b,off,none⟩∧b<w.heap.size∧w.cell? ⟨b,off+k*3,none⟩=some (.int .i64 es[k].1)∧w.cell? ⟨b,off+k*3+1,none⟩=some (.int .i64 es[k].2.1)∧w.cell? ⟨b,off+k*3+2,none⟩=some (.int .i64 es[k].2.2)∧E64 es[k]:=by
 obtain⟨A',cap',hv,hc,hm,hn,hr,hx⟩:=h
 obtain⟨b,off,hA,hlt,hx⟩:=hx (by omega)
 injection hv with e1 e2 e3
 obtain⟨h1,h2,h3⟩:=hx k hk
 exact⟨b,off,e1.trans hA,hlt,h1,h2,h3,hr _ (by simp)⟩
theorem OwE.arg (h:OwE w base v es):ArgE w v es:=by
 obtain⟨ho,hr⟩:=h
 obtain⟨A,cap,hv,hc,hm,hn,hx⟩:=owns_form ho
 refine⟨A,cap,hv,hc,hm,hn,hr,fun h0=> ?_⟩
 obtain⟨g,hA,hg1,hg2⟩:=hx h0
 subst hv hA
 refine⟨g,0,rfl,hg2,fun k hk=> ?_⟩
 have c:=fun j (hj:j<3)=>ho.cellAt (k*3+j) (by omega)
 have c0:=c 0 (by omega);have c1:=c 1 (by omega);have c2:=c 2 (by omega)
 rw[edCs_get es k _ hk (by omega)] at c0 c1 c2
 simp only[edC,List.getElem?_cons_zero,List.getElem?_cons_succ,Nat.add_zero] at c0 c1 c2
 simp only[Nat.zero_add]
 exact⟨c0,c1,c2⟩
theorem OwE.mono {base':Nat} (h:OwE w base v es) (hb:base'≤base):OwE w base' v es:=by
 refine⟨⟨h.1.1,?_⟩,h.2⟩
 rcases h.1.2 with h0 | ⟨g,cap,cur,hv,hg,r⟩
 ·exact .inl h0
 ·exact .inr ⟨g,cap,cur,hv,Nat.le_trans hb hg,r⟩
theorem OwE.below (h:OwE w base v es) (hb:Below w.heap.size w w'):OwE w' base v es:=⟨ownsRow_below h.1 hb,h.2⟩
theorem OwE.drewN (h:OwE w base v es) (k:Nat):OwE (w.drewN k) base v es:=h
theorem OwE.drew (h:OwE w base v es):OwE w.drew base v es:=h
theorem OwE.alloc (h:OwE w base v es) (o:Obj):OwE (w.alloc o) base v es:=⟨h.1.alloc o,h.2⟩
theorem OwE.far (h:OwE w base v es) {p:Addr} (hp:p.block<base) (u:Value):OwE (w.setCell p u) base v es:=⟨ownsRow_setCell_below h.1 hp u,h.2⟩
theorem OwE.form (h:OwE w base v es): ∃A cap,v= .slice A es.length cap∧es.length≤cap∧cap≤maxLen∧(A=none→cap=0)∧(0<es.length→ ∃g,A=some ⟨g,0,none⟩∧base≤g∧g<w.heap.size):=owns_form h.1
theorem OwE.keep (h:OwE w base v es) (hb: ∀b,v.ownBlock=some b→w'.heap[b]? =w.heap[b]?):OwE w' base v es:=by
 refine⟨⟨h.1.1,?_⟩,h.2⟩
 rcases h.1.2 with h0 | ⟨g,cap,cur,hv,hg,hh,r⟩
 ·exact .inl h0
 ·exact .inr ⟨g,cap,cur,hv,hg,by rw[hb g (by rw[hv];rfl)];exact hh,r⟩
theorem OwE.nil:OwE w base (.slice none 0 0) []:=⟨⟨rfl, .inl ⟨rfl,rfl⟩⟩,E64s_nil⟩
theorem OwE_lit (w:World) {base:Nat} (hb:base≤w.heap.size):OwE (w.alloc (.cells #[] 54)) base (.slice (some ⟨w.heap.size,0,none⟩) 0 0) []:=
 ⟨by have:=World.ownsRow_lit (e:=54) (size:=3) (base:=base) w #[] 0 hb (by unfold maxLen;omega) (by simp);simpa[edCs] using this,E64s_nil⟩
theorem ArgE.cut {A:Option Addr} {m cap k:Nat} (h:ArgE w (.slice A m cap) es) (hk:k≤es.length):ArgE w (.slice (if cap=k then A else A.map (·.add (k*3))) (es.length-k) (cap-k)) (es.drop k):=by
 obtain⟨A',cap',hv,hc,hm,hn,hr,hx⟩:=h
 injection hv with e1 e2 e3
 subst e1 e2 e3
 refine⟨_,_,by rw[List.length_drop],by simp;omega,by omega,?_,fun x hx=>hr x (List.mem_of_mem_drop hx),fun h0=> ?_⟩
 ·split
  ·intro _;omega
  ·intro hA
   cases A with
   | none=>have:=hn rfl;omega
   | some a=>cases hA
 ·simp at h0
  obtain⟨b,off,rfl,hlt,hx⟩:=hx (by omega)
  rw[if_neg (by omega)]
  refine⟨b,off+k*3,by simp[Addr.add_lit],hlt,fun j hj=> ?_⟩
  simp only[List.length_drop] at hj
  have:=hx (k+j) (by omega)
  rw[List.getElem_drop]
  have e:off+k*3+j*3=off+(k+j)*3:=by omega
  rw[e]
  exact this
theorem ArgG.below (h:ArgG w v g) (hb:Below w.heap.size w w'):ArgG w' v g:=by
 obtain⟨s,hv,h1,h2,ha⟩:=h
 exact⟨s,hv,h1,h2,ha.below hb⟩
theorem OwG.arg (h:OwG w base v g):ArgG w v g:=by
 obtain⟨s,hv,h1,h2,ha⟩:=h
 exact⟨s,hv,h1,h2,ha.arg⟩
theorem OwG.below (h:OwG w base v g) (hb:Below w.heap.size w w'):OwG w' base v g:=by
 obtain⟨s,hv,h1,h2,ha⟩:=h
 exact⟨s,hv,h1,h2,ha.below hb⟩
theorem OwG.mono {base':Nat} (h:OwG w base v g) (hb:base'≤base):OwG w base' v g:=by
 obtain⟨s,hv,h1,h2,ha⟩:=h
 exact⟨s,hv,h1,h2,ha.mono hb⟩
end
theorem ArgG.inner {w:World} {g:GrD} {a b s:Value} (h:ArgG w (.agg #[a,b,s]) g): ∃A cap,s= .slice A g.2.2.length cap∧ArgE w (.slice A g.2.2.length cap) g.2.2∧I64 g.1∧I64 g.2.1:=by
 obtain⟨s',hv,h1,h2,ha⟩:=h
 obtain rfl:s=s':=by injection hv with e;simp at e;exact e.2.2
 obtain⟨A,cap,rfl⟩:=ha.form
 exact⟨A,cap,rfl,ha,h1,h2⟩
theorem edge_info:(Tryz.prog.info? 54).map (fun i=>(i.zero,i.size,i.bytes))=some (some (.agg #[.int .i64 0, .int .i64 0, .int .i64 0]),3,24):=by kernel_rfl
theorem toList_madeCells (z:Array Value) (n:Nat) (hz:0<z.size):(madeCells z (n*z.size)).toList=(List.replicate n z.toList).flatten:=by
 have key: ∀n j,j<n*z.size→((List.replicate n z.toList).flatten)[j]? =z[j%z.size]? :=by
  intro n
  induction n with
  | zero=>intro j hj;simp at hj
  | succ n ih=>
    intro j hj
    rw[List.replicate_succ,List.flatten_cons]
    by_cases hlt:j<z.size
    ·rw[List.getElem?_append_left (by simpa using hlt),Nat.mod_eq_of_lt hlt];simp
    ·rw[List.getElem?_append_right (by simp;omega),ih _ (by simp[Nat.add_mul] at*;omega)]
     simp only[Array.length_toList]
     rw[←Nat.mod_eq_sub_mod (by omega)]
 apply List.ext_getElem?
 intro j
 by_cases hj:j<n*z.size
 ·rw[key n j hj]
  have hm:j%z.size<z.size:=Nat.mod_lt _ hz
  simp[madeCells,hj,hm]
 ·rw[List.getElem?_eq_none (by simp[madeCells];omega),List.getElem?_eq_none (by simp;omega)]
theorem edCs_set (es:List EdD) (k:Nat) (hk:k<es.length) (x y z:Int):(((edCs es).set (k*3) (.int .i64 x)).set (k*3+1) (.int .i64 y)).set (k*3+2) (.int .i64 z)=edCs (es.set k (x,y,z)):=by
 induction es generalizing k with
 | nil=>cases hk
 | cons e es ih=>
   match k with
   | 0=>simp[edCs_cons,edC]
   | k+1=>
     have h3:(edC e).length=3:=rfl
     rw[List.set_cons_succ,edCs_cons,edCs_cons,←ih k (by simpa using hk)]
     rw[List.set_append_right _ _ (by rw[h3];omega),List.set_append_right _ _ (by rw[h3];omega),List.set_append_right _ _ (by rw[h3];omega),h3]
     congr 2
     ·congr 1
      ·congr 1;omega
      ·omega
     ·omega
theorem OwE.set {w:World} {base n g cap:Nat} {es:List EdD} (h:OwE w base (.slice (some ⟨g,0,none⟩) n cap) es) (k:Nat) (hk:k<es.length) {x y z:Int} (hx:I64 x) (hy:I64 y) (hz:I64 z):
  OwE (((w.setCell ⟨g,k*3,none⟩ (.int .i64 x)).setCell ⟨g,k*3+1,none⟩ (.int .i64 y)).setCell ⟨g,k*3+2,none⟩ (.int .i64 z)) base (.slice (some ⟨g,0,none⟩) n cap) (es.set k (x,y,z))∧
  w.grownBy (((w.setCell ⟨g,k*3,none⟩ (.int .i64 x)).setCell ⟨g,k*3+1,none⟩ (.int .i64 y)).setCell ⟨g,k*3+2,none⟩ (.int .i64 z)) (some g):=by
 have hn:n=es.length:=by
  rcases h.1.2 with ⟨hv,_⟩ | ⟨g',cap',cur,hv,_⟩
  ·cases hv
  ·injection hv
 subst hn
 obtain⟨h1,g1⟩:=h.1.stored (k*3) (.int .i64 x)
 obtain⟨h2,g2⟩:=h1.stored (k*3+1) (.int .i64 y)
 obtain⟨h3,g3⟩:=h2.stored (k*3+2) (.int .i64 z)
 refine⟨⟨?_,fun e he=> ?_⟩,(g1.trans g2).trans g3⟩
 ·rw[edCs_set es k hk] at h3
  rw[List.length_set]
  exact h3
 ·rcases List.mem_or_eq_of_mem_set he with he | rfl
  ·exact h.2 e he
  ·exact⟨hx,hy,hz⟩
theorem OwE.cellAt {w:World} {base n g cap:Nat} {es:List EdD} (h:OwE w base (.slice (some ⟨g,0,none⟩) n cap) es) (k:Nat) (hk:k<es.length):
  w.cell? ⟨g,k*3,none⟩=some (.int .i64 es[k].1)∧w.cell? ⟨g,k*3+1,none⟩=some (.int .i64 es[k].2.1)∧w.cell? ⟨g,k*3+2,none⟩=some (.int .i64 es[k].2.2):=by
 obtain⟨b,off,hA,_,c0,c1,c2,_⟩:=h.arg.at hk
 injection hA with e
 injection e with e1 e2
 subst e1 e2
 rw[Nat.zero_add] at c0 c1 c2
 exact⟨c0,c1,c2⟩
theorem OwE.free {w:World} {base n g cap:Nat} {es:List EdD} (h:OwE w base (.slice (some ⟨g,0,none⟩) n cap) es) (j:Nat):w.frozen? ⟨g,j,none⟩=false:=by
 have hn:n=es.length:=by
  rcases h.1.2 with ⟨hv,_⟩ | ⟨g',cap',cur,hv,_⟩
  ·cases hv
  ·injection hv
 subst hn
 exact h.1.frozenAt j
theorem fill_set {α} (xs:List α) (z:α) (k:Nat) (hk:k<xs.length):(xs.take k++List.replicate (xs.length-k) z).set k xs[k]=xs.take (k+1)++List.replicate (xs.length-(k+1)) z:=by
 have e:xs.length-k=(xs.length-(k+1))+1:=by omega
 rw[e,List.replicate_succ,List.set_append_right _ _ (by simp;omega),List.length_take,Nat.min_eq_left (by omega),Nat.sub_self,List.set_cons_zero,List.take_succ_eq_append_getElem hk]
 simp only[List.append_assoc,List.cons_append,List.nil_append]
set_option maxHeartbeats 400000 in
theorem toEdge_any (x y z:Int) (w:World):
  Calls Tryz.prog 61 #[.agg #[.int .i64 x, .int .i64 y, .int .i64 z]] w fun e w'=>e= .returned (.agg #[.int .i64 x, .int .i64 y, .int .i64 z])∧Below w.heap.size w w':=by
 go_enter Tryz.func61,Tryz.ntmps61
 go_wp2
 refine bodyPost_ret (v:= .agg #[.int .i64 x, .int .i64 y, .int .i64 z]) (by simp[results,Tryz.results61,go_sem]) rfl ⟨rfl,(by repeat(first | exact Below.refl _ _ | (refine Below.setCell ?_ (by first | omega | (simp<;>omega)) _) | (refine bel_drewN ?_ _) | (refine Below.drew ?_) | (refine Below.alloc ?_ (by first | omega | (simp<;>omega)) _)))⟩
set_option maxHeartbeats 1000000 in
theorem toEdgeS_any (v:Value) (es:List EdD) (w:World) (h:ArgE w v es) (hl:es.length≤1048576):
  Calls Tryz.prog 32 #[v] w fun e w'=> ∃r,e= .returned r∧OwE w' w.heap.size r es∧Below w.heap.size w w':=by
 obtain⟨i0,hi0,hz0,hz1,hz2⟩:=info_parts edge_info
 have H:=hDD h
 obtain⟨A,cap,rfl,hcap,hm,_,hr,_⟩:=h
 have HR:=hDD hr
 unfold maxLen at hm
 clear hr
 go_enter Tryz.func32,Tryz.ntmps32
 go_wp2_with (at_make;refine wpList_make_full _ rfl _ _ 29 rfl w.heap.size 54 i0 (.agg #[.int .i64 0, .int .i64 0, .int .i64 0]) 3 Tryz.underlying29 hi0 hz0 hz1 _ _ _ _ es.length rfl rfl rfl rfl (by rw[hz2];omega) (by unfold maxLen;omega) (Nat.le_refl _) ?_)
 intro w0 hown0 hgrow0
 have own0:OwE w0 w.heap.size (.slice (some ⟨w.heap.size,0,none⟩) es.length es.length) (List.replicate es.length (0,0,0)):=by
  refine⟨?_,fun e he=> ?_⟩
  ·have e:=toList_madeCells #[.int .i64 0, .int .i64 0, .int .i64 0] es.length (by decide)
   rw[List.length_replicate]
   have e2:edCs (List.replicate es.length (0,0,0))=(List.replicate es.length [Value.int .i64 0, .int .i64 0, .int .i64 0]).flatten:=by simp[edCs,edC]
   rw[e2,←e]
   exact hown0
  ·obtain⟨_,rfl⟩:=List.mem_replicate.1 he
   exact⟨⟨by decide,by decide⟩,⟨by decide,by decide⟩,⟨by decide,by decide⟩⟩
 have HO:=hDD own0
 have HB:=hDD ((Below.refl w.heap.size w).grown hgrow0 (Nat.le_refl _) (fun k h=>by cases h))
 clear own0 hown0 hgrow0
 go_wp2
 go_loopw [4] (fun i wr=> ∃k:Nat,k≤es.length∧i= .int .i64 k∧
   OwE wr w.heap.size (.slice (some ⟨w.heap.size,0,none⟩) es.length es.length) (es.take k++List.replicate (es.length-k) (0,0,0))∧Below w.heap.size w wr)
  (fun i _=>es.length-(intOf i).toNat)
 case atStart=>exact⟨0,Nat.zero_le _,rfl,by simpa using HO.out,HB.out⟩
 case round=>
  obtain⟨k,hk,rfl,hown,hbel⟩:=hrel
  by_cases hlt:k<es.length
  ·have hsz:=hbel.size
   obtain⟨b,off,rfl,hbl,c0,c1,c2,_⟩:=(H.out.below hbel).at hlt
   have HX:=hDD (HR.out es[k] (by simp))
   have HS:=hDD (fill_set es (0,0,0) k hlt)
   have hll:k<(es.take k++List.replicate (es.length-k) ((0,0,0):EdD)).length:=by simp;omega
   have HO1:=hDD hown
   have HB1:=hDD hbel
   generalize es[k]=e at*
   obtain⟨x,y,z⟩:=e
   go_wp2_with fail
   refine(toEdge_any x y z _).mono ?_
   rintro e w1 ⟨rfl,b1⟩
   have B1:=hDD b1
   have o1:=HO1.out.below b1
   have hz1:w.heap.size<w1.heap.size:=(o1.1.lt w.heap.size rfl).2
   obtain⟨d0,d1,d2⟩:=o1.cellAt k hll
   have f0:=o1.free (k*3)
   have f1:=o1.free (k*3+1)
   have f2:=o1.free (k*3+2)
   have HST:=hDD (o1.set k hll HX.out.1 HX.out.2.1 HX.out.2.2)
   clear o1 b1 hown hbel
   go_wp2
   go_roundw
   case rel=>exact⟨k+1,by omega,by go_num,by rw[←HS.out];exact HST.out.1,((HB1.out.trans (B1.out.mono hsz)).grown HST.out.2 (by omega) (fun j hj=>by cases hj;exact Nat.le_refl _))⟩
   case measure=>simp[intOf];omega
  ·obtain rfl:k=es.length:=by omega
   have HO1:=hDD hown
   clear hown
   go_wp2
   go_ret
   exact⟨_,rfl,by simpa using HO1.out,hbel⟩
end Go.Proofs.YtfadnkjlilhneaaGreat
namespace Go.Proofs.YtfadnkjlilhneaaGreat
set_option maxRecDepth 20000
set_option linter.unusedVariables false
set_option linter.unusedSimpArgs false
open Go.RowKit
abbrev El (α:Type):=World→List Value→α→List Nat→Prop
section
variable {α:Type} {E:El α} {t:TypeId} {width:Nat} {w w' w1 w2:World} {v v':Value} {ds:List α} {lo hi:Nat}
end
theorem RdI_new1 (w:World) (z:Int) (hz:I64 z):RdI (w.alloc (.cells #[.int .i64 z] 3)) (.slice (some ⟨w.heap.size,0,none⟩) 1 1) [z]:=
 (OwI_lit w [z] (fun x hx=>by simp at hx;subst hx;exact hz) (by simp) (Nat.le_refl _)).rd
theorem three_rd {w:World} {u v t:Value} {xs ys zs:List Int} (h:RdI w u xs) (h':RdI w v ys) (h'':RdI w t zs):RdII (w.alloc (.cells #[u,v,t] 26)) (.slice (some ⟨w.heap.size,0,none⟩) 3 3) [xs,ys,zs]:=by
 have hr:=World.ownsRow_lit (e:=26) (size:=1) (base:=0) w #[u,v,t] 3 (Nat.zero_le _) (by unfold maxLen;omega) (by simp)
 refine⟨[u,v,t],rfl,RdV.of_own (by simpa using hr),fun i hi hi'=> ?_⟩
 match i,hi with
 | 0,_=>exact h.alloc _
 | 1,_=>exact h'.alloc _
 | 2,_=>exact h''.alloc _
end Go.Proofs.YtfadnkjlilhneaaGreat
namespace Go.Proofs.YtfadnkjlilhneaaGreat
set_option maxRecDepth 20000
set_option linter.unusedVariables false
set_option linter.unusedSimpArgs false
open Go.RowKit
section
variable {α:Type} {E:El α} {t:TypeId} {width:Nat} {w w' w1 w2:World} {v v':Value} {ds:List α} {lo hi:Nat}
theorem set_grown (w:World) (g j:Nat) (u:Value):w.grownBy (w.setCell ⟨g,j,none⟩ u) (some g):=
 ⟨rfl,rfl,rfl,by simp,fun b _ hb=>Below.heap_setCell w _ u b (fun e=>hb (by rw[e]))⟩
end
end Go.Proofs.YtfadnkjlilhneaaGreat
namespace Go.Proofs.YtfadnkjlilhneaaGreat
set_option maxRecDepth 20000
set_option linter.unusedVariables false
set_option linter.unusedSimpArgs false
section
variable {α:Type} (c:α→Nat) (m:Int→α→α)
variable {c m}
end
end Go.Proofs.YtfadnkjlilhneaaGreat
namespace Go.Proofs.YtfadnkjlilhneaaGreat
set_option maxRecDepth 20000
set_option linter.unusedVariables false
set_option linter.unusedSimpArgs false
open Go.RowKit
set_option maxHeartbeats 1000000 in
theorem toGraph_any (v:Value) (g:GrD) (w:World) (h:ArgG w v g) (hl:g.2.2.length≤1048576):
  Calls Tryz.prog 9 #[v] w fun e w'=> ∃r,e= .returned r∧OwG w' w.heap.size r g∧Below w.heap.size w w':=by
 obtain⟨s,rfl,hd,hd2,ha⟩:=h
 obtain⟨x,y,es⟩:=g
 have H:=hDD ha
 clear ha
 go_enter Tryz.func9,Tryz.ntmps9
 go_wp2_with fail
 refine(toEdgeS_any _ es _ ?_ hl).mono ?_
 ·exact(H.out.below ((Below.refl _ _).alloc (Nat.le_refl _) _)).below ((Below.refl _ _).alloc (Nat.le_refl _) _) |>.below ((Below.refl _ _).alloc (Nat.le_refl _) _)
 rintro e w1 ⟨r,rfl,o1,b1⟩
 have O1:=hDD o1
 have B1:=hDD b1
 obtain⟨A1,cap1,rfl,_⟩:=OwE.form o1
 obtain⟨hc,hf⟩:=bcell b1
 have hz:w.heap.size+1+1<w1.heap.size:=by have:=b1.size;simp at this;omega
 clear o1 b1
 go_wp2
 refine bodyPost_ret (v:= .agg #[.int .i64 x, .int .i64 y, .slice A1 es.length cap1]) (by simp[results,Tryz.results9,go_sem,hc,hz]) rfl ⟨_,rfl,⟨_,rfl,hd,hd2,?_⟩,?_⟩
 ·refine OwE.mono (base:=w.heap.size+1+1+1) ?_ (by omega)
  have O2:Hid (OwE w1 (w.heap.size+1+1+1) (.slice A1 es.length cap1) es):=hDD (by simpa using O1.out)
  exact(by repeat(first | exact(Hid.out O2) | exact(Hid.out O2).drewN _ | (refine OwE.far ?_ (by first | omega | (simp<;>omega)) _) | (refine OwE.alloc ?_ _) | (refine OwE.drew ?_) | (refine OwE.drewN ?_ _)))
 ·exact(by repeat(first | exact Below.refl _ _ | (refine Below.setCell ?_ (by first | omega | (simp<;>omega)) _) | (refine bel_drewN ?_ _) | (refine Below.drew ?_) | (refine Below.alloc ?_ (by first | omega | (simp<;>omega)) _) | (refine Below.trans ?_ (Below.mono (Hid.out B1) (by first | omega | (simp<;>omega))))))
set_option maxHeartbeats 400000 in
theorem szEdgeS_any (v:Value) (es:List EdD) (k:Int) (w:World) (h:ArgE w v es) (hk:0≤k) (hk':k≤1048576):
  Calls Tryz.prog 23 #[v, .int .i64 k] w fun e w'=>e= .returned (.int .i64 (if k-es.length<0 then-1 else k-es.length))∧w=w':=by
 obtain⟨A,cap,rfl,hc,hm,_⟩:=h
 unfold maxLen at hm
 by_cases h0:k-(es.length:Int)<0
 ·rw[if_pos h0]
  go_enter Tryz.func23,Tryz.ntmps23
  go_wp2
  go_ret
  exact⟨rfl,rfl⟩
 ·rw[if_neg h0]
  go_enter Tryz.func23,Tryz.ntmps23
  go_wp2
  go_ret
  exact⟨rfl,rfl⟩
set_option maxHeartbeats 400000 in
theorem szGraph_any (v:Value) (g:GrD) (k:Int) (w:World) (h:ArgG w v g) (hk:0≤k) (hk':k≤1048576):
  Calls Tryz.prog 7 #[v, .int .i64 k] w fun e w'=>e= .returned (.int .i64 (if k-g.2.2.length<0 then-1 else k-g.2.2.length))∧Below w.heap.size w w':=by
 obtain⟨s,rfl,hd,hd2,ha⟩:=h
 obtain⟨x,y,es⟩:=g
 have H:=hDD ha
 clear ha
 have hb:Below w.heap.size w (w.alloc (Obj.cells #[Value.int IntKind.i64 x,Value.int IntKind.i64 y,s] 24)):=(by repeat(first | exact Below.refl _ _ | (refine Below.setCell ?_ (by first | omega | (simp<;>omega)) _) | (refine bel_drewN ?_ _) | (refine Below.drew ?_) | (refine Below.alloc ?_ (by first | omega | (simp<;>omega)) _)))
 have hz:=szEdgeS_any s es k _ (H.out.below hb) hk hk'
 by_cases h0:k-(es.length:Int)<0
 ·rw[if_pos h0] at hz⊢
  have HZ:=hDD hz
  clear hz hb
  go_enter Tryz.func7,Tryz.ntmps7
  go_wp2_with fail
  refine HZ.out.mono ?_
  rintro e w1 ⟨rfl,rfl⟩
  go_wp2
  go_ret
  exact⟨rfl,(by repeat(first | exact Below.refl _ _ | (refine Below.setCell ?_ (by first | omega | (simp<;>omega)) _) | (refine bel_drewN ?_ _) | (refine Below.drew ?_) | (refine Below.alloc ?_ (by first | omega | (simp<;>omega)) _)))⟩
 ·rw[if_neg h0] at hz⊢
  have HZ:=hDD hz
  clear hz hb
  go_enter Tryz.func7,Tryz.ntmps7
  go_wp2_with fail
  refine HZ.out.mono ?_
  rintro e w1 ⟨rfl,rfl⟩
  go_wp2
  go_ret
  exact⟨rfl,(by repeat(first | exact Below.refl _ _ | (refine Below.setCell ?_ (by first | omega | (simp<;>omega)) _) | (refine bel_drewN ?_ _) | (refine Below.drew ?_) | (refine Below.alloc ?_ (by first | omega | (simp<;>omega)) _)))⟩
set_option maxHeartbeats 400000 in
theorem eqEdge_any (a b:EdD) (w:World):
  Calls Tryz.prog 75 #[.agg #[.int .i64 a.1, .int .i64 a.2.1, .int .i64 a.2.2], .agg #[.int .i64 b.1, .int .i64 b.2.1, .int .i64 b.2.2]] w fun e w'=>e= .returned (.bool (decide (a=b)))∧Below w.heap.size w w':=by
 obtain⟨x,y,z⟩:=a
 obtain⟨x',y',z'⟩:=b
 go_enter Tryz.func75,Tryz.ntmps75
 go_wp2
 all_goals go_ret
 all_goals (refine⟨ret_bool ?_,(by repeat(first | exact Below.refl _ _ | (refine Below.setCell ?_ (by first | omega | (simp<;>omega)) _) | (refine bel_drewN ?_ _) | (refine Below.drew ?_) | (refine Below.alloc ?_ (by first | omega | (simp<;>omega)) _)))⟩;simp_all)
set_option maxHeartbeats 1000000 in
theorem eqEdgeS_any (v u:Value) (ds ds':List EdD) (w:World) (h:ArgE w v ds) (h':ArgE w u ds'):
  Calls Tryz.prog 41 #[v,u] w fun e w'=>e= .returned (.bool (decide (ds=ds')))∧Below w.heap.size w w':=by
 have H:=hDD h
 have H':=hDD h'
 obtain⟨A,cap,rfl,hcap,hm,_⟩:=h
 obtain⟨A',cap',rfl,hcap',hm',_⟩:=h'
 unfold maxLen at hm hm'
 by_cases hne:ds.length=ds'.length
 ·have hd:((ds.length:Int) != (ds'.length:Int))=false:=by simp[hne]
  have HNE:=hDD hne
  clear hne
  go_enter Tryz.func41,Tryz.ntmps41
  go_wp2
  go_loopw [5] (fun i wr=> ∃k:Nat,k≤ds.length∧i= .int .i64 k∧ds.take k=ds'.take k∧Below w.heap.size w wr) (fun i _=>ds.length-(intOf i).toNat)
  case atStart=>exact⟨0,Nat.zero_le _,rfl,by simp,Below.refl _ _⟩
  case round=>
   obtain⟨k,hk,rfl,heq,hbel⟩:=hrel
   have HEQ:=hDD heq
   have HB:=hDD hbel
   have hsz:=hbel.size
   by_cases hlt:k<ds.length
   ·have hlt':k<ds'.length:=by have:=HNE.out;omega
    obtain⟨g,off,rfl,hg,c0,c1,c2,_⟩:=(H.out.below hbel).at hlt
    obtain⟨g',off',rfl,hg',c0',c1',c2',_⟩:=(H'.out.below hbel).at hlt'
    have HQ:Hid (ds.take (k+1)=ds'.take (k+1)↔ds[k]=ds'[k]):=hDD ⟨fun e=>by
     have:=congrArg (fun l=>l[k]?) e
     simpa[hlt,hlt'] using this,fun e=>take_eq_succ HEQ.out hlt hlt' e⟩
    have HN:Hid (ds[k]≠ds'[k]→ds≠ds'):=hDD (fun e1 e2=>by subst e2;exact e1 rfl)
    clear heq hbel
    generalize ds[k]=d at*
    generalize ds'[k]=d' at*
    go_wp2_with fail
    go_region_held3 (fun w'=>w'.cell? ⟨g,off+k*3,none⟩=some (.int .i64 d.1)∧w'.cell? ⟨g,off+k*3+1,none⟩=some (.int .i64 d.2.1)∧w'.cell? ⟨g,off+k*3+2,none⟩=some (.int .i64 d.2.2)∧w'.cell? ⟨g',off'+k*3,none⟩=some (.int .i64 d'.1)∧w'.cell? ⟨g',off'+k*3+1,none⟩=some (.int .i64 d'.2.1)∧w'.cell? ⟨g',off'+k*3+2,none⟩=some (.int .i64 d'.2.2))
     (first | go_keep | exact⟨q0,q1,q2,q3,q4,q5⟩)
     ((go_at_call 75;refine(eqEdge_any d d' _).mono ?_;rintro e w9 ⟨rfl,b9⟩;have B9:=hDD b9;have q0:=(b9.cell (p:=⟨g,off+k*3,none⟩) hg).trans c0;have q1:=(b9.cell (p:=⟨g,off+k*3+1,none⟩) hg).trans c1;have q2:=(b9.cell (p:=⟨g,off+k*3+2,none⟩) hg).trans c2;have q3:=(b9.cell (p:=⟨g',off'+k*3,none⟩) hg').trans c0';have q4:=(b9.cell (p:=⟨g',off'+k*3+1,none⟩) hg').trans c1';have q5:=(b9.cell (p:=⟨g',off'+k*3+2,none⟩) hg').trans c2';clear b9))
    rcases e2:decide (d=d') with _ | _
    ·go_wp2
     go_ret
     exact⟨ret_bool (by symm;rw[decide_eq_false_iff_not];exact HN.out (by simpa using e2)),HB.out.trans ((Below.refl _ _).drew.trans (B9.out.mono hsz))⟩
    ·go_wp2
     go_roundw
     case rel=>exact⟨k+1,by omega,by go_num,HQ.out.2 (by simpa using e2),HB.out.trans ((Below.refl _ _).drew.trans (B9.out.mono hsz))⟩
     case measure=>simp[intOf];omega
   ·obtain rfl:k=ds.length:=by omega
    go_wp2
    go_ret
    refine⟨ret_bool ?_,HB.out⟩
    have h1:=HEQ.out
    rw[List.take_length,HNE.out,List.take_length] at h1
    simp[h1]
 ·have hd:((ds.length:Int) != (ds'.length:Int))=true:=by simp;omega
  go_enter Tryz.func41,Tryz.ntmps41
  go_wp2
  go_ret
  exact⟨ret_bool (by symm;rw[decide_eq_false_iff_not];rintro rfl;exact hne rfl),Below.refl _ _⟩
set_option maxHeartbeats 1000000 in
theorem eqGraph_any (v u:Value) (d d':GrD) (w:World) (h:ArgG w v d) (h':ArgG w u d'):
  Calls Tryz.prog 12 #[v,u] w fun e w'=>e= .returned (.bool (decide (d=d')))∧Below w.heap.size w w':=by
 obtain⟨s,rfl,_,_,ha⟩:=h
 obtain⟨s',rfl,_,_,ha'⟩:=h'
 obtain⟨x,y,es⟩:=d
 obtain⟨x',y',es'⟩:=d'
 have H:=hDD ha
 have H':=hDD ha'
 obtain⟨A,cap,rfl⟩:=ha.form
 obtain⟨A',cap',rfl⟩:=ha'.form
 clear ha ha'
 rcases e1:(x != x') with _ | _
 ·rcases e2:(y != y') with _ | _
  ·have F:Hid (decide ((x,y,es)=(x',y',es'))=decide (es=es')):=hDD (by simp at e1 e2;simp[e1,e2])
   go_enter Tryz.func12,Tryz.ntmps12
   go_wp2_with fail
   have hb:Below w.heap.size w ((w.alloc (Obj.cells #[Value.int IntKind.i64 x,Value.int IntKind.i64 y, .slice A es.length cap] 31)).alloc (Obj.cells #[Value.int IntKind.i64 x',Value.int IntKind.i64 y', .slice A' es'.length cap'] 31)):=(by repeat(first | exact Below.refl _ _ | (refine Below.setCell ?_ (by first | omega | (simp<;>omega)) _) | (refine bel_drewN ?_ _) | (refine Below.drew ?_) | (refine Below.alloc ?_ (by first | omega | (simp<;>omega)) _)))
   refine(eqEdgeS_any _ _ es es' _ (H.out.below hb) (H'.out.below hb)).mono ?_
   rintro e w1 ⟨rfl,b1⟩
   have B1:=hDD (hb.trans (b1.mono hb.size))
   clear hb b1
   rcases e3:decide (es=es') with _ | _
   ·go_wp2
    go_ret
    exact⟨ret_bool (by rw[F.out,e3]),B1.out⟩
   ·go_wp2
    go_ret
    exact⟨ret_bool (by rw[F.out,e3]),B1.out⟩
  ·go_enter Tryz.func12,Tryz.ntmps12
   go_wp2
   go_ret
   exact⟨ret_bool (by simp at e2;simp[e2]),(by repeat(first | exact Below.refl _ _ | (refine Below.setCell ?_ (by first | omega | (simp<;>omega)) _) | (refine bel_drewN ?_ _) | (refine Below.drew ?_) | (refine Below.alloc ?_ (by first | omega | (simp<;>omega)) _)))⟩
 ·go_enter Tryz.func12,Tryz.ntmps12
  go_wp2
  go_ret
  exact⟨ret_bool (by simp at e1;simp[e1]),(by repeat(first | exact Below.refl _ _ | (refine Below.setCell ?_ (by first | omega | (simp<;>omega)) _) | (refine bel_drewN ?_ _) | (refine Below.drew ?_) | (refine Below.alloc ?_ (by first | omega | (simp<;>omega)) _)))⟩
section
variable {w w':World} {v:Value} {ds:List GrD} {lo hi:Nat}
end
end Go.Proofs.YtfadnkjlilhneaaGreat
namespace Go.Proofs.YtfadnkjlilhneaaGreat
set_option maxRecDepth 20000
set_option linter.unusedVariables false
set_option linter.unusedSimpArgs false
open Go.ChangeShapes Go.WideShapes Go.ChangeAt Go.RowKit
theorem laidOut:laidOutB Tryz.prog=true:=by kernel_rfl
theorem own:ownKnob Tryz.prog.godebug=none:=by kernel_rfl
theorem wf_I64 {n:Int} (h:(Lit.int .i64 n).wf=true):I64 n:=by
 unfold I64;simpa[Lit.wf,IntKind.min,IntKind.max,IntKind.signed,IntKind.bits] using h
theorem open_elems {H:Type} {enc:TypeId×Value→H} {W:World} {base:Nat} {spare:Nat→Bool} {held:Bool} {fuel:Nat} {t e:TypeId} {C:Nat} {cs:List Value} {x:DataW H×List MemPlace}
  (ht:Tryz.prog.underlying t=some (.slice e)) (hC:Tryz.prog.cellsOf e=C) (h:DataW.trod enc Tryz.prog W base spare held fuel t cs=some x):
  ∃A len cap,cs= [.slice A len cap]∧len≤cap∧cap≤maxLen∧(A=none→cap=0)∧ ∀a,A=some a→ ∀i,i<len→ ∃n c1 y,c1.length=C∧(∀j,j<C→W.cell? (a.add (i*C+j))=c1[j]?)∧DataW.trod enc Tryz.prog W base spare held n e c1=some y:=by
 rcases DataW.trod_slice ht h with ⟨rfl,_⟩ | ⟨a,len,cap,elems,rest,n,_,rfl,_,_,hl,hm,hlen,hel,_⟩
 ·exact⟨none,0,0,rfl,Nat.le_refl _,by simp[maxLen],fun _=>rfl,fun a h=>by cases h⟩
 ·refine⟨some a,len,cap,rfl,hl,hm,(fun h=>by cases h),fun a' ha i hi=> ?_⟩
  obtain rfl:a=a':=by injection ha
  have hE:=hel i hi
  rw[hC] at hE
  have: ∃y,elems[i]? =some y:=⟨elems[i],by simp⟩
  obtain⟨y,hy⟩:=this
  rw[hy] at hE
  obtain⟨c1,hc1,hy1⟩:=Option.bind_eq_some_iff.1 hE
  obtain⟨_,hlc,hcell⟩:=World.cells?_some hc1
  refine⟨n,c1,y,hlc,fun j hj=> ?_,hy1⟩
  rw[←hcell j hj,Addr.add_add]
end Go.Proofs.YtfadnkjlilhneaaGreat
namespace Go.Proofs.YtfadnkjlilhneaaGreat
set_option maxRecDepth 20000
set_option linter.unusedVariables false
set_option linter.unusedSimpArgs false
open Go.RowKit
theorem ArgE.same {w w':World} {v:Value} {es:List EdD} (h:ArgE w v es) (hs: ∀b,b<w.heap.size→w'.heap[b]? =w.heap[b]?):ArgE w' v es:=by
 obtain⟨A,cap,hv,hc,hm,hn,hr,hx⟩:=h
 refine⟨A,cap,hv,hc,hm,hn,hr,fun h0=> ?_⟩
 obtain⟨b,off,hA,hlt,hx⟩:=hx h0
 have hh:=hs b hlt
 refine⟨b,off,hA,?_,fun k hk=> ?_⟩
 ·rw[Array.getElem?_eq_getElem hlt] at hh
  exact lt_of_heap hh
 ·obtain⟨h1,h2,h3⟩:=hx k hk
  exact⟨(World.cell?_of_block (w:=w) hh).trans h1,(World.cell?_of_block (w:=w) hh).trans h2,(World.cell?_of_block (w:=w) hh).trans h3⟩
theorem ArgG.same {w w':World} {v:Value} {g:GrD} (h:ArgG w v g) (hs: ∀b,b<w.heap.size→w'.heap[b]? =w.heap[b]?):ArgG w' v g:=by
 obtain⟨s,hv,h1,h2,ha⟩:=h
 exact⟨s,hv,h1,h2,ha.same hs⟩
theorem ArgG.ob {w:World} {v:Value} {d:GrD} (h:ArgG w v d):Ob (Kept w fun w=>ArgG w v d) 0 w.heap.size w:=Kept.ob h
def OE (lo hi:Nat) (v:Value) (es:List EdD) (w:World):Prop:=OwE w lo v es∧ ∀b,v.ownBlock=some b→b<hi
theorem OE.loc {lo hi:Nat} {v:Value} {es:List EdD}:Loc (OE lo hi v es) lo hi:=by
 intro u u' hu hb
 exact⟨hu.1.keep fun b hv=>hb b (hu.1.1.lt b hv).1 (hu.2 b hv),hu.2⟩
theorem OwE.ob {w:World} {lo:Nat} {v:Value} {es:List EdD} (h:OwE w lo v es):Ob (OE lo w.heap.size v es) lo w.heap.size w:=
 ⟨⟨h,fun b hb=>(h.1.lt b hb).2⟩,OE.loc,Nat.le_refl _⟩
def OG (lo hi:Nat) (v:Value) (d:GrD) (w:World):Prop:= ∃s,v= .agg #[.int .i64 d.1, .int .i64 d.2.1,s]∧I64 d.1∧I64 d.2.1∧OE lo hi s d.2.2 w
theorem OG.arg {lo hi:Nat} {v:Value} {d:GrD} {w:World} (h:OG lo hi v d w):ArgG w v d:=by
 obtain⟨s,hv,h1,h2,ho⟩:=h
 exact⟨s,hv,h1,h2,ho.1.arg⟩
theorem OG.own {lo hi:Nat} {v:Value} {d:GrD} {w:World} (h:OG lo hi v d w):OwG w lo v d:=by
 obtain⟨s,hv,h1,h2,ho⟩:=h
 exact⟨s,hv,h1,h2,ho.1⟩
theorem OG.loc {lo hi:Nat} {v:Value} {d:GrD}:Loc (OG lo hi v d) lo hi:=by
 intro u u' hu hb
 obtain⟨s,hv,h1,h2,ho⟩:=hu
 exact⟨s,hv,h1,h2,OE.loc u u' ho hb⟩
theorem OwG.ob {w:World} {lo:Nat} {v:Value} {d:GrD} (h:OwG w lo v d):Ob (OG lo w.heap.size v d) lo w.heap.size w:=by
 obtain⟨s,hv,h1,h2,ho⟩:=h
 exact⟨⟨s,hv,h1,h2,ho.ob.holds⟩,OG.loc,Nat.le_refl _⟩
theorem toGraph_ob (v:Value) (d:GrD) (w:World) {w0:World} (h:Kept w0 (fun w=>ArgG w v d) w) (hl:d.2.2.length≤1048576):
  Calls Tryz.prog 9 #[v] w fun e w'=> ∃r,e= .returned r∧Ob (OG w.heap.size w'.heap.size r d) w.heap.size w'.heap.size w'∧Tr 0 0 w w':=
 (toGraph_any v d w (h.1.same h.2) hl).mono fun _ _ ⟨r,he,ho,hb⟩=>⟨r,he,ho.ob,Tr.below hb⟩
theorem szGraph_ob (v:Value) (g:GrD) (k:Int) (w:World) {w0:World} (h:Kept w0 (fun w=>ArgG w v g) w) (hk:0≤k) (hk':k≤1048576):
  Calls Tryz.prog 7 #[v, .int .i64 k] w fun e w'=>e= .returned (.int .i64 (if k-g.2.2.length<0 then-1 else k-g.2.2.length))∧Below w.heap.size w w':=
 szGraph_any v g k w (h.1.same h.2) hk hk'
theorem eqGraph_ob (v u:Value) (d d':GrD) (w:World) {lo hi lo' hi':Nat} (h:OG lo hi v d w) (h':OG lo' hi' u d' w):
  Calls Tryz.prog 12 #[v,u] w fun e w'=>e= .returned (.bool (decide (d=d')))∧Tr 0 0 w w':=
 (eqGraph_any v u d d' w h.arg h'.arg).mono fun _ _ ⟨he,hb⟩=>⟨he,Tr.below hb⟩
def mkE (k:Int) (n:Nat):List EdD:=(List.range n).map fun (j:Nat)=>(k+3*(j:Int),k+3*(j:Int)+1,k+3*(j:Int)+2)
theorem mkE_len (k:Int) (n:Nat):(mkE k n).length=n:=by simp[mkE]
theorem mkE_succ (k:Int) (n:Nat):mkE k (n+1)=mkE k n++ [(k+3*(n:Int),k+3*(n:Int)+1,k+3*(n:Int)+2)]:=by
 unfold mkE
 rw[List.range_succ,List.map_append]
 rfl
theorem mkE_step (k:Int) (es:List EdD) (j:Nat) (h:j<es.length):(mkE k j++es.drop j).set j (k+3*(j:Int),k+3*(j:Int)+1,k+3*(j:Int)+2)=mkE k (j+1)++es.drop (j+1):=by
 rw[mkE_succ,List.set_append_right _ _ (by rw[mkE_len];omega),mkE_len,Nat.sub_self,List.drop_eq_getElem_cons h,List.set_cons_zero,List.append_assoc]
 rfl
set_option maxHeartbeats 800000 in
theorem markEdgeS_any (v:Value) (es:List EdD) (k:Int) (base:Nat) (w:World) (h:OwE w base v es) (hl:es.length≤1073741824) (hk0:0≤k) (hk:k≤1125899906842624):
  Calls Tryz.prog 42 #[v, .int .i64 k] w fun e w'=>e= .returned (.int .i64 (k+3*(es.length:Int)))∧OwE w' base v (mkE k es.length)∧w.grownBy w' v.ownBlock:=by
 have h':=h
 obtain⟨hown,hr⟩:=h'
 rcases hown.2 with ⟨rfl,hn⟩ | ⟨g,cap,cur,rfl,hg,hh,hnc,hcm,hcs,htake⟩
 ·have:es= []:=List.eq_nil_of_length_eq_zero hn
  subst this
  go_enter Tryz.func42,Tryz.ntmps42
  go_wp2
  refine wp_loop_rounds 1 ?_
  rw[rounds_succ]
  go_wp2
  go_ret
  exact⟨ret_int (by simp),OwE.nil,World.grownBy.refl _ _⟩
 ·clear hh hcs htake cur hown hr
  have H:=hDD h
  clear h
  go_enter Tryz.func42,Tryz.ntmps42
  go_wp2
  go_loopw [1,5] (fun kk i wr=> ∃j:Nat,j≤es.length∧i= .int .i64 j∧kk= .int .i64 (k+3*(j:Int))∧
    OwE wr base (.slice (some ⟨g,0,none⟩) es.length cap) (mkE k j++es.drop j)∧w.grownBy wr (some g))
   (fun _ i _=>es.length-(intOf i).toNat)
  case atStart=>exact⟨0,Nat.zero_le _,rfl,by simp,by simpa[mkE] using H.out,World.grownBy.refl _ _⟩
  case round=>
   obtain⟨j,hj,rfl,rfl,hown1,hgr⟩:=hrel
   by_cases hlt:j<es.length
   ·have hjl:j<(mkE k j++es.drop j).length:=by rw[List.length_append,mkE_len,List.length_drop];omega
    have hf0:=hown1.free (j*3)
    have hf1:=hown1.free (j*3+1)
    have hf2:=hown1.free (j*3+2)
    obtain⟨c0,c1,c2⟩:=hown1.cellAt j hjl
    have HS:=hDD (hown1.set j hjl (x:=k+3*(j:Int)) (y:=k+3*(j:Int)+1) (z:=k+3*(j:Int)+2) ⟨by omega,by omega⟩ ⟨by omega,by omega⟩ ⟨by omega,by omega⟩)
    rw[mkE_step k es j hlt] at HS
    generalize (mkE k j++es.drop j)[j]=d0 at c0 c1 c2
    have HGR:=hDD hgr
    clear hown1 hgr hjl
    have hw1:IntKind.i64.wrap (k+3*(j:Int)+1)=k+3*(j:Int)+1:=by rw[IntKind.wrap_i64];omega
    have hw2:IntKind.i64.wrap (k+3*(j:Int)+1+1)=k+3*(j:Int)+2:=by rw[IntKind.wrap_i64];omega
    have hw3:IntKind.i64.wrap (k+3*(j:Int)+2+1)=k+3*(j:Int)+3:=by rw[IntKind.wrap_i64];omega
    go_wp2
    go_roundw
    case rel=>exact⟨j+1,by omega,by go_num,by go_num,HS.out.1,HGR.out.trans HS.out.2⟩
    case measure=>simp[intOf];omega
   ·obtain rfl:j=es.length:=by omega
    rw[List.drop_length,List.append_nil] at hown1
    have HO:=hDD hown1
    clear hown1
    go_wp2
    go_ret
    exact⟨rfl,HO.out,hgr⟩
set_option maxHeartbeats 400000 in
theorem markGraph_ob (v:Value) (d:GrD) (k:Int) (lo hi:Nat) (w:World) (h:Ob (OG lo hi v d) lo hi w)
  (hl:d.2.2.length≤1073741824) (hk0:0≤k) (hk:k≤1125899906842624):
  Calls Tryz.prog 13 #[v, .int .i64 k] w fun e w'=>e= .returned (.int .i64 (k+3*(d.2.2.length:Int)))∧Ob (OG lo hi v (d.1,d.2.1,mkE k d.2.2.length)) lo hi w'∧Tr lo hi w w':=by
 obtain⟨s,rfl,hd,hd2,ho⟩:=h.holds
 obtain⟨R,S,es⟩:=d
 have hle:=h.le
 have HO:=hDD ho
 clear h ho
 go_enter Tryz.func13,Tryz.ntmps13
 go_wp2_with fail
 have bx:Below w.heap.size w (w.alloc (Obj.cells #[Value.int IntKind.i64 R,Value.int IntKind.i64 S,s] 31)):=(by repeat(first | exact Below.refl _ _ | (refine Below.setCell ?_ (by first | omega | (simp<;>omega)) _) | (refine bel_drewN ?_ _) | (refine Below.drew ?_) | (refine Below.alloc ?_ (by first | omega | (simp<;>omega)) _)))
 have t1:Tr 0 0 w (w.alloc (Obj.cells #[Value.int IntKind.i64 R,Value.int IntKind.i64 S,s] 31)):=Tr.below bx
 have T1:=hDD t1
 refine(markEdgeS_any s es k lo _ (HO.out.1.below bx) hl hk0 hk).mono ?_
 rintro e w1 ⟨rfl,o1,g1⟩
 have O1:=hDD o1
 have T2:Hid (Tr lo hi (w.alloc (Obj.cells #[Value.int IntKind.i64 R,Value.int IntKind.i64 S,s] 31)) w1):=hDD (Tr.grown g1 fun b hb=>⟨(HO.out.1.1.lt b hb).1,HO.out.2 b hb⟩)
 clear o1 g1 t1 bx
 go_wp2
 go_ret
 refine⟨rfl,⟨⟨s,rfl,hd,hd2,⟨O1.out,HO.out.2⟩⟩,OG.loc,Nat.le_trans hle (Nat.le_trans T1.out.size T2.out.size)⟩,T1.out.then_ T2.out hle⟩
section
open Go.ChangeShapes Go.WideShapes Go.ChangeAt Go.RowKit Go.Joins
theorem graphCells:Tryz.prog.cellsOf 24=3:=by kernel_rfl
theorem edgeCells:Tryz.prog.cellsOf 76=3:=by kernel_rfl
theorem edge_of_trod {H:Type} {enc:TypeId×Value→H} {W:World} {base:Nat} {spare:Nat→Bool} {held:Bool} {fuel:Nat} {cs:List Value} {y:DataW H×List MemPlace}
  (hf:DataW.trod enc Tryz.prog W base spare held fuel 76 cs=some y): ∃e:EdD,cs=edC e∧E64 e:=by
 obtain⟨y0,y1,y2,n,_,hl,h0,h1,h2⟩:=Go.Deep.trod_struct3 Tryz.underlying76 hf
 rw[edgeCells] at hl
 match cs,hl with
 | [c0,c1,c2],_=>
   have hi:Tryz.prog.cellsOf 3=1:=by kernel_rfl
   simp[hi] at h0 h1 h2
   obtain⟨a,e0,_,w0⟩:=DataW.trod_int Tryz.underlying3 h0
   obtain⟨b,e1,_,w1⟩:=DataW.trod_int Tryz.underlying3 h1
   obtain⟨c,e2,_,w2⟩:=DataW.trod_int Tryz.underlying3 h2
   simp at e0 e1 e2
   subst e0 e1 e2
   exact⟨(a,b,c),rfl,wf_I64 w0,wf_I64 w1,wf_I64 w2⟩
theorem edges_of_trod {H:Type} {enc:TypeId×Value→H} {W:World} {base:Nat} {spare:Nat→Bool} {held:Bool} {fuel:Nat} {v:Value} {y:DataW H×List MemPlace}
  (hf:DataW.trod enc Tryz.prog W base spare held fuel 22 [v]=some y): ∃es,ArgE W v es:=by
 obtain⟨A,len,cap,hv,hl,hm,hn,hel⟩:=open_elems Tryz.underlying22 edgeCells hf
 simp at hv
 subst hv
 cases A with
 | none=>exact⟨[],none,cap,by have:=hn rfl;simp;omega,by simp,hm,hn,E64s_nil,fun h=>absurd h (by simp)⟩
 | some a=>
   have each: ∀i,∃e:EdD,i<len→E64 e∧ ∀j,j<3→W.cell? (a.add (i*3+j))=(edC e)[j]? :=by
    intro i
    by_cases hi:i<len
    ·obtain⟨n,c1,y1,_,hc,hy⟩:=hel a rfl i hi
     obtain⟨e,rfl,h64⟩:=edge_of_trod hy
     exact⟨e,fun _=>⟨h64,hc⟩⟩
    ·exact⟨(0,0,0),fun h=>absurd h hi⟩
   obtain⟨f,hf'⟩: ∃f:Nat→EdD,∀i,i<len→E64 (f i)∧ ∀j,j<3→W.cell? (a.add (i*3+j))=(edC (f i))[j]? :=⟨fun i=>(each i).choose,fun i=>(each i).choose_spec⟩
   refine⟨(List.range len).map f,some a,cap,by simp,by simpa using hl,hm,(fun h=>by cases h),fun e he=> ?_,fun h0=> ?_⟩
   ·obtain⟨i,hi,rfl⟩:=List.mem_map.1 he
    exact(hf' i (by simpa using hi)).1
   ·simp at h0
    obtain⟨b,off,sp⟩:=a
    have hc0:=(hf' 0 h0).2 0 (by omega)
    have hsp:sp=none:=by simpa[Addr.add] using World.cell?_spot hc0
    subst hsp
    refine⟨b,off,rfl,by have:=World.block_lt_of_cell? W _ hc0;simpa[Addr.add] using this,fun k hk=> ?_⟩
    simp at hk
    have hk':=(hf' k hk).2
    have d0:=hk' 0 (by omega);have d1:=hk' 1 (by omega);have d2:=hk' 2 (by omega)
    rw[Addr.add_lit] at d0 d1 d2
    simp only[edC,List.getElem?_cons_zero,List.getElem?_cons_succ] at d0 d1 d2
    simp only[List.getElem_map,List.getElem_range]
    exact⟨by simpa using d0,by rw[←Nat.add_assoc] at d1;exact d1,by rw[←Nat.add_assoc] at d2;exact d2⟩
theorem open_argG {H:Type} {enc:TypeId×Value→H} {W:World} {base:Nat} {spare:Nat→Bool} {held:Bool} {v:Value} {d:DataW H} {p:List MemPlace}
  (hv:Value.okWide Tryz.prog W .any base 24 v) (h:DataW.Trod enc Tryz.prog W 0 spare held 24 v d p): ∃x,ArgG W v x:=by
 obtain⟨c0,c1,c2,y0,y1,y2,m,rfl,rfl,rfl,hy0,hy1,hy2⟩:=open_agg3 Tryz.underlying24 (by kernel_rfl) graphCells hv h
 obtain⟨a,e0,_,w0⟩:=DataW.trod_int Tryz.underlying3 hy0
 obtain⟨b,e1,_,w1⟩:=DataW.trod_int Tryz.underlying3 hy1
 simp at e0 e1
 subst e0 e1
 obtain⟨es,hE⟩:=edges_of_trod hy2
 exact⟨(a,b,es),c2,rfl,wf_I64 w0,wf_I64 w1,hE⟩
end
end Go.Proofs.YtfadnkjlilhneaaGreat
namespace Go.Proofs.YtfadnkjlilhneaaGreat
set_option maxRecDepth 20000
set_option linter.unusedVariables false
set_option linter.unusedSimpArgs false
open Go.RowKit
def inB (x a b:Int):Bool:=decide (a≤x)&&decide (x≤b)
theorem inB_iff {x a b:Int}:inB x a b=true↔a≤x∧x≤b:=by simp[inB]
theorem I64.neg {x:Int} (h:I64 x) (h0:x≠ -9223372036854775808):wrap64 (-x)= -x:=by
 unfold I64 at h
 exact IntWalk.wrap64_in _ ⟨by omega,by omega⟩
set_option maxHeartbeats 400000 in
theorem l1In_any (x a b:Int) (w:World):
  Calls Tryz.prog 57 #[.int .i64 x, .int .i64 a, .int .i64 b] w fun e w'=>e= .returned (.bool (inB x a b))∧w=w':=by
 go_enter Tryz.func57,Tryz.ntmps57
 go_wp2
 all_goals go_ret
 all_goals (refine⟨?_,rfl⟩;unfold inB;simp_all)
 omega
set_option maxHeartbeats 400000 in
theorem within_any (x a b:Int) (w:World):
  Calls Tryz.prog 106 #[.int .i64 x, .int .i64 a, .int .i64 b] w fun e w'=>e= .returned (.bool (inB x a b))∧w=w':=by
 go_enter Tryz.func106,Tryz.ntmps106
 go_wp2
 all_goals go_ret
 all_goals (refine⟨?_,rfl⟩;unfold inB;simp_all)
 omega
def invB (a b:Int):Bool:=(a != 0)&&(a != -9223372036854775808)&&(b== -a)
set_option maxHeartbeats 400000 in
theorem areInverse_any (a b:Int) (w:World) (ha:I64 a):
  Calls Tryz.prog 72 #[.int .i64 a, .int .i64 b] w fun e w'=>e= .returned (.bool (invB a b))∧w=w':=by
 by_cases h1:a= -9223372036854775808
 ·subst h1
  go_enter Tryz.func72,Tryz.ntmps72
  go_wp2
  all_goals go_ret
  all_goals (refine⟨?_,rfl⟩;unfold invB;simp_all)
 ·have hn:=I64.neg ha h1
  have HN:=hDD hn
  have ha1: -9223372036854775808<a:=by unfold I64 at ha;omega
  have ha2:a≤9223372036854775807:=ha.2
  clear hn ha
  go_enter Tryz.func72,Tryz.ntmps72
  go_wp2
  all_goals go_ret
  all_goals (refine⟨?_,rfl⟩;unfold invB;simp_all)
end Go.Proofs.YtfadnkjlilhneaaGreat
namespace Go.Proofs.YtfadnkjlilhneaaGreat
set_option maxRecDepth 20000
set_option linter.unusedVariables false
set_option linter.unusedSimpArgs false
open Go.RowKit
def cmpI (a b:Int):Int:=if a<b then-1 else if b<a then 1 else 0
def rk (x:Int):Int:=if x<0 then wrap64 (wrap64 (-2*x)-1) else wrap64 (wrap64 (2*x)-2)
set_option maxHeartbeats 400000 in
theorem compareInts_any (a b:Int) (w:World):
  Calls Tryz.prog 135 #[.int .i64 a, .int .i64 b] w fun e w'=>e= .returned (.int .i64 (cmpI a b))∧w=w':=by
 rcases Int.lt_trichotomy a b with h | h | h
 ·go_enter Tryz.func135,Tryz.ntmps135
  go_wp2
  go_ret
  exact⟨ret_int (by unfold cmpI;rw[if_pos h]),rfl⟩
 ·subst h
  go_enter Tryz.func135,Tryz.ntmps135
  go_wp2
  go_ret
  exact⟨ret_int (by unfold cmpI;simp),rfl⟩
 ·have h': ¬a<b:=by omega
  go_enter Tryz.func135,Tryz.ntmps135
  go_wp2
  go_ret
  exact⟨ret_int (by unfold cmpI;rw[if_neg (by omega),if_pos h]),rfl⟩
end Go.Proofs.YtfadnkjlilhneaaGreat
namespace Go.Proofs.YtfadnkjlilhneaaGreat
set_option maxRecDepth 20000
set_option linter.unusedVariables false
set_option linter.unusedSimpArgs false
open Go.RowKit
def edV (e:EdD):Value:= .agg #[.int .i64 e.1, .int .i64 e.2.1, .int .i64 e.2.2]
theorem edge_eqIn (a b:EdD) (w:World):(Op.equalIn 10000 54 (edV a) (edV b)).run Tryz.prog w= .ok (decide (a=b)) w:=by
 have u3:=Tryz.underlying3
 have a3:=Tryz.isAgg3
 have z3:=Tryz.sizeOf3
 have hS:Tryz.prog.underlying 54=some (.struct (Tryz.prog.fieldsOf 54)):=by kernel_rfl
 have hp:Tryz.prog.stoodInHeld 54=false:=by kernel_rfl
 obtain⟨x,y,z⟩:=a
 obtain⟨x',y',z'⟩:=b
 simp only[edV]
 rw[show(10000:Nat)=9999+1 from rfl,run_equalIn_agg w 9999 54 _ _ hS hp]
 simp only[Program.fieldsOf,Tryz.underlying54]
 go_simp
 by_cases h1:x=x'<;>by_cases h2:y=y'<;>by_cases h3:z=z'<;>simp[h1,h2,h3]
theorem edge_neq (a b:EdD) (w:World):(binOp .neq 54 (edV a) (edV b)).run Tryz.prog w= .ok (.bool (!decide (a=b))) w:=by
 have:=edge_eqIn a b w
 unfold edV at this⊢
 rw[run_neq_struct,this]
 rfl
theorem edge_eql (a b:EdD) (w:World):(binOp .eql 54 (edV a) (edV b)).run Tryz.prog w= .ok (.bool (decide (a=b))) w:=by
 have:=edge_eqIn a b w
 unfold edV at this⊢
 rw[run_eql_struct,this]
 rfl
theorem edge_guard:Tryz.prog.eqGuardType Tryz.prog.depth 54=false:=by kernel_rfl
set_option maxHeartbeats 1000000 in
theorem specEqualGraphs_any (v u:Value) (d d':GrD) (w:World) (h:ArgG w v d) (h':ArgG w u d'):
  Calls Tryz.prog 92 #[v,u] w fun e w'=>e= .returned (.bool (decide (d=d')))∧Below w.heap.size w w':=by
 obtain⟨s,rfl,_,_,ha⟩:=h
 obtain⟨s',rfl,_,_,ha'⟩:=h'
 obtain⟨x,y,es⟩:=d
 obtain⟨x',y',es'⟩:=d'
 have H:=hDD ha
 have H':=hDD ha'
 obtain⟨A,cap,rfl,hcap,hm,_⟩:=ha
 obtain⟨A',cap',rfl,hcap',hm',_⟩:=ha'
 unfold maxLen at hm hm'
 rcases e1:(x != x') with _ | _
 ·rcases e2:(y != y') with _ | _
  ·by_cases hne:es.length=es'.length
   ·have F:Hid (decide ((x,y,es)=(x',y',es'))=decide (es=es')):=hDD (by simp at e1 e2;simp[e1,e2])
    have hd:((es.length:Int) != (es'.length:Int))=false:=by simp[hne]
    have HNE:=hDD hne
    clear hne
    go_enter Tryz.func92,Tryz.ntmps92
    go_wp2
    have hb:Below w.heap.size w ((w.alloc (Obj.cells #[Value.int IntKind.i64 x,Value.int IntKind.i64 y, .slice A es.length cap] 31)).alloc (Obj.cells #[Value.int IntKind.i64 x',Value.int IntKind.i64 y', .slice A' es'.length cap'] 31)):=(by repeat(first | exact Below.refl _ _ | (refine Below.setCell ?_ (by first | omega | (simp<;>omega)) _) | (refine bel_drewN ?_ _) | (refine Below.drew ?_) | (refine Below.alloc ?_ (by first | omega | (simp<;>omega)) _)))
    have q0:((w.alloc (Obj.cells #[Value.int IntKind.i64 x,Value.int IntKind.i64 y, .slice A es.length cap] 31)).alloc (Obj.cells #[Value.int IntKind.i64 x',Value.int IntKind.i64 y', .slice A' es'.length cap'] 31)).cell? ⟨w.heap.size,2,none⟩=some (.slice A es.length cap):=by simp[go_sem]
    have q1:((w.alloc (Obj.cells #[Value.int IntKind.i64 x,Value.int IntKind.i64 y, .slice A es.length cap] 31)).alloc (Obj.cells #[Value.int IntKind.i64 x',Value.int IntKind.i64 y', .slice A' es'.length cap'] 31)).cell? ⟨w.heap.size+1,2,none⟩=some (.slice A' es'.length cap'):=by simp[go_sem]
    generalize (w.alloc (Obj.cells #[Value.int IntKind.i64 x,Value.int IntKind.i64 y, .slice A es.length cap] 31)).alloc (Obj.cells #[Value.int IntKind.i64 x',Value.int IntKind.i64 y', .slice A' es'.length cap'] 31)=w2 at hb q0 q1⊢
    have HB:=hDD hb
    clear hb
    go_loopw [5] (fun i wr=> ∃k:Nat,k≤es.length∧i= .int .i64 k∧es.take k=es'.take k∧ ∃n,wr=w2.drewN n) (fun i _=>es.length-(intOf i).toNat)
    case atStart=>exact⟨0,Nat.zero_le _,rfl,by simp,0,rfl⟩
    case round=>
     obtain⟨k,hk,rfl,heq,n,rfl⟩:=hrel
     have HEQ:=hDD heq
     clear heq
     by_cases hlt:k<es.length
     ·have hlt':k<es'.length:=by have:=HNE.out;omega
      obtain⟨g,off,rfl,hg,c0,c1,c2,_⟩:=(H.out.below HB.out).at hlt
      obtain⟨g',off',rfl,hg',c0',c1',c2',_⟩:=(H'.out.below HB.out).at hlt'
      have HQ:Hid (es.take (k+1)=es'.take (k+1)↔es[k]=es'[k]):=hDD ⟨fun e=>by
       have:=congrArg (fun l=>l[k]?) e
       simpa[hlt,hlt'] using this,fun e=>take_eq_succ HEQ.out hlt hlt' e⟩
      have HN:Hid (es[k]≠es'[k]→es≠es'):=hDD (fun e1 e2=>by subst e2;exact e1 rfl)
      generalize es[k]=d at*
      generalize es'[k]=d' at*
      have hneq:=fun w=>edge_neq d d' w
      have hgd:=edge_guard
      unfold edV at hneq
      rcases e3:decide (d=d') with _ | _
      ·rw[e3] at hneq
       go_wp2
       go_quiet (fail)
       go_wp2
       go_ret
       exact⟨ret_bool (by rw[F.out];symm;rw[decide_eq_false_iff_not];exact HN.out (by simpa using e3)),bel_drewN (bel_drewN HB.out _) _⟩
      ·rw[e3] at hneq
       go_wp2
       go_quiet (fail)
       go_wp2
       go_roundw
       case rel=>exact⟨k+1,by omega,by go_num,HQ.out.2 (by simpa using e3),_,rfl⟩
       case measure=>simp[intOf];omega
     ·obtain rfl:k=es.length:=by omega
      go_wp2
      go_ret
      refine⟨ret_bool ?_,bel_drewN HB.out _⟩
      have h1:=HEQ.out
      rw[List.take_length,HNE.out,List.take_length] at h1
      rw[F.out]
      simp[h1]
   ·have hd:((es.length:Int) != (es'.length:Int))=true:=by simp;omega
    go_enter Tryz.func92,Tryz.ntmps92
    go_wp2
    go_ret
    have F:es≠es':=fun e=>hne (by rw[e])
    exact⟨ret_bool (by simp[F]),(by repeat(first | exact Below.refl _ _ | (refine Below.setCell ?_ (by first | omega | (simp<;>omega)) _) | (refine bel_drewN ?_ _) | (refine Below.drew ?_) | (refine Below.alloc ?_ (by first | omega | (simp<;>omega)) _)))⟩
  ·go_enter Tryz.func92,Tryz.ntmps92
   go_wp2
   go_ret
   exact⟨ret_bool (by simp at e2;simp[e2]),(by repeat(first | exact Below.refl _ _ | (refine Below.setCell ?_ (by first | omega | (simp<;>omega)) _) | (refine bel_drewN ?_ _) | (refine Below.drew ?_) | (refine Below.alloc ?_ (by first | omega | (simp<;>omega)) _)))⟩
 ·go_enter Tryz.func92,Tryz.ntmps92
  go_wp2
  go_ret
  exact⟨ret_bool (by simp at e1;simp[e1]),(by repeat(first | exact Below.refl _ _ | (refine Below.setCell ?_ (by first | omega | (simp<;>omega)) _) | (refine bel_drewN ?_ _) | (refine Below.drew ?_) | (refine Below.alloc ?_ (by first | omega | (simp<;>omega)) _)))⟩
set_option maxHeartbeats 1000000 in
theorem slicesEqualE_any (v u:Value) (es es':List EdD) (w:World) (h:ArgE w v es) (h':ArgE w u es'):
  Calls Tryz.prog 103 #[v,u] w fun e w'=>e= .returned (.bool (decide (es=es')))∧ ∃n,w'=w.drewN n:=by
 have H:=hDD h
 have H':=hDD h'
 obtain⟨A,cap,rfl,hcap,hm,_⟩:=h
 obtain⟨A',cap',rfl,hcap',hm',_⟩:=h'
 unfold maxLen at hm hm'
 by_cases hne:es.length=es'.length
 ·have hd:((es.length:Int) != (es'.length:Int))=false:=by simp[hne]
  have HNE:=hDD hne
  clear hne
  go_enter Tryz.func103,Tryz.ntmps103
  go_wp2
  go_loopw [13] (fun i wr=> ∃k:Nat,k≤es.length∧i= .int .i64 k∧es.take k=es'.take k∧ ∃n,wr=w.drewN n) (fun i _=>es.length-(intOf i).toNat)
  case atStart=>exact⟨0,Nat.zero_le _,rfl,by simp,0,rfl⟩
  case round=>
   obtain⟨k,hk,rfl,heq,n,rfl⟩:=hrel
   have HEQ:=hDD heq
   clear heq
   by_cases hlt:k<es.length
   ·have hlt':k<es'.length:=by have:=HNE.out;omega
    obtain⟨g,off,rfl,hg,c0,c1,c2,_⟩:=H.out.at hlt
    obtain⟨g',off',rfl,hg',c0',c1',c2',_⟩:=H'.out.at hlt'
    have HQ:Hid (es.take (k+1)=es'.take (k+1)↔es[k]=es'[k]):=hDD ⟨fun e=>by
     have:=congrArg (fun l=>l[k]?) e
     simpa[hlt,hlt'] using this,fun e=>take_eq_succ HEQ.out hlt hlt' e⟩
    have HN:Hid (es[k]≠es'[k]→es≠es'):=hDD (fun e1 e2=>by subst e2;exact e1 rfl)
    generalize es[k]=d at*
    generalize es'[k]=d' at*
    have hneq:=fun w=>edge_neq d d' w
    have hgd:=edge_guard
    unfold edV at hneq
    rcases e3:decide (d=d') with _ | _
    ·rw[e3] at hneq
     go_wp2
     go_quiet (fail)
     go_wp2
     go_ret
     exact⟨ret_bool (by symm;rw[decide_eq_false_iff_not];exact HN.out (by simpa using e3)),_,World.drewN_drewN _ _ _⟩
    ·rw[e3] at hneq
     go_wp2
     go_quiet (fail)
     go_wp2
     go_roundw
     case rel=>exact⟨k+1,by omega,by go_num,HQ.out.2 (by simpa using e3),_,rfl⟩
     case measure=>simp[intOf];omega
   ·obtain rfl:k=es.length:=by omega
    go_wp2
    go_ret
    refine⟨ret_bool ?_,n,rfl⟩
    have h1:=HEQ.out
    rw[List.take_length,HNE.out,List.take_length] at h1
    simp[h1]
 ·have hd:((es.length:Int) != (es'.length:Int))=true:=by simp;omega
  go_enter Tryz.func103,Tryz.ntmps103
  go_wp2
  go_ret
  exact⟨ret_bool (by symm;rw[decide_eq_false_iff_not];rintro rfl;exact hne rfl),0,rfl⟩
set_option maxHeartbeats 1000000 in
theorem implEqualGraphs_any (v u:Value) (d d':GrD) (w:World) (h:ArgG w v d) (h':ArgG w u d'):
  Calls Tryz.prog 64 #[v,u] w fun e w'=>e= .returned (.bool (decide (d=d')))∧Below w.heap.size w w':=by
 obtain⟨s,rfl,_,_,ha⟩:=h
 obtain⟨s',rfl,_,_,ha'⟩:=h'
 obtain⟨x,y,es⟩:=d
 obtain⟨x',y',es'⟩:=d'
 have H:=hDD ha
 have H':=hDD ha'
 clear ha ha'
 rcases e1:(x==x') with _ | _
 ·go_enter Tryz.func64,Tryz.ntmps64
  go_wp2
  go_ret
  exact⟨ret_bool (by simp at e1;simp[e1]),(by repeat(first | exact Below.refl _ _ | (refine Below.setCell ?_ (by first | omega | (simp<;>omega)) _) | (refine bel_drewN ?_ _) | (refine Below.drew ?_) | (refine Below.alloc ?_ (by first | omega | (simp<;>omega)) _)))⟩
 ·rcases e2:(y==y') with _ | _
  ·go_enter Tryz.func64,Tryz.ntmps64
   go_wp2
   go_ret
   exact⟨ret_bool (by simp at e2;simp[e2]),(by repeat(first | exact Below.refl _ _ | (refine Below.setCell ?_ (by first | omega | (simp<;>omega)) _) | (refine bel_drewN ?_ _) | (refine Below.drew ?_) | (refine Below.alloc ?_ (by first | omega | (simp<;>omega)) _)))⟩
  ·have F:Hid (decide ((x,y,es)=(x',y',es'))=decide (es=es')):=hDD (by simp at e1 e2;simp[e1,e2])
   go_enter Tryz.func64,Tryz.ntmps64
   go_wp2_with fail
   have hb:Below w.heap.size w ((w.alloc (Obj.cells #[Value.int IntKind.i64 x,Value.int IntKind.i64 y,s] 31)).alloc (Obj.cells #[Value.int IntKind.i64 x',Value.int IntKind.i64 y',s'] 31)):=(by repeat(first | exact Below.refl _ _ | (refine Below.setCell ?_ (by first | omega | (simp<;>omega)) _) | (refine bel_drewN ?_ _) | (refine Below.drew ?_) | (refine Below.alloc ?_ (by first | omega | (simp<;>omega)) _)))
   refine(slicesEqualE_any _ _ es es' _ (H.out.below hb) (H'.out.below hb)).mono ?_
   rintro e w1 ⟨rfl,n,rfl⟩
   have HB:=hDD hb
   clear hb
   go_wp2
   go_ret
   exact⟨ret_bool F.out.symm,bel_drewN HB.out _⟩
def cmpE (a b:EdD):Int:=if cmpI a.1 b.1≠0 then cmpI a.1 b.1 else if cmpI a.2.1 b.2.1≠0 then cmpI a.2.1 b.2.1 else cmpI a.2.2 b.2.2
theorem cmpI_zero {a b:Int}:cmpI a b=0↔a=b:=by
 unfold cmpI;split
 ·constructor
  ·intro h;cases h
  ·omega
 ·split
  ·constructor
   ·intro h;cases h
   ·omega
  ·constructor
   ·omega
   ·intro _;rfl
def nth3 (x y z:Int):Nat→Int
 | 0=>x
 | 1=>y
 | _=>z
theorem cmpE_first (x y z x' y' z':Int) (k:Nat) (hk:k<3) (h: ∀j,j<k→nth3 x y z j=nth3 x' y' z' j):(nth3 x y z k<nth3 x' y' z' k→cmpE (x,y,z) (x',y',z')= -1)∧(nth3 x' y' z' k<nth3 x y z k→cmpE (x,y,z) (x',y',z')=1):=by
 match k,hk with
 | 0,_=>
   simp only[nth3]
   refine⟨fun h=> ?_,fun h=> ?_⟩
   ·have:cmpI x x'= -1:=by unfold cmpI;rw[if_pos h]
    simp[cmpE,this]
   ·have:cmpI x x'=1:=by unfold cmpI;rw[if_neg (by omega),if_pos h]
    simp[cmpE,this]
 | 1,_=>
   have h0:x=x':=h 0 (by omega)
   simp only[nth3]
   refine⟨fun h=> ?_,fun h=> ?_⟩
   ·have:cmpI y y'= -1:=by unfold cmpI;rw[if_pos h]
    simp[cmpE,this,cmpI_zero.2 h0]
   ·have:cmpI y y'=1:=by unfold cmpI;rw[if_neg (by omega),if_pos h]
    simp[cmpE,this,cmpI_zero.2 h0]
 | 2,_=>
   have h0:x=x':=h 0 (by omega)
   have h1:y=y':=h 1 (by omega)
   simp only[nth3]
   refine⟨fun h=> ?_,fun h=> ?_⟩
   ·have:cmpI z z'= -1:=by unfold cmpI;rw[if_pos h]
    simp[cmpE,this,cmpI_zero.2 h0,cmpI_zero.2 h1]
   ·have:cmpI z z'=1:=by unfold cmpI;rw[if_neg (by omega),if_pos h]
    simp[cmpE,this,cmpI_zero.2 h0,cmpI_zero.2 h1]
theorem cmpE_same (x y z x' y' z':Int) (h: ∀j,j<3→nth3 x y z j=nth3 x' y' z' j):cmpE (x,y,z) (x',y',z')=0:=by
 have h0:x=x':=h 0 (by omega)
 have h1:y=y':=h 1 (by omega)
 have h2:z=z':=h 2 (by omega)
 simp[cmpE,cmpI_zero.2 h0,cmpI_zero.2 h1,cmpI_zero.2 h2]
def edgeOk (r n:Int) (e:EdD):Bool:=inB e.1 0 (wrap64 (n-1))&&inB e.2.2 0 (wrap64 (n-1))&&inB e.2.1 1 r
def okE (g:GrD) (k:Nat):Bool:=match g.2.2[k]? with
 | none=>true
 | some e=>edgeOk g.1 g.2.1 e&&(match k with
   | 0=>true
   | j+1=>match g.2.2[j]? with
     | none=>true
     | some d=>decide (cmpE d e<0))
def grB (g:GrD):Bool:=inB g.1 1 3&&inB g.2.1 1 40&&decide (g.2.2.length≤120)&&(List.range g.2.2.length).all (okE g)
theorem grB_false {g:GrD} (k:Nat) (hk:k<g.2.2.length) (h:okE g k=false):grB g=false:=by
 unfold grB
 have:(List.range g.2.2.length).all (okE g)=false:=by
  rw[List.all_eq_false]
  exact⟨k,List.mem_range.2 hk,by simp[h]⟩
 rw[this,Bool.and_false]
theorem grB_eq {g:GrD} (h: ∀k,k<g.2.2.length→okE g k=true):grB g=(inB g.1 1 3&&inB g.2.1 1 40&&decide (g.2.2.length≤120)):=by
 unfold grB
 have:(List.range g.2.2.length).all (okE g)=true:=by
  rw[List.all_eq_true]
  intro k hk
  exact h k (List.mem_range.1 hk)
 rw[this,Bool.and_true]
theorem okE_zero {g:GrD} (h:0<g.2.2.length):okE g 0=edgeOk g.1 g.2.1 g.2.2[0]:=by
 unfold okE
 rw[List.getElem?_eq_getElem h]
 simp
theorem okE_pos {g:GrD} {k:Nat} (h0:0<k) (h:k<g.2.2.length):okE g k=(edgeOk g.1 g.2.1 g.2.2[k]&& !decide (0≤cmpE g.2.2[k-1] g.2.2[k])):=by
 obtain⟨j,rfl⟩: ∃j,k=j+1:=⟨k-1,by omega⟩
 unfold okE
 rw[List.getElem?_eq_getElem h]
 show(edgeOk g.1 g.2.1 _&&(match g.2.2[j]? with | none=>true | some d=>decide (cmpE d g.2.2[j+1]<0)))=_
 rw[List.getElem?_eq_getElem (show j<g.2.2.length by omega)]
 simp only[Nat.add_sub_cancel]
 congr 1
 rw[Bool.eq_iff_iff]
 simp
theorem grB_parts {g:GrD} (h:grB g=true):(1≤g.1∧g.1≤3)∧(1≤g.2.1∧g.2.1≤40)∧g.2.2.length≤120∧ ∀k,k<g.2.2.length→okE g k=true:=by
 unfold grB at h
 simp only[Bool.and_eq_true,decide_eq_true_eq,List.all_eq_true,List.mem_range] at h
 obtain⟨⟨⟨h1,h2⟩,h3⟩,h4⟩:=h
 exact⟨inB_iff.1 h1,inB_iff.1 h2,h3,h4⟩
set_option maxHeartbeats 1000000 in
theorem specCompareEdges_any (a b:EdD) (w:World):
  Calls Tryz.prog 97 #[edV a,edV b] w fun e w'=>e= .returned (.int .i64 (cmpE a b))∧Below w.heap.size w w':=by
 obtain⟨x,y,z⟩:=a
 obtain⟨x',y',z'⟩:=b
 obtain⟨R,hR⟩: ∃R,R=cmpE (x,y,z) (x',y',z'):=⟨_,rfl⟩
 rw[←hR]
 have HR:=hDD hR
 clear hR
 unfold edV
 go_enter Tryz.func97,Tryz.ntmps97
 go_wp2
 have hb:Below w.heap.size w ((((w.alloc (Obj.cells #[Value.int IntKind.i64 x,Value.int IntKind.i64 y,Value.int IntKind.i64 z] 54)).alloc (Obj.cells #[Value.int IntKind.i64 x',Value.int IntKind.i64 y',Value.int IntKind.i64 z'] 54)).alloc (Obj.cells #[Value.int IntKind.i64 x,Value.int IntKind.i64 y,Value.int IntKind.i64 z] 3)).alloc (Obj.cells #[Value.int IntKind.i64 x',Value.int IntKind.i64 y',Value.int IntKind.i64 z'] 3)):=(by repeat(first | exact Below.refl _ _ | (refine Below.setCell ?_ (by first | omega | (simp<;>omega)) _) | (refine bel_drewN ?_ _) | (refine Below.drew ?_) | (refine Below.alloc ?_ (by first | omega | (simp<;>omega)) _)))
 have hc: ∀j,j<3→((((w.alloc (Obj.cells #[Value.int IntKind.i64 x,Value.int IntKind.i64 y,Value.int IntKind.i64 z] 54)).alloc (Obj.cells #[Value.int IntKind.i64 x',Value.int IntKind.i64 y',Value.int IntKind.i64 z'] 54)).alloc (Obj.cells #[Value.int IntKind.i64 x,Value.int IntKind.i64 y,Value.int IntKind.i64 z] 3)).alloc (Obj.cells #[Value.int IntKind.i64 x',Value.int IntKind.i64 y',Value.int IntKind.i64 z'] 3)).cell? ⟨w.heap.size+1+1,j,none⟩=some (.int .i64 (nth3 x y z j))∧
   ((((w.alloc (Obj.cells #[Value.int IntKind.i64 x,Value.int IntKind.i64 y,Value.int IntKind.i64 z] 54)).alloc (Obj.cells #[Value.int IntKind.i64 x',Value.int IntKind.i64 y',Value.int IntKind.i64 z'] 54)).alloc (Obj.cells #[Value.int IntKind.i64 x,Value.int IntKind.i64 y,Value.int IntKind.i64 z] 3)).alloc (Obj.cells #[Value.int IntKind.i64 x',Value.int IntKind.i64 y',Value.int IntKind.i64 z'] 3)).cell? ⟨w.heap.size+1+1+1,j,none⟩=some (.int .i64 (nth3 x' y' z' j)):=by
  intro j hj
  match j,hj with
  | 0,_=>simp[go_sem,nth3]
  | 1,_=>simp[go_sem,nth3]
  | 2,_=>simp[go_sem,nth3]
 generalize ((((w.alloc (Obj.cells #[Value.int IntKind.i64 x,Value.int IntKind.i64 y,Value.int IntKind.i64 z] 54)).alloc (Obj.cells #[Value.int IntKind.i64 x',Value.int IntKind.i64 y',Value.int IntKind.i64 z'] 54)).alloc (Obj.cells #[Value.int IntKind.i64 x,Value.int IntKind.i64 y,Value.int IntKind.i64 z] 3)).alloc (Obj.cells #[Value.int IntKind.i64 x',Value.int IntKind.i64 y',Value.int IntKind.i64 z'] 3))=w4 at hb hc⊢
 have HC:=hDD hc
 have HB:=hDD hb
 clear hc hb
 go_loopw [7] (fun i wr=> ∃k:Nat,k≤3∧i= .int .i64 k∧(∀j,j<k→nth3 x y z j=nth3 x' y' z' j)∧ ∃n,wr=w4.drewN n) (fun i _=>3-(intOf i).toNat)
 case atStart=>exact⟨0,Nat.zero_le _,rfl,fun j hj=>absurd hj (by omega),0,rfl⟩
 case round=>
  obtain⟨k,hk,rfl,heq,n,rfl⟩:=hrel
  have HEQ:=hDD heq
  clear heq
  by_cases hlt:k<3
  ·obtain⟨c0,c1⟩:=HC.out k hlt
   have HL:=hDD (cmpE_first x y z x' y' z' k hlt HEQ.out)
   have HN:Hid (nth3 x y z k=nth3 x' y' z' k→ ∀j,j<k+1→nth3 x y z j=nth3 x' y' z' j):=hDD fun F j hj=>by
    rcases Nat.lt_or_eq_of_le (Nat.le_of_lt_succ hj) with hj | rfl
    ·exact HEQ.out j hj
    ·exact F
   generalize nth3 x y z k=p at*
   generalize nth3 x' y' z' k=q at*
   by_cases h1:p<q
   ·go_wp2
    go_quiet (fail)
    go_wp2
    go_ret
    exact⟨ret_int (by rw[HR.out,HL.out.1 h1]),bel_drewN (bel_drewN HB.out _) _⟩
   ·by_cases h2:q<p
    ·go_wp2
     go_quiet (fail)
     go_wp2
     go_quiet (fail)
     go_wp2
     go_ret
     exact⟨ret_int (by rw[HR.out,HL.out.2 h2]),bel_drewN (bel_drewN (bel_drewN HB.out _) _) _⟩
    ·go_wp2
     go_quiet (fail)
     go_wp2
     go_quiet (fail)
     go_wp2
     go_roundw
     case rel=>exact⟨k+1,by omega,by go_num,HN.out (by omega),_,rfl⟩
     case measure=>simp[intOf];omega
  ·obtain rfl:k=3:=by omega
   have F:Hid (R=0):=hDD (by rw[HR.out];exact cmpE_same x y z x' y' z' HEQ.out)
   go_wp2
   go_ret
   exact⟨ret_int F.out.symm,bel_drewN HB.out _⟩
set_option maxHeartbeats 1000000 in
theorem implCompareEdges_any (a b:EdD) (w:World):
  Calls Tryz.prog 108 #[edV a,edV b] w fun e w'=>e= .returned (.int .i64 (cmpE a b))∧Below w.heap.size w w':=by
 obtain⟨x,y,z⟩:=a
 obtain⟨x',y',z'⟩:=b
 unfold edV
 rcases e1:(cmpI x x' != 0) with _ | _
 ·rcases e2:(cmpI y y' != 0) with _ | _
  ·have F:Hid (cmpE (x,y,z) (x',y',z')=cmpI z z'):=hDD (by simp at e1 e2;simp[cmpE,e1,e2])
   go_enter Tryz.func108,Tryz.ntmps108
   go_wp2_with (go_at_call 135;refine(compareInts_any _ _ _).mono ?_;rintro e w' ⟨rfl,rfl⟩)
   go_ret
   exact⟨ret_int F.out.symm,(by repeat(first | exact Below.refl _ _ | (refine Below.setCell ?_ (by first | omega | (simp<;>omega)) _) | (refine bel_drewN ?_ _) | (refine Below.drew ?_) | (refine Below.alloc ?_ (by first | omega | (simp<;>omega)) _)))⟩
  ·have F:Hid (cmpE (x,y,z) (x',y',z')=cmpI y y'):=hDD (by simp at e1 e2;simp[cmpE,e1,e2])
   go_enter Tryz.func108,Tryz.ntmps108
   go_wp2_with (go_at_call 135;refine(compareInts_any _ _ _).mono ?_;rintro e w' ⟨rfl,rfl⟩)
   go_ret
   exact⟨ret_int F.out.symm,(by repeat(first | exact Below.refl _ _ | (refine Below.setCell ?_ (by first | omega | (simp<;>omega)) _) | (refine bel_drewN ?_ _) | (refine Below.drew ?_) | (refine Below.alloc ?_ (by first | omega | (simp<;>omega)) _)))⟩
 ·have F:Hid (cmpE (x,y,z) (x',y',z')=cmpI x x'):=hDD (by simp at e1;simp[cmpE,e1])
  go_enter Tryz.func108,Tryz.ntmps108
  go_wp2_with (go_at_call 135;refine(compareInts_any _ _ _).mono ?_;rintro e w' ⟨rfl,rfl⟩)
  go_ret
  exact⟨ret_int F.out.symm,(by repeat(first | exact Below.refl _ _ | (refine Below.setCell ?_ (by first | omega | (simp<;>omega)) _) | (refine bel_drewN ?_ _) | (refine Below.drew ?_) | (refine Below.alloc ?_ (by first | omega | (simp<;>omega)) _)))⟩
set_option maxHeartbeats 1000000 in
theorem l4Edge_any (r n:Int) (A:Option Addr) (m cap:Nat) (e:EdD) (w:World):
  Calls Tryz.prog 128 #[.agg #[.int .i64 r, .int .i64 n, .slice A m cap],edV e] w fun e' w'=>e'= .returned (.bool (edgeOk r n e))∧Below w.heap.size w w':=by
 obtain⟨x,y,z⟩:=e
 unfold edV
 rcases e1:inB x 0 (wrap64 (n-1)) with _ | _
 ·go_enter Tryz.func128,Tryz.ntmps128
  go_wp2_with (go_at_call 57;refine(l1In_any _ _ _ _).mono ?_;rintro e w' ⟨rfl,rfl⟩)
  go_ret
  exact⟨ret_bool (by simp[edgeOk,e1]),(by repeat(first | exact Below.refl _ _ | (refine Below.setCell ?_ (by first | omega | (simp<;>omega)) _) | (refine bel_drewN ?_ _) | (refine Below.drew ?_) | (refine Below.alloc ?_ (by first | omega | (simp<;>omega)) _)))⟩
 ·rcases e2:inB z 0 (wrap64 (n-1)) with _ | _
  ·go_enter Tryz.func128,Tryz.ntmps128
   go_wp2_with (go_at_call 57;refine(l1In_any _ _ _ _).mono ?_;rintro e w' ⟨rfl,rfl⟩)
   go_ret
   exact⟨ret_bool (by simp[edgeOk,e1,e2]),(by repeat(first | exact Below.refl _ _ | (refine Below.setCell ?_ (by first | omega | (simp<;>omega)) _) | (refine bel_drewN ?_ _) | (refine Below.drew ?_) | (refine Below.alloc ?_ (by first | omega | (simp<;>omega)) _)))⟩
  ·go_enter Tryz.func128,Tryz.ntmps128
   go_wp2_with (go_at_call 57;refine(l1In_any _ _ _ _).mono ?_;rintro e w' ⟨rfl,rfl⟩)
   go_ret
   exact⟨ret_bool (by simp[edgeOk,e1,e2]),(by repeat(first | exact Below.refl _ _ | (refine Below.setCell ?_ (by first | omega | (simp<;>omega)) _) | (refine bel_drewN ?_ _) | (refine Below.drew ?_) | (refine Below.alloc ?_ (by first | omega | (simp<;>omega)) _)))⟩
set_option maxHeartbeats 1000000 in
theorem grHas_any (r n:Int) (A:Option Addr) (m cap:Nat) (x:Int) (w:World):
  Calls Tryz.prog 68 #[.agg #[.int .i64 r, .int .i64 n, .slice A m cap], .int .i64 x] w fun e' w'=>e'= .returned (.bool (inB x 0 (wrap64 (n-1))))∧Below w.heap.size w w':=by
 go_enter Tryz.func68,Tryz.ntmps68
 go_wp2_with (go_at_call 106;refine(within_any _ _ _ _).mono ?_;rintro e w' ⟨rfl,rfl⟩)
 go_ret
 exact⟨rfl,(by repeat(first | exact Below.refl _ _ | (refine Below.setCell ?_ (by first | omega | (simp<;>omega)) _) | (refine bel_drewN ?_ _) | (refine Below.drew ?_) | (refine Below.alloc ?_ (by first | omega | (simp<;>omega)) _)))⟩
set_option maxHeartbeats 1000000 in
theorem accepts_any (r n:Int) (A:Option Addr) (m cap:Nat) (e:EdD) (w:World):
  Calls Tryz.prog 130 #[.agg #[.int .i64 r, .int .i64 n, .slice A m cap],edV e] w fun e' w'=>e'= .returned (.bool (edgeOk r n e))∧Below w.heap.size w w':=by
 obtain⟨x,y,z⟩:=e
 unfold edV
 rcases e1:inB x 0 (wrap64 (n-1)) with _ | _
 ·go_enter Tryz.func130,Tryz.ntmps130
  go_wp2_with fail
  refine(grHas_any _ _ _ _ _ _ _).mono ?_
  rintro e w1 ⟨rfl,b1⟩
  have B1:=hDD b1
  obtain⟨hc,hf⟩:=bcell b1
  have hz:=b1.size
  simp at hz
  clear b1
  rw[e1]
  go_wp2
  go_ret
  exact⟨ret_bool (by simp[edgeOk,e1]),(by repeat(first | exact Below.refl _ _ | (refine Below.setCell ?_ (by first | omega | (simp<;>omega)) _) | (refine bel_drewN ?_ _) | (refine Below.drew ?_) | (refine Below.alloc ?_ (by first | omega | (simp<;>omega)) _) | (refine Below.trans ?_ (Below.mono (Hid.out B1) (by first | omega | (simp<;>omega))))))⟩
 ·go_enter Tryz.func130,Tryz.ntmps130
  go_wp2_with fail
  refine(grHas_any _ _ _ _ _ _ _).mono ?_
  rintro e w1 ⟨rfl,b1⟩
  have B1:=hDD b1
  obtain⟨hc,hf⟩:=bcell b1
  have hz:=b1.size
  simp at hz
  clear b1
  rw[e1]
  go_wp2_with fail
  refine(grHas_any _ _ _ _ _ _ _).mono ?_
  rintro e w2 ⟨rfl,b2⟩
  have B2:=hDD b2
  obtain⟨hc2,hf2⟩:=bcell b2
  have hz2:=b2.size
  have k0:w2.cell? ⟨w.heap.size,0,none⟩=some (.int .i64 r):=by rw[hc2 _ _ (by omega),hc _ _ (by simp;omega)];simp[go_sem]
  have k1:w2.cell? ⟨w.heap.size+1,1,none⟩=some (.int .i64 y):=by rw[hc2 _ _ (by omega),hc _ _ (by simp)];simp[go_sem]
  clear b2 hc hf hc2 hf2
  rcases e2:inB z 0 (wrap64 (n-1)) with _ | _
  ·go_wp2
   go_ret
   exact⟨ret_bool (by simp[edgeOk,e1,e2]),(by repeat(first | exact Below.refl _ _ | (refine Below.setCell ?_ (by first | omega | (simp<;>omega)) _) | (refine bel_drewN ?_ _) | (refine Below.drew ?_) | (refine Below.alloc ?_ (by first | omega | (simp<;>omega)) _) | (refine Below.trans ?_ (Below.mono (Hid.out B2) (by first | omega | (simp<;>omega)))) | (refine Below.trans ?_ (Below.mono (Hid.out B1) (by first | omega | (simp<;>omega))))))⟩
  ·go_wp2_with fail
   refine(within_any _ _ _ _).mono ?_
   rintro e w' ⟨rfl,rfl⟩
   rcases e3:inB y 1 r with _ | _
   ·go_wp2
    go_ret
    exact⟨ret_bool (by simp[edgeOk,e1,e2,e3]),(by repeat(first | exact Below.refl _ _ | (refine Below.setCell ?_ (by first | omega | (simp<;>omega)) _) | (refine bel_drewN ?_ _) | (refine Below.drew ?_) | (refine Below.alloc ?_ (by first | omega | (simp<;>omega)) _) | (refine Below.trans ?_ (Below.mono (Hid.out B2) (by first | omega | (simp<;>omega)))) | (refine Below.trans ?_ (Below.mono (Hid.out B1) (by first | omega | (simp<;>omega))))))⟩
   ·go_wp2
    go_ret
    exact⟨ret_bool (by simp[edgeOk,e1,e2,e3]),(by repeat(first | exact Below.refl _ _ | (refine Below.setCell ?_ (by first | omega | (simp<;>omega)) _) | (refine bel_drewN ?_ _) | (refine Below.drew ?_) | (refine Below.alloc ?_ (by first | omega | (simp<;>omega)) _) | (refine Below.trans ?_ (Below.mono (Hid.out B2) (by first | omega | (simp<;>omega)))) | (refine Below.trans ?_ (Below.mono (Hid.out B1) (by first | omega | (simp<;>omega))))))⟩
end Go.Proofs.YtfadnkjlilhneaaGreat
namespace Go.Proofs.YtfadnkjlilhneaaGreat
set_option maxRecDepth 20000
set_option linter.unusedVariables false
set_option linter.unusedSimpArgs false
structure TOrd {α:Type} (c:α→α→Int):Prop where
 zero: ∀ {a b},c a b=0↔a=b
 anti: ∀ {a b},c a b<0↔0<c b a
 trans: ∀ {a b d},c a b<0→c b d<0→c a d<0
theorem cmpI_neg {a b:Int}:cmpI a b<0↔a<b:=by
 unfold cmpI;split
 ·simp[*]
 ·split<;>omega
theorem cmpI_pos {a b:Int}:0<cmpI a b↔b<a:=by
 unfold cmpI;split
 ·omega
 ·split<;>omega
theorem cmpI_ord:TOrd cmpI:=⟨cmpI_zero,by intro a b;rw[cmpI_neg,cmpI_pos],by intro a b d h1 h2;rw[cmpI_neg] at*;omega⟩
theorem cmpE_neg {a b:EdD}:cmpE a b<0↔a.1<b.1∨(a.1=b.1∧(a.2.1<b.2.1∨(a.2.1=b.2.1∧a.2.2<b.2.2))):=by
 unfold cmpE
 split
 ·rename_i h
  have h':a.1≠b.1:=fun e=>h (cmpI_zero.2 e)
  rw[cmpI_neg];omega
 ·rename_i h
  have h':a.1=b.1:=cmpI_zero.1 (by simpa using h)
  split
  ·rename_i h2
   have h2':a.2.1≠b.2.1:=fun e=>h2 (cmpI_zero.2 e)
   rw[cmpI_neg];omega
  ·rename_i h2
   have h2':a.2.1=b.2.1:=cmpI_zero.1 (by simpa using h2)
   rw[cmpI_neg];omega
theorem cmpE_pos {a b:EdD}:0<cmpE a b↔b.1<a.1∨(a.1=b.1∧(b.2.1<a.2.1∨(a.2.1=b.2.1∧b.2.2<a.2.2))):=by
 unfold cmpE
 split
 ·rename_i h
  have h':a.1≠b.1:=fun e=>h (cmpI_zero.2 e)
  rw[cmpI_pos];omega
 ·rename_i h
  have h':a.1=b.1:=cmpI_zero.1 (by simpa using h)
  split
  ·rename_i h2
   have h2':a.2.1≠b.2.1:=fun e=>h2 (cmpI_zero.2 e)
   rw[cmpI_pos];omega
  ·rename_i h2
   have h2':a.2.1=b.2.1:=cmpI_zero.1 (by simpa using h2)
   rw[cmpI_pos];omega
theorem cmpE_zero {a b:EdD}:cmpE a b=0↔a=b:=by
 obtain⟨x,y,z⟩:=a
 obtain⟨x',y',z'⟩:=b
 have h1:= @cmpE_neg (x,y,z) (x',y',z')
 have h2:= @cmpE_pos (x,y,z) (x',y',z')
 simp only at h1 h2
 constructor
 ·intro h
  have n1: ¬cmpE (x,y,z) (x',y',z')<0:=by omega
  have n2: ¬0<cmpE (x,y,z) (x',y',z'):=by omega
  rw[h1] at n1
  rw[h2] at n2
  have e1:x=x':=by omega
  have e2:y=y':=by omega
  have e3:z=z':=by omega
  rw[e1,e2,e3]
 ·intro h
  injection h with e1 h
  injection h with e2 e3
  have n1: ¬cmpE (x,y,z) (x',y',z')<0:=by rw[h1];omega
  have n2: ¬0<cmpE (x,y,z) (x',y',z'):=by rw[h2];omega
  omega
theorem cmpE_ord:TOrd cmpE:=⟨cmpE_zero,by intro a b;rw[cmpE_neg,cmpE_pos];omega,by intro a b d h1 h2;rw[cmpE_neg] at*;omega⟩
section
variable {α:Type} {c:α→α→Int}
def Srt (c:α→α→Int) (l:List α):Prop:=l.Pairwise fun a b=>c a b<0
theorem TOrd.irrefl (h:TOrd c) (a:α): ¬c a a<0:=by
 have:=(h.zero (a:=a) (b:=a)).2 rfl
 omega
theorem Srt.ext (h:TOrd c): ∀ {l l':List α},Srt c l→Srt c l'→(∀x,x∈l↔x∈l')→l=l'
 | [],[],_,_,_=>rfl
 | [],b::l',_,_,hm=>absurd ((hm b).2 (by simp)) (by simp)
 | a::l,[],_,_,hm=>absurd ((hm a).1 (by simp)) (by simp)
 | a::l,b::l',h1,h2,hm=>by
   have p1:=List.pairwise_cons.1 h1
   have p2:=List.pairwise_cons.1 h2
   have e:a=b:=by
    have ha:=(hm a).1 (by simp)
    have hb:=(hm b).2 (by simp)
    rcases List.mem_cons.1 ha with e | ha
    ·exact e
    ·rcases List.mem_cons.1 hb with e | hb
     ·exact e.symm
     ·exact absurd (h.trans (p1.1 b hb) (p2.1 a ha)) (h.irrefl a)
   subst e
   congr 1
   refine Srt.ext h p1.2 p2.2 fun x=>⟨fun hx=> ?_,fun hx=> ?_⟩
   ·rcases List.mem_cons.1 ((hm x).1 (by simp[hx])) with rfl | h'
    ·exact absurd (p1.1 x hx) (h.irrefl x)
    ·exact h'
   ·rcases List.mem_cons.1 ((hm x).2 (by simp[hx])) with rfl | h'
    ·exact absurd (p2.1 x hx) (h.irrefl x)
    ·exact h'
def insS (c:α→α→Int) (x:α) (s:List α×Bool) (y:α):List α×Bool:=
 if c x y=0 then(s.1++ [y],true) else if c x y<0∧s.2=false then(s.1++ [x,y],true) else(s.1++ [y],s.2)
def insF (c:α→α→Int) (l:List α) (x:α):List α:=if(l.foldl (insS c x) ([],false)).2 then(l.foldl (insS c x) ([],false)).1 else(l.foldl (insS c x) ([],false)).1++ [x]
def insR (c:α→α→Int) (x:α):List α→List α
 | []=> [x]
 | y::l=>if c x y=0 then y::l else if c x y<0 then x::y::l else y::insR c x l
theorem insS_true (x:α) (l acc:List α):l.foldl (insS c x) (acc,true)=(acc++l,true):=by
 induction l generalizing acc with
 | nil=>simp
 | cons y l ih=>
   rw[List.foldl_cons]
   have:insS c x (acc,true) y=(acc++ [y],true):=by unfold insS;split<;>simp
   rw[this,ih]
   simp
theorem insF_eq (l:List α) (x:α):insF c l x=insR c x l:=by
 have key: ∀l acc:List α,(if(l.foldl (insS c x) (acc,false)).2 then(l.foldl (insS c x) (acc,false)).1 else(l.foldl (insS c x) (acc,false)).1++ [x])=acc++insR c x l:=by
  intro l
  induction l with
  | nil=>intro acc;simp[insR]
  | cons y l ih=>
    intro acc
    rw[List.foldl_cons]
    by_cases h0:c x y=0
    ·have:insS c x (acc,false) y=(acc++ [y],true):=by unfold insS;rw[if_pos h0]
     rw[this,insS_true]
     simp[insR,h0]
    ·by_cases h1:c x y<0
     ·have:insS c x (acc,false) y=(acc++ [x,y],true):=by unfold insS;rw[if_neg h0,if_pos ⟨h1,rfl⟩]
      rw[this,insS_true]
      simp[insR,h0,h1]
     ·have:insS c x (acc,false) y=(acc++ [y],false):=by unfold insS;rw[if_neg h0,if_neg (fun h=>h1 h.1)]
      rw[this,ih]
      simp[insR,h0,h1]
 simpa[insF] using key l []
theorem insR_mem (x:α) (l:List α) (h:TOrd c) (y:α):y∈insR c x l↔y=x∨y∈l:=by
 induction l with
 | nil=>simp[insR]
 | cons a l ih=>
   unfold insR
   split
   ·rename_i h0
    have:=h.zero.1 h0
    subst this
    simp
   ·split
    ·simp
    ·simp only[List.mem_cons,ih]
     constructor
     ·rintro(e | e | e)
      ·exact .inr (.inl e)
      ·exact .inl e
      ·exact .inr (.inr e)
     ·rintro(e | e | e)
      ·exact .inr (.inl e)
      ·exact .inl e
      ·exact .inr (.inr e)
theorem insR_srt (h:TOrd c) (x:α) (l:List α) (hl:Srt c l):Srt c (insR c x l):=by
 induction l with
 | nil=>simp[insR,Srt]
 | cons a l ih=>
   have p:=List.pairwise_cons.1 hl
   unfold insR
   split
   ·exact hl
   ·rename_i h0
    split
    ·rename_i h1
     refine List.pairwise_cons.2 ⟨fun y hy=> ?_,hl⟩
     rcases List.mem_cons.1 hy with rfl | hy
     ·exact h1
     ·exact h.trans h1 (p.1 y hy)
    ·rename_i h1
     refine List.pairwise_cons.2 ⟨fun y hy=> ?_,ih p.2⟩
     rcases(insR_mem x l h y).1 hy with rfl | hy
     ·have:=(h.anti (a:=a) (b:=y)).2 (by omega)
      exact this
     ·exact p.1 y hy
theorem insF_len (l:List α) (x:α):(insF c l x).length≤l.length+1:=by
 rw[insF_eq]
 induction l with
 | nil=>simp[insR]
 | cons a l ih=>
   unfold insR
   split
   ·simp
   ·split
    ·simp
    ·simp only[List.length_cons];omega
def srt (c:α→α→Int) (L:List α):List α:=L.foldl (insF c) []
theorem srt_spec (h:TOrd c) (L:List α):Srt c (srt c L)∧ ∀x,x∈srt c L↔x∈L:=by
 have key: ∀L acc:List α,Srt c acc→Srt c (L.foldl (insF c) acc)∧ ∀x,x∈L.foldl (insF c) acc↔x∈acc∨x∈L:=by
  intro L
  induction L with
  | nil=>intro acc hs;exact⟨hs,fun x=>by simp⟩
  | cons y L ih=>
    intro acc hs
    rw[List.foldl_cons]
    obtain⟨h1,h2⟩:=ih (insF c acc y) (by rw[insF_eq];exact insR_srt h y acc hs)
    refine⟨h1,fun x=> ?_⟩
    rw[h2,insF_eq,insR_mem y acc h]
    simp only[List.mem_cons]
    constructor
    ·rintro((e | e) | e)
     ·exact .inr (.inl e)
     ·exact .inl e
     ·exact .inr (.inr e)
    ·rintro(e | e | e)
     ·exact .inl (.inr e)
     ·exact .inl (.inl e)
     ·exact .inr e
 obtain⟨h1,h2⟩:=key L [] List.Pairwise.nil
 exact⟨h1,fun x=>by simpa[srt] using h2 x⟩
theorem srt_eq (h:TOrd c) {L l:List α} (hs:Srt c l) (hm: ∀x,x∈l↔x∈L):l=srt c L:=
 Srt.ext h hs (srt_spec h L).1 fun x=>by rw[hm,(srt_spec h L).2]
theorem srt_len (L:List α):(srt c L).length≤L.length:=by
 have key: ∀L acc:List α,(L.foldl (insF c) acc).length≤acc.length+L.length:=by
  intro L
  induction L with
  | nil=>intro acc;simp
  | cons y L ih=>
    intro acc
    have h1:=ih (insF c acc y)
    have h2:=insF_len (c:=c) acc y
    simp only[List.foldl_cons,List.length_cons]
    omega
 simpa[srt] using key L []
end
end Go.Proofs.YtfadnkjlilhneaaGreat
namespace Go.Proofs.YtfadnkjlilhneaaGreat
set_option maxRecDepth 20000
set_option linter.unusedVariables false
set_option linter.unusedSimpArgs false
open Go.RowKit
def hasB (l:List Int) (x:Int):Bool:=l.any (· ==x)
theorem hasB_no {l:List Int} {x:Int} (h: ∀j (hj:j<l.length),l[j]≠x):hasB l x=false:=by
 unfold hasB
 rw[List.any_eq_false]
 intro y hy
 obtain⟨j,hj,rfl⟩:=List.getElem_of_mem hy
 simpa using h j hj
theorem hasB_yes {l:List Int} {x:Int} (j:Nat) (hj:j<l.length) (h:l[j]=x):hasB l x=true:=by
 unfold hasB
 rw[List.any_eq_true]
 exact⟨l[j],by simp,by simpa using h⟩
set_option maxHeartbeats 400000 in
theorem l4Has_any (v:Value) (xs:List Int) (x:Int) (w:World) (h:ArgI w v xs) (hl:xs.length≤1073741824):
  Calls Tryz.prog 84 #[v, .int .i64 x] w fun e w'=>e= .returned (.bool (hasB xs x))∧w=w':=by
 obtain⟨A,cap,rfl,hcap,hm,hr,hb⟩:=h
 have HB:=hDD hb
 clear hb hr
 go_enter Tryz.func84,Tryz.ntmps84
 go_wp2
 go_loop [5] (fun i=> ∃k:Nat,k≤xs.length∧i= .int .i64 k∧ ∀j (hj:j<xs.length),j<k→xs[j]≠x) (fun i=>xs.length-(intOf i).toNat)
 case atStart=>exact⟨0,Nat.zero_le _,rfl,fun j hj h=>absurd h (by omega)⟩
 case round=>
  obtain⟨k,hk,rfl,hno⟩:=hrel
  have HNO:=hDD hno
  clear hno
  by_cases hlt:k<xs.length
  ·obtain⟨b,off,rfl,hc⟩:=HB.out (by omega)
   have hcell:=hc k hlt
   have HY:=hDD (fun e=>hasB_yes (x:=x) k hlt e)
   have HN:Hid (xs[k]≠x→ ∀j (hj:j<xs.length),j<k+1→xs[j]≠x):=hDD fun e j hj hjk=>by
    rcases Nat.lt_or_eq_of_le (Nat.le_of_lt_succ hjk) with h | rfl
    ·exact HNO.out j hj h
    ·exact e
   clear hc
   generalize xs[k]=y at hcell HY HN
   rcases e1:(y==x) with _ | _
   ·have F:=hDD (HN.out (by simpa using e1))
    go_wp2
    go_round
    case rel=>exact⟨k+1,by omega,by go_num,F.out⟩
    case measure=>simp[intOf];omega
   ·have F:=hDD (HY.out (by simpa using e1))
    go_wp2
    go_ret
    exact⟨ret_bool F.out.symm,rfl⟩
  ·obtain rfl:k=xs.length:=by omega
   have F:=hDD (hasB_no fun j hj=>HNO.out j hj hj)
   go_wp2
   go_ret
   exact⟨ret_bool F.out.symm,rfl⟩
end Go.Proofs.YtfadnkjlilhneaaGreat
namespace Go.Proofs.YtfadnkjlilhneaaGreat
set_option maxRecDepth 20000
set_option linter.unusedVariables false
set_option linter.unusedSimpArgs false
open Go.RowKit
structure BelW (w:World) where
 W:World
 h:Below w.heap.size w W
instance (w:World):Inhabited (BelW w):=⟨⟨w,Below.refl _ _⟩⟩
theorem wp_region_quiet_bel {P:Program} {id:Nat} {Q:Exit→Act→World→Prop} {a:Act} {w:World} {l:List Oper} (hm:P.follows .mixedOrders=true) (hB:Region.lexB .any l.toArray=true)
  (h:wpQuiet P l.toArray (fun w'=> ∃p:BelW w,w'=p.W) (fun a'=> ∀w',(∃p:BelW w,w'=p.W)→Q .normal a' w') l a):(Code.region id l.toArray true).wp P Q a w:=
 wp_region_quiet (C:=fun w'=> ∃p:BelW w,w'=p.W) hm hB ⟨⟨w.drew,(Below.refl _ _).drew⟩,rfl⟩ (by simpa using h)
theorem Calls.bel_of {P:Program} {f:FuncId} {args:Array Value} {w:World} {p:BelW w} {v:Value}
  (h:Calls P f args p.W fun e w'=>e= .returned v∧Below p.W.heap.size p.W w'):Calls P f args p.W fun e w''=>e= .returned v∧ ∃q:BelW w,w''=q.W:=
 h.mono fun _ w' ⟨he,hb⟩=>⟨he,⟨w',p.h.trans (hb.mono p.h.size)⟩,rfl⟩
theorem Calls.bel_same {P:Program} {f:FuncId} {args:Array Value} {w:World} {p:BelW w} {v:Value}
  (h:Calls P f args p.W fun e w'=>e= .returned v∧p.W=w'):Calls P f args p.W fun e w''=>e= .returned v∧ ∃q:BelW w,w''=q.W:=
 h.mono fun _ w' ⟨he,hb⟩=>⟨he,p,hb.symm⟩
theorem BelW.cell {w:World} {b o:Nat} {v:Value} (h:w.cell? ⟨b,o,none⟩=some v) (hlt:b<w.heap.size) (p:BelW w):p.W.cell? ⟨b,o,none⟩=some v:=
 (p.h.cell (p:=⟨b,o,none⟩) hlt).trans h
def dumL:List Oper→List Oper
 | []=> []
 | [o]=> [{o with op:= .move (.const (.bool false))}]
 | o::o'::r=>o::dumL (o'::r)
def lastL:List Oper→List Oper
 | []=> []
 | [o]=> [o]
 | _::o'::r=>lastL (o'::r)
theorem dumL_len: ∀l:List Oper,(dumL l).length=l.length
 | []=>rfl
 | [_]=>rfl
 | _::o'::r=>by show(dumL (o'::r)).length+1=_;rw[dumL_len (o'::r)];rfl
theorem dumL_get: ∀(l:List Oper) (j:Nat),j+1<l.length→(dumL l)[j]? =l[j]?
 | [],_,h=>by simp at h
 | [_],j,h=>by simp at h
 | _::_::_,0,_=>rfl
 | _::o'::r,j+1,h=>by
   show(dumL (o'::r))[j]? =(o'::r)[j]?
   exact dumL_get (o'::r) j (by simp at h⊢;omega)
theorem dumL_last: ∀(l:List Oper) (n:Nat),l.length=n+1→ ∃st,l[n]? =some st∧lastL l= [st]∧(dumL l)[n]? =some {st with op:= .move (.const (.bool false))}
 | [],n,h=>by simp at h
 | [o], n, h => by obtain rfl:n=0:=by simpa using h.symm
                   exact⟨o,rfl,rfl,rfl⟩
 | _::o'::r,0,h=>by simp at h
 | _::o'::r,n+1,h=>by
   obtain⟨st,h1,h2,h3⟩:=dumL_last (o'::r) n (by simpa using h)
   exact⟨st,h1,h2,h3⟩
def lastB (ops:Array Oper) (n:Nat):Bool:=
 (List.range ops.size).all (fun i=>match ops[i]? with | some o=>o.after.all (fun e=> !Region.binds .any e||decide (e.on<i)) | none=>true)&&
 (List.range n).all (fun i=>(List.range ops.size).any fun j=>decide (i<j)&&match ops[j]? with | some o=>o.after.any (fun e=>Region.binds .any e&&e.on==i) | none=>false)&&
 match ops[n]? with | some o=>o.dst.isNone&&o.guard.isNone | none=>false
section
variable {P:Program} {ops ops':Array Oper} {n:Nat} {C:World→Prop}
structure LastOk (ops ops':Array Oper) (n:Nat) (st st':Oper):Prop where
 size:ops.size=n+1
 size':ops'.size=n+1
 like: ∀j,j<n→(ops'[j]?).map (·.after)=(ops[j]?).map (·.after)∧(ops'[j]?).bind (·.dst)=(ops[j]?).bind (·.dst)
 hst:ops[n]? =some st
 hst':ops'[n]? =some st'
 after:st'.after=st.after
 dst:st.dst=none
 dst':st'.dst=none
 guard:st.guard=none
 guard':st'.guard=none
 back: ∀i o,ops[i]? =some o→ ∀e∈o.after,Region.binds .any e=true→e.on<i
 chain: ∀i,i<n→ ∃j o,i<j∧ops[j]? =some o∧ ∃e∈o.after,Region.binds .any e=true∧e.on=i
variable {st st':Oper}
theorem LastOk.get (h:LastOk ops ops' n st st') (j:Nat):(ops'[j]?).map (·.after)=(ops[j]?).map (·.after)∧(ops'[j]?).bind (·.dst)=(ops[j]?).bind (·.dst):=by
 rcases Nat.lt_trichotomy j n with hj | rfl | hj
 ·exact h.like j hj
 ·rw[h.hst,h.hst'];simp[h.after,h.dst,h.dst']
 ·rw[Array.getElem?_eq_none (by rw[h.size'];omega),Array.getElem?_eq_none (by rw[h.size];omega)];exact⟨rfl,rfl⟩
theorem LastOk.ready (h:LastOk ops ops' n st st') (listed:Array Bool):Region.ready .any ops' listed=Region.ready .any ops listed:=by
 unfold Region.ready
 rw[h.size,h.size']
 refine List.filter_congr fun i _=> ?_
 have:=(h.get i).1
 congr 1
 cases e1:ops'[i]? <;>cases e2:ops[i]? <;>rw[e1,e2] at this<;>simp at this⊢
 rw[this]
theorem LastOk.yielded (h:LastOk ops ops' n st st') (t:Array Value):yielded ops' t=yielded ops t:=by
 funext j
 unfold Go.yielded
 rw[(h.get j).2]
def Cl (ops:Array Oper) (listed:Array Bool):Prop:=
 listed.size=ops.size∧ ∀j o,ops[j]? =some o→listed.getD j false=true→ ∀e∈o.after,Region.binds .any e=true→listed.getD e.on false=true
theorem getD_tf {l:Array Bool} {i:Nat} (hi:i<l.size):l.getD i true=l.getD i false:=by simp[hi]
theorem Cl.set {listed:Array Bool} (h:Cl ops listed) {i:Nat} (hi:i∈Region.ready .any ops listed):Cl ops (listed.setIfInBounds i true):=by
 refine⟨by rw[Array.size_setIfInBounds];exact h.1,fun j o ho hl e he hb=> ?_⟩
 by_cases hij:i=j
 ·subst hij
  obtain⟨_,o',ho',hall⟩:=mem_ready.1 hi
  rw[ho] at ho'
  injection ho' with ho'
  subst ho'
  exact getD_set_true (hall e he hb)
 ·rw[getD_set_ne false hij] at hl
  exact getD_set_true (h.2 j o ho hl e he hb)
theorem LastOk.all (h:LastOk ops ops' n st st') {listed:Array Bool} (hc:Cl ops listed) (hr:n∈Region.ready .any ops listed):
  ∀(d i:Nat),n-i=d→i<n→listed.getD i false=true:=by
 intro d
 induction d using Nat.strongRecOn with
 | _ d ih=>
   intro i hd hi
   obtain⟨j,o,hij,ho,e,he,hb,rfl⟩:=h.chain i hi
   have hj:j<n+1:=by rw[←h.size];exact(Array.getElem?_eq_some_iff.1 ho).1
   by_cases hjn:j=n
   ·subst hjn
    obtain⟨_,o',ho',hall⟩:=mem_ready.1 hr
    rw[ho] at ho'
    injection ho' with ho'
    subst ho'
    exact hall e he hb
   ·exact hc.2 j o ho (ih (n-j) (by omega) j rfl (by omega)) e he hb
theorem LastOk.done (h:LastOk ops ops' n st st') {listed:Array Bool} (hc:Cl ops listed) (hr:n∈Region.ready .any ops listed):
  Region.ready .any ops (listed.setIfInBounds n true)= []:=by
 rw[List.eq_nil_iff_forall_not_mem]
 intro j hj
 obtain⟨h0,o,ho,_⟩:=mem_ready.1 hj
 have hjn:j<n+1:=by rw[←h.size];exact(Array.getElem?_eq_some_iff.1 ho).1
 have hs:listed.size=n+1:=hc.1.trans h.size
 by_cases e:n=j
 ·subst e
  simp[hs] at h0
 ·rw[getD_set_ne true e,getD_tf (by omega),h.all hc hr _ j rfl (by omega)] at h0
  cases h0
theorem LastOk.stuck (h:LastOk ops ops' n st st') {listed:Array Bool} (hs:listed.size=ops.size): ∀i,i<ops.size→listed.getD i true=false→Region.ready .any ops listed≠ []:=by
 intro i
 induction i using Nat.strongRecOn with
 | _ i ih=>
   intro hi hl
   have ho:ops[i]? =some ops[i]:=by simp[hi]
   by_cases hall: ∀e∈ops[i].after,Region.binds .any e=true→listed.getD e.on false=true
   ·exact List.ne_nil_of_mem (mem_ready.2 ⟨hl,_,ho,hall⟩)
   ·simp only[Classical.not_forall] at hall
    obtain⟨e,he,hb,hn⟩:=hall
    have hlt:=h.back i _ ho e he hb
    exact ih e.on hlt (by omega) (by rw[getD_tf (by omega)];simpa using hn)
theorem wpAny_of_last (h:LastOk ops ops' n st st') (hsame: ∀j,j<n→ops'[j]? =ops[j]?) {Q:Act→Prop} {Q':Exit→Act→World→Prop}
  (hQ: ∀a w,C w→Q a→st.wp P a w (fun a w=>Q' .normal a w) Q'∨(st.asks P a w∧LetsOut Q')):
  ∀(fuel:Nat) (listed:Array Bool) (a:Act) (w:World),C w→Cl ops listed→listed.getD n true=false→
  wpAnyQ P .any ops' C Q fuel listed a→wpAny P .any ops Q' fuel listed a w:=by
 intro fuel
 induction fuel with
 | zero=>
   intro listed a w hw hc hn hh
   have:=hh.1
   rw[h.ready] at this
   exact absurd this (h.stuck hc.1 n (by rw[h.size];omega) hn)
 | succ fuel ih=>
   intro listed a w hw hc hn hh
   refine⟨fun h0=>absurd h0 (h.stuck hc.1 n (by rw[h.size];omega) hn),fun i hi=> ?_⟩
   have hq:=hh.2 i (by rw[h.ready];exact hi)
   by_cases hin:i=n
   ·subst hin
    have hd:=h.done hc hi
    unfold wpOp
    unfold qOp at hq
    simp only[h.hst,h.hst'] at hq⊢
    have w1:Region.wanted st (Go.yielded ops a.tmps)=true:=by unfold Region.wanted;rw[h.guard]
    have w2:Region.wanted st' (Go.yielded ops' a.tmps)=true:=by unfold Region.wanted;rw[h.guard']
    rw[if_pos w1]
    rw[if_pos w2] at hq
    obtain⟨v,_,hK⟩:=hq
    rw[h.dst'] at hK
    have hQa:Q a:=by
     cases fuel with
     | zero=>exact hK.2
     | succ _=>exact hK.1 (by rw[h.ready];exact hd)
    exact(hQ a w hw hQa).imp (Oper.wp_mono fun a' w' hn'=>wpAny_done hd hn' fuel) id
   ·have hs:=h.size
    obtain⟨_,o,ho,_⟩:=mem_ready.1 hi
    have hlt:i<n:=by have:=(Array.getElem?_eq_some_iff.1 ho).1;omega
    have e:wpOp P ops Q' i (wpAny P .any ops Q' fuel (listed.setIfInBounds i true)) a w=wpOp P ops' Q' i (wpAny P .any ops Q' fuel (listed.setIfInBounds i true)) a w:=by
     unfold wpOp
     rw[hsame i hlt,h.yielded]
    rw[e]
    exact wpOp_of_qOp hw (fun a' w' hw' hk=>ih _ a' w' hw' (hc.set hi) (by rw[getD_set_ne true hin];exact hn) hk) hq
end
theorem lastOk_of {l:List Oper} {n:Nat} (hl:l.length=n+1) (hB:lastB l.toArray n=true): ∃st,lastL l= [st]∧LastOk l.toArray (dumL l).toArray n st {st with op:= .move (.const (.bool false))}:=by
 obtain⟨st,h1,h2,h3⟩:=dumL_last l n hl
 refine⟨st,h2,?_⟩
 unfold lastB at hB
 simp only[Bool.and_eq_true,List.all_eq_true,List.mem_range,List.any_eq_true,decide_eq_true_eq] at hB
 obtain⟨⟨hb,hc⟩,hg⟩:=hB
 have hst:l.toArray[n]? =some st:=by simpa using h1
 rw[hst] at hg
 simp only[Bool.and_eq_true,Option.isNone_iff_eq_none] at hg
 have hlk: ∀j,j<n→((dumL l).toArray[j]?).map (·.after)=(l.toArray[j]?).map (·.after)∧((dumL l).toArray[j]?).bind (·.dst)=(l.toArray[j]?).bind (·.dst):=fun j hj=>by
  have e:(dumL l).toArray[j]? =l.toArray[j]? :=by simpa using dumL_get l j (by omega)
  rw[e];exact⟨rfl,rfl⟩
 refine⟨by simpa using hl,by simpa[dumL_len] using hl,fun j hj=>hlk j hj,hst,by simpa using h3,rfl,hg.1,hg.1,hg.2,hg.2,fun i o ho e he hbd=> ?_,fun i hi=> ?_⟩
 ·have hi:=(Array.getElem?_eq_some_iff.1 ho).1
  have:=hb i hi
  rw[ho] at this
  have:=Array.all_eq_true_iff_forall_mem.1 this e he
  rw[hbd] at this
  simpa using this
 ·obtain⟨j,_,hij,hm⟩:=hc i hi
  cases ho:l.toArray[j]? with
  | none=>rw[ho] at hm;cases hm
  | some o=>
    rw[ho] at hm
    obtain⟨e,he,hb'⟩:=Array.any_eq_true'.1 hm
    simp only[Bool.and_eq_true,beq_iff_eq] at hb'
    exact⟨j,o,hij,ho,e,he,hb'⟩
theorem getD_replicate_false' (n i:Nat):(Array.replicate n false).getD i false=false:=by
 by_cases h:i<n<;>simp[h]
theorem wp_region_quiet_last {P:Program} {id:Nat} {Q:Exit→Act→World→Prop} {a:Act} {w:World} {l:List Oper} (n:Nat) (hm:P.follows .mixedOrders=true) (hl:l.length=n+1) (hB:Region.lexB .any (dumL l).toArray=true) (hL:lastB l.toArray n=true)
  (h:wpQuiet P (dumL l).toArray (fun w'=> ∃p:BelW w,w'=p.W) (fun a'=> ∀w',(∃p:BelW w,w'=p.W)→wpList P (lastL l).toArray Q (lastL l) a' w') (dumL l) a):(Code.region id l.toArray true).wp P Q a w:=by
 obtain⟨st,e,hok⟩:=lastOk_of hl hL
 have hgd:=hok.guard
 simp only[Region.lexB,Bool.and_eq_true] at hB
 refine wp_region_any hm (wpAny_of_last (C:=fun w'=> ∃p:BelW w,w'=p.W) hok (fun j hj=>by simpa using dumL_get l j (by omega)) (Q:=fun a'=> ∀w',(∃p:BelW w,w'=p.W)→wpList P (lastL l).toArray Q (lastL l) a' w') (fun a' w' hw' hq=> ?_) _ _ _ _ ⟨⟨w.drew,(Below.refl _ _).drew⟩,rfl⟩ ⟨by simp,?_⟩ ?_ ?_)
 ·have:=hq w' hw'
  rw[e] at this
  unfold wpList at this
  rw[if_pos (by unfold Region.wanted;rw[hgd])] at this
  exact this
 ·intro j o ho hj
  exfalso
  rw[getD_replicate_false'] at hj
  cases hj
 ·rw[getD_tf (by simp[hl]),getD_replicate_false']
 ·have:=wpAnyQ_lex (P:=P) (C:=fun w'=> ∃p:BelW w,w'=p.W) (md:= .any) hB.1 (dumL l) 0 (Array.replicate (dumL l).toArray.size false) a (by simp) (by simpa using hB.2) h
  simpa[dumL_len] using this
def dumO (o:Oper):Oper:= {o with op:= .move (.const (.bool false))}
def dum3:List Oper→List Oper
 | a::b::c::d::r=>a::dum3 (b::c::d::r)
 | [oc,om,st]=> [dumO oc,om,dumO st]
 | l=>l
def tail3:List Oper→List Oper
 | _::b::c::d::r=>tail3 (b::c::d::r)
 | l=>l
theorem dum3_len: ∀l:List Oper,(dum3 l).length=l.length
 | _::b::c::d::r=>by show(dum3 (b::c::d::r)).length+1=_;rw[dum3_len (b::c::d::r)];rfl
 | [_,_,_]=>rfl
 | []=>rfl
 | [_]=>rfl
 | [_,_]=>rfl
theorem dum3_spec: ∀(l:List Oper) (c:Nat),l.length=c+3→ ∃oc om st,l[c]? =some oc∧l[c+1]? =some om∧l[c+2]? =some st∧tail3 l= [oc,om,st]∧(dum3 l)[c]? =some (dumO oc)∧(dum3 l)[c+1]? =some om∧(dum3 l)[c+2]? =some (dumO st)∧ ∀j,j<c→(dum3 l)[j]? =l[j]?
 | a::b::x::d::r,0,h=>by simp at h
 | a::b::x::d::r,c+1,h=>by
   obtain⟨oc,om,st,h1,h2,h3,h4,h5,h6,h7,h8⟩:=dum3_spec (b::x::d::r) c (by simpa using h)
   refine⟨oc,om,st,h1,h2,h3,h4,h5,h6,h7,fun j hj=> ?_⟩
   cases j with
   | zero=>rfl
   | succ j=>exact h8 j (by omega)
 | [oc,om,st],c,h=>by
   obtain rfl:c=0:=by simpa using h.symm
   exact⟨oc,om,st,rfl,rfl,rfl,rfl,rfl,rfl,rfl,fun j hj=>by omega⟩
 | [],c,h=>by simp at h
 | [_],c,h=>by simp at h
 | [_,_],c,h=>by simp at h
def waitsB (ops:Array Oper) (j i:Nat):Bool:=match ops[j]? with | some o=>o.after.any (fun e=>Region.binds .any e&&e.on==i) | none=>false
theorem waitsB_spec {ops:Array Oper} {j i:Nat} (h:waitsB ops j i=true): ∃o,ops[j]? =some o∧ ∃e∈o.after,Region.binds .any e=true∧e.on=i:=by
 unfold waitsB at h
 cases ho:ops[j]? with
 | none=>rw[ho] at h;cases h
 | some o=>
   rw[ho] at h
   obtain⟨e,he,hb'⟩:=Array.any_eq_true'.1 h
   simp only[Bool.and_eq_true,beq_iff_eq] at hb'
   exact⟨o,rfl,e,he,hb'⟩
def call3B (ops:Array Oper) (c:Nat):Bool:=
 lastB ops (c+2)&&(List.range c).all (fun i=>(List.range (c+1)).any fun j=>decide (i<j)&&waitsB ops j i)&&
 match ops[c]?,ops[c+1]? with
 | some oc,some om=>oc.guard.isNone&&om.guard.isNone&&oc.apart ops om&&(match oc.dst with | some d=> !(oc.looksAt ops).contains d | none=>false)&&(match om.dst with | some d=> !(om.looksAt ops).contains d | none=>false)&&(match oc.op with | .select _ _=>false | _=>true)&&(match om.op with | .select _ _=>false | _=>true)
 | _,_=>false
structure C3 (ops ops':Array Oper) (c:Nat) (oc om st:Oper) (d tm:Tmp):Prop where
 ok:LastOk ops ops' (c+2) st (dumO st)
 getc:ops[c]? =some oc
 getc':ops'[c]? =some (dumO oc)
 getm:ops[c+1]? =some om
 getm':ops'[c+1]? =some om
 gc:oc.guard=none
 gm:om.guard=none
 dc:oc.dst=some d
 dm:om.dst=some tm
 ap:oc.apart ops om=true
 self:d∉oc.looksAt ops
 selfm:tm∉om.looksAt ops
 sc: ∀cs b,oc.op≠ .select cs b
 sm: ∀cs b,om.op≠ .select cs b
 sink: ∀i,i<c→ ∃j o,i<j∧j≤c∧ops[j]? =some o∧ ∃e∈o.after,Region.binds .any e=true∧e.on=i
section
variable {P:Program} {ops ops':Array Oper} {c:Nat} {oc om st:Oper} {d tm:Tmp}
theorem wanted_none {o:Oper} (h:o.guard=none) (y:Nat→Option Bool):Region.wanted o y=true:=by unfold Region.wanted;rw[h]
theorem C3.head (h:C3 ops ops' c oc om st d tm) {listed:Array Bool} (hc:Cl ops listed) (hr:c∈Region.ready .any ops listed):
  ∀(x i:Nat),c-i=x→i<c→listed.getD i false=true:=by
 intro x
 induction x using Nat.strongRecOn with
 | _ x ih=>
   intro i hd hi
   obtain⟨j,o,hij,hjc,ho,e,he,hb,rfl⟩:=h.sink i hi
   by_cases hjn:j=c
   ·subst hjn
    obtain⟨_,o',ho',hall⟩:=mem_ready.1 hr
    rw[ho] at ho'
    injection ho' with ho'
    subst ho'
    exact hall e he hb
   ·exact hc.2 j o ho (ih (c-j) (by omega) j rfl (by omega)) e he hb
def Near (c:Nat) (listed:Array Bool):Prop:=listed.getD (c+2) true=false∧ ∀i,i<c+2→listed.getD i false=true
theorem C3.only (h:C3 ops ops' c oc om st d tm) {listed:Array Bool} (hc:Cl ops listed) (hn:Near c listed):Region.ready .any ops listed≠ []∧ ∀i∈Region.ready .any ops listed,i=c+2:=by
 have hs:listed.size=c+3:=hc.1.trans h.ok.size
 refine⟨h.ok.stuck hc.1 (c+2) (by rw[h.ok.size];omega) hn.1,fun i hi=> ?_⟩
 obtain⟨h0,o,ho,_⟩:=mem_ready.1 hi
 have hlt:i<c+3:=by rw[←h.ok.size];exact(Array.getElem?_eq_some_iff.1 ho).1
 by_cases hi2:i<c+2
 ·rw[getD_tf (by omega),hn.2 i hi2] at h0
  cases h0
 ·omega
theorem C3.getQ (h:C3 ops ops' c oc om st d tm) {C:World→Prop} {Q:Act→Prop} {listed:Array Bool} (hc:Cl ops listed) (hn:Near c listed):
  ∀ {fuel:Nat} {b:Act},wpAnyQ P .any ops' C Q fuel listed b→Q b:=by
 intro fuel b hh
 obtain⟨hne,hall⟩:=h.only hc hn
 obtain⟨i,hi⟩:=List.exists_mem_of_ne_nil _ hne
 have hin:=hall i hi
 subst hin
 cases fuel with
 | zero=>have h1:=hh.1;rw[h.ok.ready] at h1;exact absurd h1 hne
 | succ f=>
   have hq:=hh.2 (c+2) (by rw[h.ok.ready];exact hi)
   unfold qOp at hq
   simp only[h.ok.hst'] at hq
   rw[if_pos (wanted_none h.ok.guard' _)] at hq
   obtain⟨v,_,hK⟩:=hq
   rw[h.ok.dst'] at hK
   have hd:=h.ok.done hc hi
   cases f with
   | zero=>exact hK.2
   | succ _=>exact hK.1 (by rw[h.ok.ready];exact hd)
theorem C3.fin (h:C3 ops ops' c oc om st d tm) {Q':Exit→Act→World→Prop} {listed:Array Bool} (hc:Cl ops listed) (hn:Near c listed) {a:Act} {w:World}
  (hw:wpList P #[st] Q' [st] a w): ∀fuel,wpAny P .any ops Q' (fuel+1) listed a w:=by
 intro fuel
 obtain⟨hne,hall⟩:=h.only hc hn
 refine⟨fun h0=>absurd h0 hne,fun i hi=> ?_⟩
 have hin:=hall i hi
 subst hin
 unfold wpOp
 simp only[h.ok.hst]
 rw[if_pos (wanted_none h.ok.guard _)]
 unfold wpList at hw
 rw[if_pos (wanted_none h.ok.guard _)] at hw
 exact hw.imp (Oper.wp_mono fun a' w' hn'=>wpAny_done (h.ok.done hc hi) hn' fuel) id
def CallAsk (P:Program) (C:World→Prop) (Q':Exit→Act→World→Prop) (oc om st:Oper) (d:Tmp) (b:Act):Prop:=
 (∃vm,∀w2,(execOp b.eval om).run P w2= .ok (.value vm) w2)∧
 ∀wx,C wx→ ∃f args,(execOp b.eval oc).run P wx= .ok (.enter f args) wx∧Calls P f args wx fun e w2=> ∃v,e= .returned v∧wpList P #[st] Q' [st] (b.put (some d) v) w2
theorem put_put (a:Act) (d:Tmp) (u v:Value):(a.put (some d) u).put (some d) v=a.put (some d) v:=by
 simp[Act.put,Array.setIfInBounds_setIfInBounds]
theorem C3.main (h:C3 ops ops' c oc om st d tm) {C:World→Prop} {Q':Exit→Act→World→Prop} (hsame: ∀j,j<c→ops'[j]? =ops[j]?):
  ∀(fuel:Nat) (listed:Array Bool) (a:Act) (w:World),C w→Cl ops listed→listed.getD c true=false→listed.getD (c+2) true=false→
  wpAnyQ P .any ops' C (CallAsk P C Q' oc om st d) fuel listed a→wpAny P .any ops Q' fuel listed a w:=by
 intro fuel
 have apx:=Oper.apart_spec h.ap
 have hdm:some d≠some tm:=fun e=>apx.2.1 d h.dc (by rw[h.dm,e])
 have e_c: ∀(a:Act) v,execOp (a.put (some d) v).eval oc=execOp a.eval oc:=fun a v=>execOp_put (ops:=ops) oc h.sc a (some d) v fun x hx=>by injection hx with hx;subst hx;exact h.self
 have e_cm: ∀(a:Act) v,execOp (a.put (some tm) v).eval oc=execOp a.eval oc:=fun a v=>execOp_put (ops:=ops) oc h.sc a (some tm) v fun x hx=>apx.2.2 x (by rw[h.dm,hx])
 have e_m: ∀(a:Act) v,execOp (a.put (some d) v).eval om=execOp a.eval om:=fun a v=>execOp_put (ops:=ops) om h.sm a (some d) v fun x hx=>apx.1 x (by rw[h.dc,hx])
 have e_mm: ∀(a:Act) v,execOp (a.put (some tm) v).eval om=execOp a.eval om:=fun a v=>execOp_put (ops:=ops) om h.sm a (some tm) v fun x hx=>by injection hx with hx;subst hx;exact h.selfm
 induction fuel with
 | zero=>
   intro listed a w hw hc hcn hn hh
   have:=hh.1
   rw[h.ok.ready] at this
   exact absurd this (h.ok.stuck hc.1 (c+2) (by rw[h.ok.size];omega) hn)
 | succ fuel ih=>
   intro listed a w hw hc hcn hn hh
   have hs:listed.size=c+3:=hc.1.trans h.ok.size
   refine⟨fun h0=>absurd h0 (h.ok.stuck hc.1 (c+2) (by rw[h.ok.size];omega) hn),fun i hi=> ?_⟩
   have hq:=hh.2 i (by rw[h.ok.ready];exact hi)
   obtain⟨hi0,o,ho,_⟩:=mem_ready.1 hi
   have hlt:i<c+3:=by rw[←h.ok.size];exact(Array.getElem?_eq_some_iff.1 ho).1
   have hin:i≠c+2:=by
    intro e
    subst e
    have:=h.ok.all hc hi _ c rfl (by omega)
    rw[getD_tf (by omega),this] at hcn
    cases hcn
   by_cases hic:i=c
   ·subst hic
    have hc':=hc.set hi
    have hhead:=h.head hc hi
    unfold wpOp
    unfold qOp at hq
    simp only[h.getc,h.getc'] at hq⊢
    rw[if_pos (wanted_none h.gc _)]
    rw[if_pos (wanted_none (show(dumO oc).guard=none from h.gc) _)] at hq
    obtain⟨v0,_,hK⟩:=hq
    rw[show(dumO oc).dst=some d from h.dc] at hK
    refine .inl ?_
    unfold Oper.wp
    have hn':(listed.setIfInBounds i true).getD (i+2) true=false:=by rw[getD_set_ne true (by omega)];exact hn
    by_cases hml:listed.getD (i+1) false=true
    ·have near:Near i (listed.setIfInBounds i true):=⟨hn',fun j hj=>by
      by_cases e:i=j
      ·subst e;simp[hs]
      ·rw[getD_set_ne false e]
       by_cases e1:j=i+1
       ·subst e1;exact hml
       ·exact hhead _ j rfl (by omega)⟩
     obtain⟨_,hB⟩:=h.getQ hc' near hK
     obtain⟨f,args,hr,hcl⟩:=hB w hw
     rw[e_c] at hr
     rw[hr]
     simp only[Oper.upon]
     refine hcl.mono fun e w2 he=> ?_
     obtain⟨v,rfl,hl⟩:=he
     rw[put_put] at hl
     show wpAny P .any ops Q' fuel (listed.setIfInBounds i true) (a.put oc.dst v) w2
     rw[h.dc]
     cases fuel with
     | zero=>have h1:=hK.1;rw[h.ok.ready] at h1;exact absurd h1 (h.only hc' near).1
     | succ f=>exact h.fin hc' near hl f
    ·have hml':listed.getD (i+1) true=false:=by rw[getD_tf (by omega)];simpa using hml
     have hml2:(listed.setIfInBounds i true).getD (i+1) true=false:=by rw[getD_set_ne true (by omega)];exact hml'
     have honly: ∀j∈Region.ready .any ops (listed.setIfInBounds i true),j=i+1:=fun j hj=>by
      obtain⟨hj0,oj,hoj,_⟩:=mem_ready.1 hj
      have hjlt:j<i+3:=by rw[←h.ok.size];exact(Array.getElem?_eq_some_iff.1 hoj).1
      by_cases e2:j=i+2
      ·subst e2
       have:=h.ok.all hc' hj _ (i+1) rfl (by omega)
       rw[getD_tf (by simp[hs]),this] at hml2
       cases hml2
      ·by_cases e0:i=j
       ·subst e0;simp[hs] at hj0
       ·by_cases e1:j=i+1
        ·exact e1
        ·rw[getD_set_ne true e0,getD_tf (by omega),hhead _ j rfl (by omega)] at hj0
         cases hj0
     have hne:=h.ok.stuck hc'.1 (i+1) (by rw[h.ok.size];omega) hml2
     have hmr:i+1∈Region.ready .any ops (listed.setIfInBounds i true):=by
      obtain⟨j,hj⟩:=List.exists_mem_of_ne_nil _ hne
      have:=honly j hj
      subst this
      exact hj
     cases fuel with
     | zero=>have h1:=hK.1;rw[h.ok.ready] at h1;exact absurd h1 hne
     | succ f=>
       have hq2:=hK.2 (i+1) (by rw[h.ok.ready];exact hmr)
       unfold qOp at hq2
       simp only[h.getm'] at hq2
       rw[if_pos (wanted_none h.gm _)] at hq2
       obtain⟨um,hum,hK2⟩:=hq2
       rw[h.dm] at hK2
       have hc2:=hc'.set hmr
       have near:Near i ((listed.setIfInBounds i true).setIfInBounds (i+1) true):=⟨by rw[getD_set_ne true (by omega)];exact hn',fun j hj=>by
        by_cases e1:i+1=j
        ·subst e1;simp[hs]
        ·rw[getD_set_ne false e1]
         by_cases e:i=j
         ·subst e;simp[hs]
         ·rw[getD_set_ne false e]
          exact hhead _ j rfl (by omega)⟩
       obtain⟨⟨vm,hvm⟩,hB⟩:=h.getQ hc2 near hK2
       have hu:=hum w hw
       unfold Oper.quietAt at hu
       rw[e_mm] at hvm
       rw[hvm w] at hu
       obtain⟨_,hu⟩:=hu
       obtain⟨f2,args,hr,hcl⟩:=hB w hw
       rw[e_cm,e_c] at hr
       rw[hr]
       simp only[Oper.upon]
       refine hcl.mono fun e w2 he=> ?_
       obtain⟨v,rfl,hl⟩:=he
       rw[Act.put_comm (a.put (some d) v0) um v (fun x hx=>by injection hx with hx;subst hx;exact hdm),put_put,←hu] at hl
       show wpAny P .any ops Q' (f+1) (listed.setIfInBounds i true) (a.put oc.dst v) w2
       rw[h.dc]
       refine⟨fun h0=>absurd h0 hne,fun j hj=> ?_⟩
       have hj1:=honly j hj
       subst hj1
       unfold wpOp
       simp only[h.getm]
       rw[if_pos (wanted_none h.gm _)]
       refine .inl ?_
       unfold Oper.wp
       rw[e_m,←e_m a v0,hvm w2]
       show wpAny P .any ops Q' f _ ((a.put (some d) v).put om.dst vm) w2
       rw[h.dm]
       cases f with
       | zero=>have h1:=hK2.1;rw[h.ok.ready] at h1;exact absurd h1 (h.only hc2 near).1
       | succ f=>exact h.fin hc2 near hl f
   ·have hw2:wpOp P ops Q' i (wpAny P .any ops Q' fuel (listed.setIfInBounds i true)) a w=wpOp P ops' Q' i (wpAny P .any ops Q' fuel (listed.setIfInBounds i true)) a w:=by
     unfold wpOp
     rw[h.ok.yielded]
     by_cases e1:i=c+1
     ·subst e1;rw[h.getm,h.getm']
     ·rw[hsame i (by omega)]
    rw[hw2]
    exact wpOp_of_qOp hw (fun a' w' hw' hk=>ih _ a' w' hw' (hc.set hi) (by rw[getD_set_ne true hic];exact hcn) (by rw[getD_set_ne true hin];exact hn) hk) hq
end
theorem c3_of {l:List Oper} {c:Nat} (hl:l.length=c+3) (hB:call3B l.toArray c=true): ∃oc om st d tm,tail3 l= [oc,om,st]∧C3 l.toArray (dum3 l).toArray c oc om st d tm∧ ∀j,j<c→(dum3 l).toArray[j]? =l.toArray[j]? :=by
 obtain⟨oc,om,st,h1,h2,h3,h4,h5,h6,h7,h8⟩:=dum3_spec l c hl
 unfold call3B at hB
 simp only[Bool.and_eq_true,List.all_eq_true,List.mem_range,List.any_eq_true,decide_eq_true_eq] at hB
 obtain⟨⟨hL,hS⟩,hM⟩:=hB
 have e1:l.toArray[c]? =some oc:=by simpa using h1
 have e2:l.toArray[c+1]? =some om:=by simpa using h2
 have e3:l.toArray[c+2]? =some st:=by simpa using h3
 have f1:(dum3 l).toArray[c]? =some (dumO oc):=by simpa using h5
 have f2:(dum3 l).toArray[c+1]? =some om:=by simpa using h6
 have f3:(dum3 l).toArray[c+2]? =some (dumO st):=by simpa using h7
 have f4: ∀j,j<c→(dum3 l).toArray[j]? =l.toArray[j]? :=fun j hj=>by simpa using h8 j hj
 rw[e1,e2] at hM
 simp only[Bool.and_eq_true,Option.isNone_iff_eq_none] at hM
 obtain⟨⟨⟨⟨⟨⟨gc,gm⟩,ap⟩,sd⟩,sm⟩,nsc⟩,nsm⟩:=hM
 obtain⟨d,dc⟩: ∃d,oc.dst=some d:=by
  cases h:oc.dst with
  | none=>rw[h] at sd;cases sd
  | some d=>exact⟨d,rfl⟩
 obtain⟨tm,dm⟩: ∃d,om.dst=some d:=by
  cases h:om.dst with
  | none=>rw[h] at sm;cases sm
  | some d=>exact⟨d,rfl⟩
 rw[dc] at sd
 rw[dm] at sm
 refine⟨oc,om,st,d,tm,h4,?_,f4⟩
 unfold lastB at hL
 simp only[Bool.and_eq_true,List.all_eq_true,List.mem_range,List.any_eq_true,decide_eq_true_eq] at hL
 obtain⟨⟨hb,hc⟩,hg⟩:=hL
 rw[e3] at hg
 simp only[Bool.and_eq_true,Option.isNone_iff_eq_none] at hg
 have hlk: ∀j,j<c+2→((dum3 l).toArray[j]?).map (·.after)=(l.toArray[j]?).map (·.after)∧((dum3 l).toArray[j]?).bind (·.dst)=(l.toArray[j]?).bind (·.dst):=fun j hj=>by
  rcases Nat.lt_or_ge j c with h | h
  ·rw[f4 j h];exact⟨rfl,rfl⟩
  ·rcases(show j=c∨j=c+1 by omega) with rfl | rfl
   ·rw[e1,f1];exact⟨rfl,rfl⟩
   ·rw[e2,f2];exact⟨rfl,rfl⟩
 have ok:LastOk l.toArray (dum3 l).toArray (c+2) st (dumO st):=by
  refine⟨by simpa using hl,by simpa[dum3_len] using hl,hlk,e3,f3,rfl,hg.1,hg.1,hg.2,hg.2,fun i o ho e he hbd=> ?_,fun i hi=> ?_⟩
  ·have hi:=(Array.getElem?_eq_some_iff.1 ho).1
   have:=hb i hi
   rw[ho] at this
   have:=Array.all_eq_true_iff_forall_mem.1 this e he
   rw[hbd] at this
   simpa using this
  ·obtain⟨j,_,hij,hm⟩:=hc i hi
   obtain⟨o,ho,h⟩:=waitsB_spec (ops:=l.toArray) (j:=j) (i:=i) hm
   exact⟨j,o,hij,ho,h⟩
 refine⟨ok,e1,f1,e2,f2,gc,gm,dc,dm,ap,by simpa using sd,by simpa using sm,fun cs b h=>(by rw[h] at nsc;cases nsc),fun cs b h=>(by rw[h] at nsm;cases nsm),fun i hi=> ?_⟩
 obtain⟨j,hj,hij,hw⟩:=hS i hi
 obtain⟨o,ho,h⟩:=waitsB_spec hw
 exact⟨j,o,hij,by omega,ho,h⟩
theorem wp_region_call3 {P:Program} {id:Nat} {Q:Exit→Act→World→Prop} {a:Act} {w:World} {l:List Oper} {oc om st:Oper} {d:Tmp} (c:Nat) (hm:P.follows .mixedOrders=true) (hl:l.length=c+3) (hB:Region.lexB .any (dum3 l).toArray=true) (hL:call3B l.toArray c=true)
  (h3:tail3 l= [oc,om,st]) (hd:oc.dst=some d)
  (h:wpQuiet P (dum3 l).toArray (fun w'=> ∃p:BelW w,w'=p.W) (CallAsk P (fun w'=> ∃p:BelW w,w'=p.W) Q oc om st d) (dum3 l) a):(Code.region id l.toArray true).wp P Q a w:=by
 obtain⟨oc',om',st',d',tm,e,hok,hs⟩:=c3_of hl hL
 rw[h3] at e
 injection e with x1 e
 injection e with x2 e
 injection e with x3 _
 subst x1 x2 x3
 have hdd:d=d':=by have:=hok.dc;rw[hd] at this;injection this
 subst hdd
 simp only[Region.lexB,Bool.and_eq_true] at hB
 refine wp_region_any hm (hok.main (C:=fun w'=> ∃p:BelW w,w'=p.W) hs _ _ _ _ ⟨⟨w.drew,(Below.refl _ _).drew⟩,rfl⟩ ⟨by simp,?_⟩ ?_ ?_ ?_)
 ·intro j o ho hj
  exfalso
  rw[getD_replicate_false'] at hj
  cases hj
 ·rw[getD_tf (by simp[hl]),getD_replicate_false']
 ·rw[getD_tf (by simp[hl]),getD_replicate_false']
 ·have:=wpAnyQ_lex (P:=P) (C:=fun w'=> ∃p:BelW w,w'=p.W) (md:= .any) hB.1 (dum3 l) 0 (Array.replicate (dum3 l).toArray.size false) a (by simp) (by simpa using hB.2) h
  simpa[dum3_len] using this
end Go.Proofs.YtfadnkjlilhneaaGreat
namespace Go.Proofs.YtfadnkjlilhneaaGreat
set_option maxRecDepth 20000
set_option linter.unusedVariables false
set_option linter.unusedSimpArgs false
open Go.RowKit
def insA (y:Int) (xs:List Int) (k:Nat):List Int×Bool:=(xs.take k).foldl (insS cmpI y) ([],false)
theorem insA_succ (y:Int) (xs:List Int) (k:Nat) (h:k<xs.length):insA y xs (k+1)=insS cmpI y (insA y xs k) xs[k]:=by
 unfold insA
 rw[List.take_succ_eq_append_getElem h,List.foldl_append]
 rfl
theorem insA_len (y:Int) (xs:List Int) (k:Nat) (h:k≤xs.length):(insA y xs k).1.length≤2*k:=by
 induction k with
 | zero=>simp[insA]
 | succ k ih=>
   rw[insA_succ y xs k (by omega)]
   have:=ih (by omega)
   unfold insS
   split
   ·simp;omega
   ·split<;>(simp;omega)
set_option maxHeartbeats 1000000 in
theorem l4Add_any (v:Value) (xs:List Int) (y:Int) (w:World) (h:RdI w v xs) (hy:I64 y) (hl:xs.length≤1073741824):
  Calls Tryz.prog 129 #[v, .int .i64 y] w fun e w'=> ∃r,e= .returned r∧OwI w' w.heap.size r (insF cmpI xs y)∧Below w.heap.size w w':=by
 have H:=hDD h
 obtain⟨A,cap,rfl,hcap,hm,hr,hb⟩:=h.arg
 have HR:=hDD hr
 have HY:=hDD hy
 clear h hb hr hy
 go_enter Tryz.func129,Tryz.ntmps129
 go_wp2
 go_loopw [5,6,7] (fun out p i wr=> ∃k:Nat,k≤xs.length∧i= .int .i64 k∧p= .bool (insA y xs k).2∧OwI wr w.heap.size out (insA y xs k).1∧Below w.heap.size w wr)
  (fun _ _ i _=>xs.length-(intOf i).toNat)
 case atStart=>exact⟨0,Nat.zero_le _,rfl,rfl,OwI_lit _ [] I64s_nil (by simp) (Nat.le_refl _),(Below.refl _ _).alloc (Nat.le_refl _) _⟩
 case round=>
  obtain⟨k,hk,rfl,rfl,hown,hbel⟩:=hrel
  have hsz:=hbel.size
  have hal:=insA_len y xs k hk
  by_cases hlt:k<xs.length
  ·obtain⟨b,off,rfl,hbw,hc⟩:=H.out.at (by omega)
   have hcw:=hc k hlt
   have hbl:b<wr.heap.size:=by omega
   have hcell:=(hbel.cell (p:=⟨b,off+k,none⟩) hbw).trans hcw
   have HS:=hDD (insA_succ y xs k hlt)
   have HX:=hDD (HR.out xs[k] (by simp))
   generalize hs:insA y xs k=s at hown HS hal⊢
   obtain⟨o,p⟩:=s
   generalize xs[k]=z at hcell hcw HS HX
   have HCW:=hDD hcw
   clear hc hs hcw
   have HO:=hDD hown
   obtain⟨A1,cap1,rfl,hcap1,hm1,_,_⟩:=hown.form
   clear hown
   simp only at hal
   rcases e1:(z==y) with _ | _
   ·have hzy:z≠y:=by simpa using e1
    by_cases h2:y<z
    ·cases p
     ·have F:Hid (insA y xs (k+1)=(o++ [y,z],true)):=hDD (by rw[HS.out];unfold insS;rw[if_neg (fun e=>hzy (cmpI_zero.1 e).symm),if_pos ⟨cmpI_neg.2 h2,rfl⟩])
      clear hzy
      go_wp2_with (first | ((at_builtin;refine push_int rfl (.tmp 31) (.tmp 33) rfl _ _ _ (OwI.alloc HO.out _) rfl _ _ rfl (cell_new1 _ _ _) HY.out (by first | omega | (simp<;>omega)) (by first | omega | (simp<;>omega)) ?_;intro v1 wv1 o1 g1 p1);have hz1:=g1.size;simp at hz1;have hb1:=bel_push hbel hsz HO.out.1 (Nat.le_refl _) g1;have hcell2:=(hb1.cell (p:=⟨b,off+k,none⟩) hbw).trans HCW.out;clear hb1) | (at_builtin;refine push_int rfl (.tmp 35) (.tmp 40) rfl _ _ _ (OwI.alloc o1 _) rfl _ _ rfl (cell_new1 _ _ _) HX.out (by first | omega | (simp<;>omega)) (by first | omega | (simp<;>omega)) ?_;intro v2 wv2 o2 g2 p2))
      go_roundw
      case rel=>
       have hb1:=bel_push hbel hsz HO.out.1 (Nat.le_refl _) g1
       exact⟨k+1,by omega,by go_num,by rw[F.out],by rw[F.out];simpa using o2,bel_push hb1 hb1.size o1.1 (Nat.le_refl _) g2⟩
      case measure=>simp[intOf];omega
     ·have F:Hid (insA y xs (k+1)=(o++ [z],true)):=hDD (by rw[HS.out];unfold insS;rw[if_neg (fun e=>hzy (cmpI_zero.1 e).symm),if_neg (by simp)])
      clear hzy
      go_wp2_with (at_builtin;refine push_int rfl (.tmp 35) (.tmp 40) rfl _ _ _ (OwI.alloc HO.out _) rfl _ _ rfl (cell_new1 _ _ _) HX.out (by first | omega | (simp<;>omega)) (by first | omega | (simp<;>omega)) ?_;intro v2 wv2 o2 g2 p2)
      go_roundw
      case rel=>exact⟨k+1,by omega,by go_num,by rw[F.out],by rw[F.out];exact o2,bel_push hbel hsz HO.out.1 (Nat.le_refl _) g2⟩
      case measure=>simp[intOf];omega
    ·have F:Hid (insA y xs (k+1)=(o++ [z],p)):=hDD (by rw[HS.out];unfold insS;rw[if_neg (fun e=>hzy (cmpI_zero.1 e).symm),if_neg (fun e=>h2 (cmpI_neg.1 e.1))])
     clear hzy
     go_wp2_with (at_builtin;refine push_int rfl (.tmp 35) (.tmp 40) rfl _ _ _ (OwI.alloc HO.out _) rfl _ _ rfl (cell_new1 _ _ _) HX.out (by first | omega | (simp<;>omega)) (by first | omega | (simp<;>omega)) ?_;intro v2 wv2 o2 g2 p2)
     go_roundw
     case rel=>exact⟨k+1,by omega,by go_num,by rw[F.out],by rw[F.out];exact o2,bel_push hbel hsz HO.out.1 (Nat.le_refl _) g2⟩
     case measure=>simp[intOf];omega
   ·have hzy:z=y:=by simpa using e1
    have F:Hid (insA y xs (k+1)=(o++ [z],true)):=hDD (by rw[HS.out];unfold insS;rw[if_pos (cmpI_zero.2 hzy.symm)])
    have h2: ¬y<z:=by omega
    clear hzy
    go_wp2_with (at_builtin;refine push_int rfl (.tmp 35) (.tmp 40) rfl _ _ _ (OwI.alloc HO.out _) rfl _ _ rfl (cell_new1 _ _ _) HX.out (by first | omega | (simp<;>omega)) (by first | omega | (simp<;>omega)) ?_;intro v2 wv2 o2 g2 p2)
    go_roundw
    case rel=>exact⟨k+1,by omega,by go_num,by rw[F.out],by rw[F.out];exact o2,bel_push hbel hsz HO.out.1 (Nat.le_refl _) g2⟩
    case measure=>simp[intOf];omega
  ·obtain rfl:k=xs.length:=by omega
   have HF:Hid (insF cmpI xs y=if(insA y xs xs.length).2 then(insA y xs xs.length).1 else(insA y xs xs.length).1++ [y]):=hDD (by unfold insF insA;rw[List.take_length])
   generalize insA y xs xs.length=s at hown HF hal⊢
   obtain⟨o,p⟩:=s
   have HO:=hDD hown
   obtain⟨A1,cap1,rfl,hcap1,hm1,_,_⟩:=hown.form
   clear hown
   simp only at hal
   cases p
   ·go_wp2_with (at_builtin;refine push_int rfl (.tmp 44) (.tmp 46) rfl _ _ _ (OwI.alloc HO.out _) rfl _ _ rfl (cell_new1 _ _ _) HY.out (by first | omega | (simp<;>omega)) (by first | omega | (simp<;>omega)) ?_;intro v2 wv2 o2 g2 p2)
    go_ret
    exact⟨_,rfl,by rw[HF.out];exact o2,bel_push hbel hsz HO.out.1 (Nat.le_refl _) g2⟩
   ·go_wp2
    go_ret
    exact⟨_,rfl,by rw[HF.out];exact HO.out,hbel⟩
def mt (v x:Int) (e:EdD):Option Int:=
 if 0<x then(if e.2.1=x∧e.1=v then some e.2.2 else none) else if x<0 then(if e.2.1=wrap64 (-x)∧e.2.2=v then some e.1 else none) else none
def stepsL (es:List EdD) (v x:Int):List Int:=es.filterMap (mt v x)
def nextV (es:List EdD) (v x:Int):Int:=(stepsL es v x).headD (-1)
theorem stepsL_succ (es:List EdD) (v x:Int) (k:Nat) (h:k<es.length):stepsL (es.take (k+1)) v x=stepsL (es.take k) v x++(mt v x es[k]).toList:=by
 unfold stepsL
 rw[List.take_succ_eq_append_getElem h,List.filterMap_append]
 congr 1
theorem stepsL_take (es:List EdD) (v x:Int) (k:Nat):(stepsL (es.take k) v x).length≤(stepsL es v x).length:=by
 unfold stepsL
 conv=>rhs;rw[←List.take_append_drop k es,List.filterMap_append]
 simp
theorem insF_one (y:Int):insF cmpI [] y= [y]:=by rw[insF_eq];rfl
set_option maxHeartbeats 2000000 in
theorem specStepsFrom_any (v:Value) (g:GrD) (u x:Int) (w:World) (h:ArgG w v g) (hone:(stepsL g.2.2 u x).length≤1):
  Calls Tryz.prog 96 #[v, .int .i64 u, .int .i64 x] w fun e w'=> ∃r,e= .returned r∧OwI w' w.heap.size r (stepsL g.2.2 u x)∧Below w.heap.size w w':=by
 obtain⟨s,rfl,_,_,ha⟩:=h
 have H:=hDD ha
 obtain⟨A,cap,rfl,hcap,hm,_,hr,_⟩:=ha
 have HR:=hDD hr
 unfold maxLen at hm
 clear hr
 go_enter Tryz.func96,Tryz.ntmps96
 go_wp2
 have hb:Below w.heap.size w ((w.alloc (Obj.cells #[Value.int IntKind.i64 g.1,Value.int IntKind.i64 g.2.1, .slice A g.2.2.length cap] 31)).alloc (Obj.cells #[] 3)):=(by repeat(first | exact Below.refl _ _ | (refine Below.setCell ?_ (by first | omega | (simp<;>omega)) _) | (refine bel_drewN ?_ _) | (refine Below.drew ?_) | (refine Below.alloc ?_ (by first | omega | (simp<;>omega)) _)))
 have k2:((w.alloc (Obj.cells #[Value.int IntKind.i64 g.1,Value.int IntKind.i64 g.2.1, .slice A g.2.2.length cap] 31)).alloc (Obj.cells #[] 3)).cell? ⟨w.heap.size,2,none⟩=some (.slice A g.2.2.length cap):=by simp[go_sem]
 have hs0:w.heap.size+1<((w.alloc (Obj.cells #[Value.int IntKind.i64 g.1,Value.int IntKind.i64 g.2.1, .slice A g.2.2.length cap] 31)).alloc (Obj.cells #[] 3)).heap.size:=by simp
 have o0:OwI ((w.alloc (Obj.cells #[Value.int IntKind.i64 g.1,Value.int IntKind.i64 g.2.1, .slice A g.2.2.length cap] 31)).alloc (Obj.cells #[] 3)) (w.heap.size+1) (.slice (some ⟨w.heap.size+1,0,none⟩) 0 0) []:=OwI_litN (w.alloc (Obj.cells #[Value.int IntKind.i64 g.1,Value.int IntKind.i64 g.2.1, .slice A g.2.2.length cap] 31)) [] (w.heap.size+1) (by simp) I64s_nil (by simp) (Nat.le_refl _)
 generalize (w.alloc (Obj.cells #[Value.int IntKind.i64 g.1,Value.int IntKind.i64 g.2.1, .slice A g.2.2.length cap] 31)).alloc (Obj.cells #[] 3)=w1 at hb k2 hs0 o0⊢
 have HB:=hDD hb
 have K2:=hDD k2
 have O0:=hDD o0
 clear hb k2 o0
 go_loopw [7,8] (fun out i wr=> ∃k:Nat,k≤g.2.2.length∧i= .int .i64 k∧OwI wr (w.heap.size+1) out (stepsL (g.2.2.take k) u x)∧Below (w.heap.size+1) w1 wr) (fun _ i _=>g.2.2.length-(intOf i).toNat)
 case atStart=>exact⟨0,Nat.zero_le _,rfl,O0.out,Below.refl _ _⟩
 case round=>
  obtain⟨k,hk,rfl,hown,hbel⟩:=hrel
  have hsz:=hbel.size
  have HB3:=hDD (HB.out.trans (hbel.mono (by omega)))
  have p2:=(hbel.cell (p:=⟨w.heap.size,2,none⟩) (show w.heap.size<w.heap.size+1 by omega)).trans K2.out
  have HO:=hDD hown
  have HB2:=hDD hbel
  obtain⟨A1,cap1,rfl,hcap1,hm1,_,_⟩:=hown.form
  clear hbel
  by_cases hlt:k<g.2.2.length
  ·obtain⟨b,off,rfl,hbl,c0,c1,c2,_⟩:=(H.out.below HB3.out).at hlt
   have HS:=hDD (stepsL_succ g.2.2 u x k hlt)
   have HX:=hDD (HR.out g.2.2[k] (by simp))
   have hl1:=stepsL_take g.2.2 u x (k+1)
   have HL1:Hid ((stepsL (g.2.2.take (k+1)) u x).length≤1):=hDD (by omega)
   clear hl1 hown
   generalize g.2.2[k]=e at*
   obtain⟨f,l,t⟩:=e
   simp only at c0 c1 c2
   have keep:mt u x (f,l,t)=none→stepsL (g.2.2.take (k+1)) u x=stepsL (g.2.2.take k) u x:=fun e=>by rw[HS.out,e];simp
   have KE:=hDD keep
   have put: ∀y,mt u x (f,l,t)=some y→stepsL (g.2.2.take k) u x= []∧stepsL (g.2.2.take (k+1)) u x= [y]:=fun y e=>by
    have h1:=HS.out
    have h2:=HL1.out
    rw[e] at h1
    rw[h1] at h2
    simp at h2
    refine⟨h2,by rw[h1,h2];rfl⟩
   have PU:=hDD put
   clear keep put
   by_cases hp:0<x
   ·have hn: ¬x<0:=by omega
    rcases e1:(l==x) with _ | _
    ·have F:=hDD (KE.out (by simp at e1;simp[mt,hp,e1]))
     go_wp2
     go_roundw
     case rel=>exact⟨k+1,by omega,by go_num,by rw[F.out];exact HO.out.alloc _,HB2.out.alloc (by omega) _⟩
     case measure=>simp[intOf];omega
    ·rcases e2:(f==u) with _ | _
     ·have F:=hDD (KE.out (by simp at e2;simp[mt,hp,e2]))
      go_wp2
      go_roundw
      case rel=>exact⟨k+1,by omega,by go_num,by rw[F.out];exact HO.out.alloc _,HB2.out.alloc (by omega) _⟩
      case measure=>simp[intOf];omega
     ·have F:=hDD (PU.out t (by simp at e1 e2;simp[mt,hp,e1,e2]))
      have HO2:=HO.out
      rw[F.out.1] at HO2
      have HO3:=hDD HO2
      clear HO2
      have hz:(stepsL (g.2.2.take k) u x).length=0:=by rw[F.out.1];rfl
      rw[hz]
      go_wp2_with fail
      refine(l4Add_any _ [] t _ ((HO3.out.alloc _).rd) HX.out.2.2 (by simp)).mono ?_
      rintro e w9 ⟨r9,rfl,o9,b9⟩
      rw[insF_one] at o9
      have O9:=hDD (o9.mono (base':=w.heap.size+1) (by simp;omega))
      have B9:Hid (Below (w.heap.size+1) w1 w9):=hDD ((HB2.out.alloc (by omega) _).trans (b9.mono (by simp;omega)))
      obtain⟨A9,cap9,rfl,_⟩:=o9.form
      clear o9 b9
      go_wp2
      go_roundw
      case rel=>exact⟨k+1,by omega,by go_num,by rw[F.out.2];exact O9.out,B9.out⟩
      case measure=>simp[intOf];omega
   ·by_cases hn:x<0
    ·rcases e1:(l==wrap64 (-x)) with _ | _
     ·have F:=hDD (KE.out (by simp at e1;simp[mt,hp,hn,e1]))
      go_wp2
      go_roundw
      case rel=>exact⟨k+1,by omega,by go_num,by rw[F.out];exact HO.out.alloc _,HB2.out.alloc (by omega) _⟩
      case measure=>simp[intOf];omega
     ·rcases e2:(t==u) with _ | _
      ·have F:=hDD (KE.out (by simp at e2;simp[mt,hp,hn,e2]))
       go_wp2
       go_roundw
       case rel=>exact⟨k+1,by omega,by go_num,by rw[F.out];exact HO.out.alloc _,HB2.out.alloc (by omega) _⟩
       case measure=>simp[intOf];omega
      ·have F:=hDD (PU.out f (by simp at e1 e2;simp[mt,hp,hn,e1,e2]))
       have HO2:=HO.out
       rw[F.out.1] at HO2
       have HO3:=hDD HO2
       clear HO2
       have hz:(stepsL (g.2.2.take k) u x).length=0:=by rw[F.out.1];rfl
       rw[hz]
       go_wp2_with fail
       refine(l4Add_any _ [] f _ ((HO3.out.alloc _).rd) HX.out.1 (by simp)).mono ?_
       rintro e w9 ⟨r9,rfl,o9,b9⟩
       rw[insF_one] at o9
       have O9:=hDD (o9.mono (base':=w.heap.size+1) (by simp;omega))
       have B9:Hid (Below (w.heap.size+1) w1 w9):=hDD ((HB2.out.alloc (by omega) _).trans (b9.mono (by simp;omega)))
       obtain⟨A9,cap9,rfl,_⟩:=o9.form
       clear o9 b9
       go_wp2
       go_roundw
       case rel=>exact⟨k+1,by omega,by go_num,by rw[F.out.2];exact O9.out,B9.out⟩
       case measure=>simp[intOf];omega
    ·have F:=hDD (KE.out (by simp[mt,hp,hn]))
     go_wp2
     go_roundw
     case rel=>exact⟨k+1,by omega,by go_num,by rw[F.out];exact HO.out.alloc _,HB2.out.alloc (by omega) _⟩
     case measure=>simp[intOf];omega
  ·obtain rfl:k=g.2.2.length:=by omega
   clear hown
   go_wp2
   go_ret
   exact⟨_,rfl,by have:=HO.out.mono (base':=w.heap.size) (by omega);rw[List.take_length] at this;rw[List.take_length];exact this,HB3.out⟩
set_option maxHeartbeats 1000000 in
theorem specNextVertex_any (v:Value) (g:GrD) (u x:Int) (w:World) (h:ArgG w v g) (hone:(stepsL g.2.2 u x).length≤1):
  Calls Tryz.prog 58 #[v, .int .i64 u, .int .i64 x] w fun e w'=>e= .returned (.int .i64 (nextV g.2.2 u x))∧Below w.heap.size w w':=by
 have H:=hDD h
 obtain⟨s,rfl,_,_,ha⟩:=h
 obtain⟨A,cap,rfl⟩:=ha.form
 obtain⟨R,hR⟩: ∃R,R=nextV g.2.2 u x:=⟨_,rfl⟩
 rw[←hR]
 unfold nextV at hR
 have HR:=hDD hR
 clear hR
 go_enter Tryz.func58,Tryz.ntmps58
 go_wp2_with fail
 have hb:Below w.heap.size w (w.alloc (Obj.cells #[Value.int IntKind.i64 g.1,Value.int IntKind.i64 g.2.1, .slice A g.2.2.length cap] 31)):=(by repeat(first | exact Below.refl _ _ | (refine Below.setCell ?_ (by first | omega | (simp<;>omega)) _) | (refine bel_drewN ?_ _) | (refine Below.drew ?_) | (refine Below.alloc ?_ (by first | omega | (simp<;>omega)) _)))
 refine(specStepsFrom_any _ g u x _ (H.out.below hb) hone).mono ?_
 rintro e w1 ⟨r,rfl,o1,b1⟩
 have B1:=hDD (hb.trans (b1.mono hb.size))
 generalize stepsL g.2.2 u x=L at o1 HR
 clear hb b1 ha
 obtain⟨A1,cap1,rfl,hc1,hm1,_,_⟩:=o1.form
 match L,o1,HR with
 | [],o1,HR=>
   have F:Hid (R= -1):=HR
   clear o1
   go_wp2
   go_ret
   exact⟨ret_int F.out.symm,B1.out⟩
 | y::L,o1,HR=>
   obtain rfl:R=y:=HR.out
   clear HR
   obtain⟨b,off,rfl,hbl,hc⟩:=o1.rd.at (by simp)
   have c0:=hc 0 (by simp)
   simp only[List.getElem_cons_zero,Nat.add_zero] at c0
   clear o1 hc
   go_wp2
   go_ret
   exact⟨rfl,B1.out⟩
end Go.Proofs.YtfadnkjlilhneaaGreat
namespace Go.Proofs.YtfadnkjlilhneaaGreat
set_option maxRecDepth 20000
set_option linter.unusedVariables false
set_option linter.unusedSimpArgs false
open Go.RowKit
set_option maxHeartbeats 2000000 in
theorem specIsGraph_any (v:Value) (g:GrD) (w:World) (h:ArgG w v g):
  Calls Tryz.prog 95 #[v] w fun e w'=>e= .returned (.bool (grB g))∧Below w.heap.size w w':=by
 obtain⟨s,rfl,_,_,ha⟩:=h
 have H:=hDD ha
 obtain⟨A,cap,rfl,hcap,hm,_⟩:=ha
 unfold maxLen at hm
 go_enter Tryz.func95,Tryz.ntmps95
 go_wp2
 have hb:Below w.heap.size w (w.alloc (Obj.cells #[Value.int IntKind.i64 g.1,Value.int IntKind.i64 g.2.1, .slice A g.2.2.length cap] 31)):=(by repeat(first | exact Below.refl _ _ | (refine Below.setCell ?_ (by first | omega | (simp<;>omega)) _) | (refine bel_drewN ?_ _) | (refine Below.drew ?_) | (refine Below.alloc ?_ (by first | omega | (simp<;>omega)) _)))
 have k0:(w.alloc (Obj.cells #[Value.int IntKind.i64 g.1,Value.int IntKind.i64 g.2.1, .slice A g.2.2.length cap] 31)).cell? ⟨w.heap.size,0,none⟩=some (.int .i64 g.1):=by simp[go_sem]
 have k1:(w.alloc (Obj.cells #[Value.int IntKind.i64 g.1,Value.int IntKind.i64 g.2.1, .slice A g.2.2.length cap] 31)).cell? ⟨w.heap.size,1,none⟩=some (.int .i64 g.2.1):=by simp[go_sem]
 have k2:(w.alloc (Obj.cells #[Value.int IntKind.i64 g.1,Value.int IntKind.i64 g.2.1, .slice A g.2.2.length cap] 31)).cell? ⟨w.heap.size,2,none⟩=some (.slice A g.2.2.length cap):=by simp[go_sem]
 have hs0:w.heap.size<(w.alloc (Obj.cells #[Value.int IntKind.i64 g.1,Value.int IntKind.i64 g.2.1, .slice A g.2.2.length cap] 31)).heap.size:=by simp
 generalize w.alloc (Obj.cells #[Value.int IntKind.i64 g.1,Value.int IntKind.i64 g.2.1, .slice A g.2.2.length cap] 31)=w1 at hb k0 k1 k2 hs0⊢
 have HB:=hDD hb
 have K0:=hDD k0
 have K1:=hDD k1
 have K2:=hDD k2
 clear hb
 clear k0 k1 k2
 go_loopw [3] (fun i wr=> ∃k:Nat,k≤g.2.2.length∧i= .int .i64 k∧(∀j,j<k→okE g j=true)∧Below w1.heap.size w1 wr) (fun i _=>g.2.2.length-(intOf i).toNat)
 case atStart=>exact⟨0,Nat.zero_le _,rfl,fun j hj=>absurd hj (by omega),Below.refl _ _⟩
 case round=>
  obtain⟨k,hk,rfl,hall,hbel⟩:=hrel
  have HA:=hDD hall
  have HB2:=hDD hbel
  have HB3:=hDD (HB.out.trans (hbel.mono HB.out.size))
  have hsz:=hbel.size
  have p0:=(hbel.cell (p:=⟨w.heap.size,0,none⟩) hs0).trans K0.out
  have p1:=(hbel.cell (p:=⟨w.heap.size,1,none⟩) hs0).trans K1.out
  have p2:=(hbel.cell (p:=⟨w.heap.size,2,none⟩) hs0).trans K2.out
  have hws:w.heap.size<wr.heap.size:=by omega
  by_cases hlt:k<g.2.2.length
  ·obtain⟨b,off,rfl,hbl,c0,c1,c2,_⟩:=(H.out.below HB3.out).at hlt
   have ST:Hid (okE g k=true→ ∀j,j<k+1→okE g j=true):=hDD fun F j hj=>by
    rcases Nat.lt_or_eq_of_le (Nat.le_of_lt_succ hj) with hj | rfl
    ·exact HA.out j hj
    ·exact F
   have FA:Hid (okE g k=false→grB g=false):=hDD (grB_false k hlt)
   clear hall hbel
   by_cases h0:0<k
   ·obtain⟨j,rfl⟩: ∃j,k=j+1:=⟨k-1,by omega⟩
    obtain⟨b2,off2,hA2,_,d0,d1,d2,_⟩:=(H.out.below HB3.out).at (k:=j) (by omega)
    obtain⟨rfl,rfl⟩:b=b2∧off=off2:=by simpa using hA2
    have HZ:Hid (okE g (j+1)=(edgeOk g.1 g.2.1 g.2.2[j+1]&& !decide (0≤cmpE g.2.2[j] g.2.2[j+1]))):=hDD (okE_pos h0 hlt)
    have i0:(0:Int)≤(j:Int):=by omega
    have i1:(j:Int)<(g.2.2.length:Int):=by omega
    have i2:(j:Int)+1<(g.2.2.length:Int):=by omega
    clear hA2 h0
    generalize g.2.2[j]=y at d0 d1 d2 HZ
    generalize g.2.2[j+1]=x at c0 c1 c2 HZ
    have hE:=fun w=>l4Edge_any g.1 g.2.1 (some ⟨b,off,none⟩) g.2.2.length cap x w
    rcases e1:edgeOk g.1 g.2.1 x with _ | _
    ·have F:Hid (okE g (j+1)=false):=hDD (by rw[HZ.out,e1];rfl)
     simp only[e1] at hE
     have HE:=hDD hE
     clear hE
     go_wp2_with fail
     have f0:=BelW.cell p0 (show w.heap.size<wr.heap.size by omega)
     have f1:=BelW.cell p1 (show w.heap.size<wr.heap.size by omega)
     have f2:=BelW.cell p2 (show w.heap.size<wr.heap.size by omega)
     have f3:=BelW.cell c0 (show b<wr.heap.size by omega)
     have f4:=BelW.cell c1 (show b<wr.heap.size by omega)
     have f5:=BelW.cell c2 (show b<wr.heap.size by omega)
     have f6:=BelW.cell d0 (show b<wr.heap.size by omega)
     have f7:=BelW.cell d1 (show b<wr.heap.size by omega)
     have f8:=BelW.cell d2 (show b<wr.heap.size by omega)
     (refine wp_region_quiet_bel (by kernel_rfl) (by kernel_rfl) ?_;(repeat(go_big_quiet_step (first | (go_at_call 128;exact Calls.bel_of (HE.out _)))));refine wpQuiet_nil ?_;intro wq hw';obtain⟨pq,hw''⟩:=hw';have bq:=pq.h;rw[←hw''] at bq;clear hw'' pq)
     clear f0 f1 f2 f3 f4 f5 f6 f7 f8
     go_wp2
     go_ret
     exact⟨ret_bool (FA.out F.out).symm,HB3.out.trans (bq.mono (by omega))⟩
    ·simp only[e1] at hE
     have HE:=hDD hE
     clear hE
     rcases e2:decide (0≤cmpE y x) with _ | _
     ·have F:Hid (okE g (j+1)=true):=hDD (by rw[HZ.out,e1,e2];rfl)
      go_wp2_with fail
      have f0:=BelW.cell p0 (show w.heap.size<wr.heap.size by omega)
      have f1:=BelW.cell p1 (show w.heap.size<wr.heap.size by omega)
      have f2:=BelW.cell p2 (show w.heap.size<wr.heap.size by omega)
      have f3:=BelW.cell c0 (show b<wr.heap.size by omega)
      have f4:=BelW.cell c1 (show b<wr.heap.size by omega)
      have f5:=BelW.cell c2 (show b<wr.heap.size by omega)
      have f6:=BelW.cell d0 (show b<wr.heap.size by omega)
      have f7:=BelW.cell d1 (show b<wr.heap.size by omega)
      have f8:=BelW.cell d2 (show b<wr.heap.size by omega)
      (refine wp_region_quiet_bel (by kernel_rfl) (by kernel_rfl) ?_;(repeat(go_big_quiet_step (first | (go_at_call 128;exact Calls.bel_of (HE.out _)) | (go_at_call 97;exact Calls.bel_of (specCompareEdges_any y x _)))));refine wpQuiet_nil ?_;intro wq hw';obtain⟨pq,hw''⟩:=hw';have bq:=pq.h;rw[←hw''] at bq;clear hw'' pq)
      clear f0 f1 f2 f3 f4 f5 f6 f7 f8
      go_wp2
      go_roundw
      case rel=>exact⟨j+1+1,by omega,by go_num,ST.out F.out,HB2.out.trans (bq.mono (by omega))⟩
      case measure=>simp[intOf];omega
     ·have F:Hid (okE g (j+1)=false):=hDD (by rw[HZ.out,e1,e2];rfl)
      go_wp2_with fail
      have f0:=BelW.cell p0 (show w.heap.size<wr.heap.size by omega)
      have f1:=BelW.cell p1 (show w.heap.size<wr.heap.size by omega)
      have f2:=BelW.cell p2 (show w.heap.size<wr.heap.size by omega)
      have f3:=BelW.cell c0 (show b<wr.heap.size by omega)
      have f4:=BelW.cell c1 (show b<wr.heap.size by omega)
      have f5:=BelW.cell c2 (show b<wr.heap.size by omega)
      have f6:=BelW.cell d0 (show b<wr.heap.size by omega)
      have f7:=BelW.cell d1 (show b<wr.heap.size by omega)
      have f8:=BelW.cell d2 (show b<wr.heap.size by omega)
      (refine wp_region_quiet_bel (by kernel_rfl) (by kernel_rfl) ?_;(repeat(go_big_quiet_step (first | (go_at_call 128;exact Calls.bel_of (HE.out _)) | (go_at_call 97;exact Calls.bel_of (specCompareEdges_any y x _)))));refine wpQuiet_nil ?_;intro wq hw';obtain⟨pq,hw''⟩:=hw';have bq:=pq.h;rw[←hw''] at bq;clear hw'' pq)
      clear f0 f1 f2 f3 f4 f5 f6 f7 f8
      go_wp2
      go_ret
      exact⟨ret_bool (FA.out F.out).symm,HB3.out.trans (bq.mono (by omega))⟩
   ·obtain rfl:k=0:=by omega
    have HZ:=hDD (okE_zero hlt)
    generalize g.2.2[0]=x at c0 c1 c2 HZ
    simp only[Nat.zero_mul,Nat.add_zero] at c0 c1 c2
    have hE:=fun w=>l4Edge_any g.1 g.2.1 (some ⟨b,off,none⟩) g.2.2.length cap x w
    rcases e1:edgeOk g.1 g.2.1 x with _ | _
    ·have F:Hid (okE g 0=false):=hDD (by rw[HZ.out,e1])
     simp only[e1] at hE
     have HE:=hDD hE
     clear hE
     go_wp2_with fail
     have f0:=BelW.cell p0 (show w.heap.size<wr.heap.size by omega)
     have f1:=BelW.cell p1 (show w.heap.size<wr.heap.size by omega)
     have f2:=BelW.cell p2 (show w.heap.size<wr.heap.size by omega)
     have f3:=BelW.cell c0 (show b<wr.heap.size by omega)
     have f4:=BelW.cell c1 (show b<wr.heap.size by omega)
     have f5:=BelW.cell c2 (show b<wr.heap.size by omega)
     (refine wp_region_quiet_bel (by kernel_rfl) (by kernel_rfl) ?_;(repeat(go_big_quiet_step (first | (go_at_call 128;exact Calls.bel_of (HE.out _)))));refine wpQuiet_nil ?_;intro wq hw';obtain⟨pq,hw''⟩:=hw';have bq:=pq.h;rw[←hw''] at bq;clear hw'' pq)
     clear f0 f1 f2 f3 f4 f5
     go_wp2
     go_ret
     exact⟨ret_bool (FA.out F.out).symm,HB3.out.trans (bq.mono (by omega))⟩
    ·have F:Hid (okE g 0=true):=hDD (by rw[HZ.out,e1])
     simp only[e1] at hE
     have HE:=hDD hE
     clear hE
     go_wp2_with fail
     have f0:=BelW.cell p0 (show w.heap.size<wr.heap.size by omega)
     have f1:=BelW.cell p1 (show w.heap.size<wr.heap.size by omega)
     have f2:=BelW.cell p2 (show w.heap.size<wr.heap.size by omega)
     have f3:=BelW.cell c0 (show b<wr.heap.size by omega)
     have f4:=BelW.cell c1 (show b<wr.heap.size by omega)
     have f5:=BelW.cell c2 (show b<wr.heap.size by omega)
     (refine wp_region_quiet_bel (by kernel_rfl) (by kernel_rfl) ?_;(repeat(go_big_quiet_step (first | (go_at_call 128;exact Calls.bel_of (HE.out _)))));refine wpQuiet_nil ?_;intro wq hw';obtain⟨pq,hw''⟩:=hw';have bq:=pq.h;rw[←hw''] at bq;clear hw'' pq)
     clear f0 f1 f2 f3 f4 f5
     go_wp2
     go_roundw
     case rel=>exact⟨1,by omega,by go_num,ST.out F.out,HB2.out.trans (bq.mono (by omega))⟩
     case measure=>simp[intOf];omega
  ·obtain rfl:k=g.2.2.length:=by omega
   have F:=hDD (grB_eq HA.out)
   clear hall hbel
   rcases e1:inB g.1 1 3 with _ | _
   ·go_wp2_with (go_at_call 57;refine(l1In_any _ _ _ _).mono ?_;rintro e w' ⟨rfl,rfl⟩)
    go_ret
    exact⟨ret_bool (by rw[F.out,e1];rfl),HB3.out⟩
   ·rcases e2:inB g.2.1 1 40 with _ | _
    ·go_wp2_with (go_at_call 57;refine(l1In_any _ _ _ _).mono ?_;rintro e w' ⟨rfl,rfl⟩)
     go_ret
     exact⟨ret_bool (by rw[F.out,e1,e2];rfl),HB3.out⟩
    ·by_cases h3:g.2.2.length≤120
     ·go_wp2_with (go_at_call 57;refine(l1In_any _ _ _ _).mono ?_;rintro e w' ⟨rfl,rfl⟩)
      go_ret
      exact⟨ret_bool (by rw[F.out,e1,e2];simp;omega),HB3.out⟩
     ·go_wp2_with (go_at_call 57;refine(l1In_any _ _ _ _).mono ?_;rintro e w' ⟨rfl,rfl⟩)
      go_ret
      exact⟨ret_bool (by rw[F.out,e1,e2];simp;omega),HB3.out⟩
end Go.Proofs.YtfadnkjlilhneaaGreat
