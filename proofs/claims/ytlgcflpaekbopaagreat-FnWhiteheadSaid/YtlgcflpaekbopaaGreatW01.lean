/- Parts of the proof: Base, Law, Num, OwnF, Draw, Gr, Cmp, GrA, Ord, QuiC, GrG, GrH, GrB, Has, GrD, GrC, GrF, Let, CanP, Walk. -/
import Derived.Test.YtlgcflpaekbopaaGreatProg
import Derived.WalkKit
import Derived.WalkSpells
import Derived.WalkLawsBesides
import Derived.Lib.Hide
import Derived.Maps.AppendAt
import Derived.Deep.AppendLies
import Derived.RegionTactic
import Derived.Deep.QuietTactic
import Derived.BigQuiet
import Derived.Deep.RegionHeld3
import Derived.Outline
import Derived.Laws.StructEq
namespace Go.Proofs.YtlgcflpaekbopaaGreat
open Go.RowKit
theorem hDD {P : Prop} (h : P) : Hid P := Lib.hid h
end Go.Proofs.YtlgcflpaekbopaaGreat
namespace Go.Proofs.YtlgcflpaekbopaaGreat
set_option maxRecDepth 20000
set_option linter.unusedVariables false
set_option linter.unusedSimpArgs false
open Go.RowKit
def I64 (n:Int):Prop:= -9223372036854775808≤n∧n≤9223372036854775807
abbrev I64s (xs:List Int):Prop:= ∀x∈xs,I64 x
abbrev ints (xs:List Int):List Value:=xs.map (Value.int .i64)
theorem ints_length (xs:List Int):(ints xs).length=xs.length:=by simp[ints]
theorem ints_get (xs:List Int) (i:Nat) (h:i<xs.length):(ints xs)[i]'(by simpa[ints] using h)= .int .i64 xs[i]:=by simp[ints]
def RdV (t:TypeId) (size:Nat) (w:World) (v:Value) (n:Nat) (cs:List Value):Prop:=
 cs.length=n*size∧ ∃A cap,v= .slice A n cap∧n≤cap∧cap≤maxLen∧(A=none→cap=0)∧
  (0<n→ ∃b off cur fr,A=some ⟨b,off,none⟩∧w.heap[b]? =some (.cells cur t fr)∧ ∀i (hi:i<cs.length),cur[off+i]? =some cs[i])
def RdI (w:World) (v:Value) (xs:List Int):Prop:=RdV 3 1 w v xs.length (ints xs)∧I64s xs
def OwI (w:World) (base:Nat) (v:Value) (xs:List Int):Prop:=w.ownsRow base 3 1 v xs.length (ints xs)∧I64s xs
def RdII (w:World) (v:Value) (L:List (List Int)):Prop:=
 ∃vs:List Value,vs.length=L.length∧RdV 24 1 w v L.length vs∧ ∀i (h:i<L.length) (h':i<vs.length),RdI w vs[i] L[i]
def ArgI (w:World) (v:Value) (xs:List Int):Prop:=
 ∃A cap,v= .slice A xs.length cap∧xs.length≤cap∧cap≤maxLen∧I64s xs∧
  (0<xs.length→ ∃b off,A=some ⟨b,off,none⟩∧ ∀i (hi:i<xs.length),w.cell? ⟨b,off+i,none⟩=some (.int .i64 xs[i]))
theorem int_info:(Tryz.prog.info? 3).map (fun i=>(i.zero,i.size,i.bytes))=some (some (.int .i64 0),1,8):=by kernel_rfl
section
variable {t:TypeId} {size:Nat} {w w':World} {v:Value} {n:Nat} {cs:List Value} {xs:List Int} {base:Nat}
theorem lt_of_heap {b:Nat} {o:Obj} (h:w.heap[b]? =some o):b<w.heap.size:=by
 rcases Nat.lt_or_ge b w.heap.size with h' | h'
 ·exact h'
 ·rw[Array.getElem?_eq_none h'] at h;cases h
theorem RdV.mono (h:RdV t size w v n cs) (hk: ∀b,v.ownBlock=some b→b<w.heap.size→w'.heap[b]? =w.heap[b]?):RdV t size w' v n cs:=by
 obtain⟨hl,A,cap,hv,hc,hm,hn,hb⟩:=h
 refine⟨hl,A,cap,hv,hc,hm,hn,fun h0=> ?_⟩
 obtain⟨b,off,cur,fr,hA,hh,hx⟩:=hb h0
 exact⟨b,off,cur,fr,hA,by rw[hk b (by rw[hv,hA];rfl) (lt_of_heap hh)];exact hh,hx⟩
theorem RdV.below (h:RdV t size w v n cs) (hb:Below w.heap.size w w'):RdV t size w' v n cs:=h.mono fun b _ hlt=>hb.block b hlt
theorem RdV.alloc (h:RdV t size w v n cs) (o:Obj):RdV t size (w.alloc o) v n cs:=h.mono fun b _ hlt=>Below.heap_alloc w o b hlt
theorem RdV.grown (h:RdV t size w v n cs) {row:Option Nat} (hg:w.grownBy w' row) (hne: ∀b,v.ownBlock=some b→row=some b→False):RdV t size w' v n cs:=
 h.mono fun b hv hlt=>hg.block b hlt (fun e=>hne b hv e.symm)
theorem RdV.grown_ty (h:RdV t size w v n cs) {e:TypeId} {sz m:Nat} {u:Value} {ds:List Value} (ho:w.ownsRow base e sz u m ds) (hne:e≠t) (hg:w.grownBy w' u.ownBlock):RdV t size w' v n cs:=by
 obtain⟨hl,A,cap,hv,hc,hm,hn,hb⟩:=h
 refine⟨hl,A,cap,hv,hc,hm,hn,fun h0=> ?_⟩
 obtain⟨b,off,cur,fr,hA,hh,hx⟩:=hb h0
 refine⟨b,off,cur,fr,hA,?_,hx⟩
 rw[hg.block b (lt_of_heap hh)]
 ·exact hh
 ·intro hu
  rcases ho.2 with ⟨rfl,_⟩ | ⟨g,cap',cur',rfl,_,hh',_⟩
  ·cases hu
  ·obtain rfl:b=g:=by simpa[Value.ownBlock] using hu
   rw[hh'] at hh
   injection hh with hh
   injection hh with _ ht
   exact hne ht
theorem RdV.of_own (h:w.ownsRow base t size v n cs):RdV t size w v n cs:=by
 refine⟨h.1,?_⟩
 rcases h.2 with ⟨rfl,rfl⟩ | ⟨g,cap,cur,rfl,hg,hh,hnc,hcm,hcs,htake⟩
 ·exact⟨none,0,rfl,Nat.le_refl _,by simp[maxLen],fun _=>rfl,fun h=>absurd h (by simp)⟩
 ·refine⟨_,cap,rfl,hnc,hcm,(fun h=>by cases h),fun _=>⟨g,0,cur,_,rfl,hh,fun i hi=> ?_⟩⟩
  have hi':i<n*size:=by rw[←h.1];exact hi
  have:(cur.toList.take (n*size))[i]? =cs[i]? :=by rw[htake]
  rw[List.getElem?_take,if_pos hi'] at this
  simpa[hi] using this
theorem RdV.cell (h:RdV t size w v n cs): ∃A cap,v= .slice A n cap∧n≤cap∧cap≤maxLen∧(A=none→cap=0)∧
  (0<n→ ∃b off,A=some ⟨b,off,none⟩∧b<w.heap.size∧ ∀i (hi:i<cs.length),w.cell? ⟨b,off+i,none⟩=some cs[i]):=by
 obtain⟨hl,A,cap,hv,hc,hm,hn,hb⟩:=h
 refine⟨A,cap,hv,hc,hm,hn,fun h0=> ?_⟩
 obtain⟨b,off,cur,fr,hA,hh,hx⟩:=hb h0
 exact⟨b,off,hA,lt_of_heap hh,fun i hi=>by rw[cell_of_row w b (off+i) cur _ fr hh];exact hx i hi⟩
theorem OwI.set {g cap:Nat} (h:OwI w base (.slice (some ⟨g,0,none⟩) n cap) xs) (j:Nat) (z:Int) (hz:I64 z):
  OwI (w.setCell ⟨g,j,none⟩ (.int .i64 z)) base (.slice (some ⟨g,0,none⟩) n cap) (xs.set j z)∧w.grownBy (w.setCell ⟨g,j,none⟩ (.int .i64 z)) (some g):=by
 have hn:n=xs.length:=by
  rcases h.1.2 with ⟨hv,_⟩ | ⟨g',cap',cur,hv,_⟩
  ·cases hv
  ·injection hv
 subst hn
 obtain⟨h1,h2⟩:=h.1.stored j (.int .i64 z)
 refine⟨⟨?_,fun y hy=> ?_⟩,h2⟩
 ·rw[List.length_set]
  simpa[ints,List.map_set] using h1
 ·rcases List.mem_or_eq_of_mem_set hy with hy | rfl
  ·exact h.2 y hy
  ·exact hz
theorem OwI.cellAt {g cap:Nat} (h:OwI w base (.slice (some ⟨g,0,none⟩) n cap) xs) (j:Nat) (hj:j<xs.length):w.cell? ⟨g,j,none⟩=some (.int .i64 xs[j]):=by
 have hn:n=xs.length:=by
  rcases h.1.2 with ⟨hv,_⟩ | ⟨g',cap',cur,hv,_⟩
  ·cases hv
  ·injection hv
 subst hn
 rw[h.1.cellAt j (by omega)]
 simp[ints,hj]
theorem OwI.free {g cap:Nat} (h:OwI w base (.slice (some ⟨g,0,none⟩) n cap) xs) (j:Nat):w.frozen? ⟨g,j,none⟩=false:=by
 have hn:n=xs.length:=by
  rcases h.1.2 with ⟨hv,_⟩ | ⟨g',cap',cur,hv,_⟩
  ·cases hv
  ·injection hv
 subst hn
 exact h.1.frozenAt j
theorem RdV.cut (h:RdV t 1 w v n cs) {k cap:Nat} {A:Option Addr} (hv:v= .slice A n cap) (hk:k≤n):
  RdV t 1 w (.slice (if cap=k then A else A.map (·.add k)) (n-k) (cap-k)) (n-k) (cs.drop k):=by
 obtain⟨hl,A',cap',hv',hc,hm,hn,hb⟩:=h
 rw[hv'] at hv
 obtain⟨rfl,-,rfl⟩:A'=A∧True∧cap'=cap:=by simpa using hv
 refine⟨by simp[hl],_,_,rfl,by omega,by omega,?_,fun h0=> ?_⟩
 ·split
  ·omega
  ·intro h;cases A' with
   | none=>have:=hn rfl;omega
   | some a=>cases h
 ·obtain⟨b,off,cur,fr,rfl,hh,hx⟩:=hb (by omega)
  rw[if_neg (by omega)]
  refine⟨b,off+k,cur,fr,by simp[Addr.add_lit],hh,fun i hi=> ?_⟩
  rw[List.getElem_drop,Nat.add_assoc]
  exact hx _ _
theorem RdV.head (h:RdV t 1 w v n cs) {k cap:Nat} {A:Option Addr} (hv:v= .slice A n cap) (hk:k≤n):RdV t 1 w (.slice A k cap) k (cs.take k):=by
 obtain⟨hl,A',cap',hv',hc,hm,hn,hb⟩:=h
 rw[hv'] at hv
 obtain⟨rfl,-,rfl⟩:A'=A∧True∧cap'=cap:=by simpa using hv
 refine⟨by simp[hl];omega,_,_,rfl,by omega,hm,hn,fun h0=> ?_⟩
 obtain⟨b,off,cur,fr,rfl,hh,hx⟩:=hb (by omega)
 refine⟨b,off,cur,fr,rfl,hh,fun i hi=> ?_⟩
 rw[List.getElem_take]
 exact hx _ _
theorem RdI.arg (h:RdI w v xs):ArgI w v xs:=by
 obtain⟨A,cap,hv,hc,hm,_,hb⟩:=h.1.cell
 refine⟨A,cap,hv,hc,hm,h.2,fun h0=> ?_⟩
 obtain⟨b,off,hA,_,hx⟩:=hb h0
 refine⟨b,off,hA,fun i hi=> ?_⟩
 rw[hx i (by rw[ints_length];exact hi),ints_get]
theorem RdI.at {A:Option Addr} {m cap:Nat} (h:RdI w (.slice A m cap) xs) (h0:0<xs.length):
  ∃b off,A=some ⟨b,off,none⟩∧b<w.heap.size∧ ∀i (hi:i<xs.length),w.cell? ⟨b,off+i,none⟩=some (.int .i64 xs[i]):=by
 obtain⟨A',cap',hv,hc,hm,_,hb⟩:=h.1.cell
 obtain⟨b,off,hA,hlt,hx⟩:=hb h0
 injection hv with hv
 refine⟨b,off,hv.trans hA,hlt,fun i hi=> ?_⟩
 rw[hx i (by rw[ints_length];exact hi),ints_get]
theorem RdI.below (h:RdI w v xs) (hb:Below w.heap.size w w'):RdI w' v xs:=⟨h.1.below hb,h.2⟩
theorem RdI.drewN (h:RdI w v xs) (n:Nat):RdI (w.drewN n) v xs:=h
theorem RdI.drew (h:RdI w v xs):RdI w.drew v xs:=h
theorem RdI.alloc (h:RdI w v xs) (o:Obj):RdI (w.alloc o) v xs:=⟨h.1.alloc o,h.2⟩
theorem RdI.grown (h:RdI w v xs) {row:Option Nat} (hg:w.grownBy w' row) (hne: ∀b,v.ownBlock=some b→row=some b→False):RdI w' v xs:=⟨h.1.grown hg hne,h.2⟩
theorem RdI.cut (h:RdI w v xs) {k cap:Nat} {A:Option Addr} (hv:v= .slice A xs.length cap) (hk:k≤xs.length):
  RdI w (.slice (if cap=k then A else A.map (·.add k)) (xs.length-k) (cap-k)) (xs.drop k):=by
 refine⟨?_,fun x hx=>h.2 x (List.mem_of_mem_drop hx)⟩
 have:=h.1.cut hv hk
 simpa[ints] using this
theorem RdI.head (h:RdI w v xs) {k cap:Nat} {A:Option Addr} (hv:v= .slice A xs.length cap) (hk:k≤xs.length):RdI w (.slice A k cap) (xs.take k):=by
 refine⟨?_,fun x hx=>h.2 x (List.mem_of_mem_take hx)⟩
 have:=h.1.head hv hk
 simpa[ints,Nat.min_eq_left hk] using this
theorem RdII.below {L:List (List Int)} (h:RdII w v L) (hb:Below w.heap.size w w'):RdII w' v L:=by
 obtain⟨vs,h1,h2,h3⟩:=h
 exact⟨vs,h1,h2.below hb,fun i hi hi'=>(h3 i hi hi').below hb⟩
theorem RdII.form {L:List (List Int)} (h:RdII w v L): ∃A cap,v= .slice A L.length cap∧L.length≤cap∧cap≤maxLen∧(A=none→cap=0):=by
 obtain⟨vs,h1,h2,h3⟩:=h
 obtain⟨A,cap,hv,hc,hm,hn,_⟩:=h2.cell
 exact⟨A,cap,hv,hc,hm,hn⟩
theorem RdII.at {A:Option Addr} {m cap:Nat} {L:List (List Int)} (h:RdII w (.slice A m cap) L) {k:Nat} (hk:k<L.length):
  ∃b off A1 cap1,A=some ⟨b,off,none⟩∧b<w.heap.size∧w.cell? ⟨b,off+k,none⟩=some (.slice A1 L[k].length cap1)∧L[k].length≤cap1∧cap1≤maxLen∧RdI w (.slice A1 L[k].length cap1) L[k]:=by
 obtain⟨vs,h1,h2,h3⟩:=h
 obtain⟨A',cap',hv,hc,hm,_,hb⟩:=h2.cell
 obtain⟨b,off,hA,hlt,hx⟩:=hb (by omega)
 injection hv with hv
 have hr:=h3 k hk (by omega)
 obtain⟨A1,cap1,hv1,hc1,hm1,_⟩:=hr.1.cell
 refine⟨b,off,A1,cap1,hv.trans hA,hlt,?_,hc1,hm1,?_⟩
 ·rw[hx k (by omega),hv1]
 ·rw[←hv1];exact hr
theorem OwI.rd (h:OwI w base v xs):RdI w v xs:=⟨RdV.of_own h.1,h.2⟩
theorem OwI.arg (h:OwI w base v xs):ArgI w v xs:=h.rd.arg
theorem OwI.mono {base':Nat} (h:OwI w base v xs) (hb:base'≤base):OwI w base' v xs:=by
 refine⟨⟨h.1.1,?_⟩,h.2⟩
 rcases h.1.2 with h0 | ⟨g,cap,cur,hv,hg,r⟩
 ·exact .inl h0
 ·exact .inr ⟨g,cap,cur,hv,Nat.le_trans hb hg,r⟩
theorem ownsRow_below {e:TypeId} {sz:Nat} (h:w.ownsRow base e sz v n cs) (hb:Below w.heap.size w w'):w'.ownsRow base e sz v n cs:=by
 refine⟨h.1,?_⟩
 rcases h.2 with h0 | ⟨g,cap,cur,hv,hg,hh,r⟩
 ·exact .inl h0
 ·exact .inr ⟨g,cap,cur,hv,hg,by rw[hb.block g (lt_of_heap hh)];exact hh,r⟩
theorem OwI.drew (h:OwI w base v xs):OwI w.drew base v xs:=h
theorem OwI.far (h:OwI w base v xs) {p:Addr} (hp:p.block<base) (u:Value):OwI (w.setCell p u) base v xs:=⟨ownsRow_setCell_below h.1 hp u,h.2⟩
theorem OwI.below (h:OwI w base v xs) (hb:Below w.heap.size w w'):OwI w' base v xs:=⟨ownsRow_below h.1 hb,h.2⟩
theorem OwI.drewN (h:OwI w base v xs) (k:Nat):OwI (w.drewN k) base v xs:=h
theorem OwI.kept {row:Option Nat} (h:OwI w base v xs) (hg:w.grownBy w' row) (hne:v.ownBlock=none∨v.ownBlock≠row):OwI w' base v xs:=⟨h.1.kept hg hne,h.2⟩
theorem owns_form {e:TypeId} {sz:Nat} (h:w.ownsRow base e sz v n cs): ∃A cap,v= .slice A n cap∧n≤cap∧cap≤maxLen∧(A=none→cap=0)∧(0<n→ ∃g,A=some ⟨g,0,none⟩∧base≤g∧g<w.heap.size):=by
 rcases h.2 with ⟨rfl,rfl⟩ | ⟨g,cap,cur,rfl,hg,hh,hnc,hcm,_⟩
 ·exact⟨none,0,rfl,Nat.le_refl _,by simp[maxLen],fun _=>rfl,fun h=>absurd h (by simp)⟩
 ·exact⟨_,cap,rfl,hnc,hcm,(fun h=>by cases h),fun _=>⟨g,rfl,hg,lt_of_heap hh⟩⟩
theorem owns_head {e:TypeId} {sz:Nat} (h:w.ownsRow base e sz v n cs) {A:Option Addr} {cap k:Nat} (hv:v= .slice A n cap) (hk:k≤n):w.ownsRow base e sz (.slice A k cap) k (cs.take (k*sz)):=by
 refine⟨by rw[List.length_take,h.1];exact Nat.min_eq_left (Nat.mul_le_mul_right _ hk),?_⟩
 rcases h.2 with ⟨hv',rfl⟩ | ⟨g,cap',cur,hv',hg,hh,hnc,hcm,hcs,htake⟩
 ·rw[hv'] at hv
  obtain⟨rfl,-,rfl⟩:none=A∧True∧0=cap:=by simpa using hv
  exact .inl ⟨by obtain rfl:k=0:=by omega
                 rfl,by omega⟩
 ·rw[hv'] at hv
  obtain⟨rfl,-,rfl⟩:some ⟨g,0,none⟩=A∧True∧cap'=cap:=by simpa using hv
  refine .inr ⟨g,_,cur,rfl,hg,hh,by omega,hcm,hcs,?_⟩
  rw[←htake,List.take_take,Nat.min_eq_left (Nat.mul_le_mul_right _ hk)]
theorem ArgI.below (h:ArgI w v xs) (hb:Below w.heap.size w w'):ArgI w' v xs:=by
 obtain⟨A,cap,hv,hc,hm,hr,hx⟩:=h
 refine⟨A,cap,hv,hc,hm,hr,fun h0=> ?_⟩
 obtain⟨b,off,hA,hx⟩:=hx h0
 exact⟨b,off,hA,fun i hi=>(hb.cell (World.block_lt_of_cell? w _ (hx i hi))).trans (hx i hi)⟩
theorem bel_drewN {B:Nat} {a:World} (h:Below B a w) (k:Nat):Below B a (w.drewN k):=⟨h.os,h.tape,h.output,h.size,h.block⟩
end
theorem quiet_add_left {P:Program} {f:FuncId} {args:Array Value} {w:World} {a n:Nat} {v:Value}
  (h:Calls P f args (w.drewN (a+n)) fun e w'=>e= .returned v∧w.drewN (a+n)=w'):
  Calls P f args (w.drewN (a+n)) fun e w''=>e= .returned v∧ ∃m,w''=w.drewN (a+m):=
 h.mono fun _ _ ⟨he,hm⟩=>⟨he,n,hm.symm⟩
theorem quiet_left {P:Program} {f:FuncId} {args:Array Value} {w:World} {n:Nat} {v:Value}
  (h:Calls P f args (w.drewN n) fun e w'=>e= .returned v∧w.drewN n=w'):Calls P f args (w.drewN n) fun e w''=>e= .returned v∧ ∃m,w''=w.drewN m:=
 h.mono fun _ _ ⟨he,hm⟩=>⟨he,n,hm.symm⟩
theorem I64_wrap0 (x:Int):I64 (wrap64 x):=by
 unfold I64 wrap64;omega
theorem wrap_i64_eq (x:Int):IntKind.i64.wrap x=wrap64 x:=by
 rw[IntKind.wrap_i64];unfold wrap64;rfl
theorem I64s_nil:I64s []:=fun _ h=>by cases h
theorem OwI_lit (w:World) (xs:List Int) (hx:I64s xs) (hl:xs.length≤1099511627776) {base:Nat} (hb:base≤w.heap.size):OwI (w.alloc (.cells (ints xs).toArray 3)) base (.slice (some ⟨w.heap.size,0,none⟩) xs.length xs.length) xs:=
 ⟨by have:=World.ownsRow_lit (e:=3) (size:=1) w (ints xs).toArray xs.length hb (by unfold maxLen;omega) (by simp);simpa using this,hx⟩
theorem OwI_litN (w:World) (xs:List Int) (N:Nat) (hN:w.heap.size=N) (hx:I64s xs) (hl:xs.length≤1099511627776) {base:Nat} (hb:base≤N):OwI (w.alloc (.cells (ints xs).toArray 3)) base (.slice (some ⟨N,0,none⟩) xs.length xs.length) xs:=by
 subst hN;exact OwI_lit w xs hx hl hb
theorem bcell {W w1:World} (hb:Below W.heap.size W w1):(∀b o,b<W.heap.size→w1.cell? ⟨b,o,none⟩=W.cell? ⟨b,o,none⟩)∧(∀b o,b<W.heap.size→w1.frozen? ⟨b,o,none⟩=W.frozen? ⟨b,o,none⟩):=
 ⟨fun b o h=>hb.cell (p:=⟨b,o,none⟩) h,fun b o h=>hb.frozen (p:=⟨b,o,none⟩) h⟩
theorem bcellN {N:Nat} {W w1:World} (hb:Below N W w1):(∀b o,b<N→w1.cell? ⟨b,o,none⟩=W.cell? ⟨b,o,none⟩)∧(∀b o,b<N→w1.frozen? ⟨b,o,none⟩=W.frozen? ⟨b,o,none⟩):=
 ⟨fun b o h=>hb.cell (p:=⟨b,o,none⟩) h,fun b o h=>hb.frozen (p:=⟨b,o,none⟩) h⟩
theorem ret_bool {a b:Bool} (h:a=b):Ending.returned (.bool a)= .returned (.bool b):=by rw[h]
theorem ret_int {k:IntKind} {a b:Int} (h:a=b):Ending.returned (.int k a)= .returned (.int k b):=by rw[h]
theorem take_eq_succ {α} {xs ys:List α} {k:Nat} (h:xs.take k=ys.take k) (hx:k<xs.length) (hy:k<ys.length) (he:xs[k]=ys[k]):xs.take (k+1)=ys.take (k+1):=by
 rw[List.take_succ_eq_append_getElem hx,List.take_succ_eq_append_getElem hy,h,he]
theorem cell_new1 (w:World) (u:Value) (t:TypeId):(w.alloc (.cells #[u] t)).cell? ⟨w.heap.size,0,none⟩=some u:=by
 exact cell_one_new w u t 0 u rfl
theorem OwI.alloc {w:World} {base:Nat} {v:Value} {xs:List Int} (h:OwI w base v xs) (o:Obj):OwI (w.alloc o) base v xs:=⟨h.1.alloc o,h.2⟩
theorem push_int {w:World} {ops:Array Oper} {rest:List Oper} {o:Oper} {a:Act} {Q:Exit→Act→World→Prop} (hgd:o.guard=none) (s x:Operand)
  (ho:o.op= .call {callee:= .builtin .append,args:= #[s,x],argTypes:= #[24,24]})
  (base:Nat) (v:Value) (xs:List Int) (hown:OwI w base v xs) (hs:a.eval s=v) (b:Nat) (z:Int) (hx:a.eval x= .slice (some ⟨b,0,none⟩) 1 1)
  (hc:w.cell? ⟨b,0,none⟩=some (.int .i64 z)) (hz:I64 z) (hl:xs.length≤1099511627776) (hbase:base≤w.heap.size)
  (h: ∀v' w',OwI w' base v' (xs++ [z])→w.grownBy w' v.ownBlock→(v'.ownBlock=v.ownBlock∨v'.ownBlock=some w.heap.size)→wpList Tryz.prog ops Q rest (a.put o.dst v') w'):
  wpList Tryz.prog ops Q (o::rest) a w:=by
 obtain⟨i0,hi0,hz0,hz1,hz2⟩:=info_parts int_info
 refine wpList_append_own_at _ hgd s x 24 ho base 3 i0 (.int .i64 0) 1 8 Tryz.underlying24 hi0 hz0 hz1 hz2 rfl (by decide) v xs.length (ints xs) hs hown.1 ⟨b,0,none⟩ 1 1 [.int .i64 z] hx rfl ?_ ?_ (by unfold maxLen;omega) (by omega) hbase ?_
 ·intro j u hj
  match j,hj with
  | 0,hj=>simp at hj;subst hj;simpa[Addr.add] using hc
 ·intro u hu;simp at hu;subst hu;rfl
 ·intro v' w' h1 h2 h3 h5
  exact h v' w' ⟨by simpa[ints] using h1,fun y hy=>by
   rcases List.mem_append.1 hy with hy | hy
   ·exact hown.2 y hy
   ·simp at hy;subst hy;exact hz⟩ h2 h5
theorem owI_cut {w:World} {base:Nat} {A:Option Addr} {n cap:Nat} {xs:List Int} (h:OwI w base (.slice A n cap) xs) {k:Nat} (hk:k≤xs.length):OwI w base (.slice A k cap) (xs.take k):=by
 obtain⟨A',cap',hv,_⟩:=owns_form h.1
 injection hv with h1 h2 h3
 subst h2
 refine⟨?_,fun x hx=>h.2 x (List.mem_of_mem_take hx)⟩
 have:=owns_head h.1 (k:=k) rfl hk
 simpa[ints,Nat.min_eq_left hk] using this
theorem OwI.form {w:World} {base:Nat} {v:Value} {xs:List Int} (h:OwI w base v xs): ∃A cap,v= .slice A xs.length cap∧xs.length≤cap∧cap≤maxLen∧(A=none→cap=0)∧(0<xs.length→ ∃g,A=some ⟨g,0,none⟩∧base≤g∧g<w.heap.size):=owns_form h.1
theorem wp_append_ints {w:World} {o:Oper} {a:Act} {K:Act→World→Prop} {Q:Exit→Act→World→Prop} (s x:Operand)
  (ho:o.op= .call {callee:= .builtin .append,args:= #[s,x],argTypes:= #[24,24]})
  (base:Nat) (v:Value) (xs:List Int) (hown:OwI w base v xs) (hs:a.eval s=v) (u:Value) (ys:List Int) (hr:RdI w u ys) (hx:a.eval x=u)
  (hl:xs.length+ys.length≤1099511627776) (hbase:base≤w.heap.size)
  (h: ∀v' w',OwI w' base v' (xs++ys)→w.grownBy w' v.ownBlock→(v'.ownBlock=v.ownBlock∨v'.ownBlock=some w.heap.size)→K (a.put o.dst v') w'):
  o.wp Tryz.prog a w K Q:=by
 obtain⟨i0,hi0,hz0,hz1,hz2⟩:=info_parts int_info
 obtain⟨A,cap,rfl,hc,hm,hn,hb⟩:=hr.1.cell
 rcases A with _ | ad
 ·have h0:ys= []:=List.eq_nil_of_length_eq_zero (by
   rcases Nat.eq_zero_or_pos ys.length with h0 | h0
   ·exact h0
   ·obtain⟨_,_,h,_⟩:=hb h0;cases h)
  subst h0
  obtain rfl:=hn rfl
  have hrun:=run_append_owned_none (P:=Tryz.prog) w base 24 o.type 3 i0 1 Tryz.underlying24 hi0 v xs.length (ints xs) hown.1
  unfold Oper.wp execOp
  simp only[ho,resolve,invoke,builtin,Sem.run_bind,Sem.run_pure,Result.andThen_ok,List.map_toArray,List.map_cons,List.map_nil,hs,hx,List.length_nil,hrun]
  exact h v w (by simpa using hown) (World.grownBy.refl _ _) (.inl rfl)
 ·obtain⟨v',w',hrun,h1,h2,_,h5⟩:=run_append_own_at (P:=Tryz.prog) w base 24 o.type 3 i0 (.int .i64 0) 1 8 Tryz.underlying24 hi0 hz0 hz1 hz2 rfl (by decide) v xs.length (ints xs) hown.1 ad ys.length cap (ints ys) (by simp) (by
   intro j y hj
   have hj':j<ys.length:=by simpa using (List.getElem?_eq_some_iff.1 hj).1
   obtain⟨b,off,had,_,hcl⟩:=hb (by omega)
   have had:=Option.some.inj had
   subst had
   rw[Addr.add_lit,hcl j (by simpa using hj'),←hj]
   simp[hj']) (ints_oneCell _ _) (by unfold maxLen;omega) (by omega) hbase
  unfold Oper.wp execOp
  simp only[ho,resolve,invoke,builtin,Sem.run_bind,Sem.run_pure,Result.andThen_ok,List.map_toArray,List.map_cons,List.map_nil,hs,hx,hrun]
  exact h v' w' ⟨by simpa[ints] using h1,fun y hy=>by
   rcases List.mem_append.1 hy with hy | hy
   ·exact hown.2 y hy
   ·exact hr.2 y hy⟩ h2 h5
theorem append_ints {w:World} {ops:Array Oper} {rest:List Oper} {o:Oper} {a:Act} {Q:Exit→Act→World→Prop} (hgd:o.guard=none) (s x:Operand)
  (ho:o.op= .call {callee:= .builtin .append,args:= #[s,x],argTypes:= #[24,24]})
  (base:Nat) (v:Value) (xs:List Int) (hown:OwI w base v xs) (hs:a.eval s=v) (u:Value) (ys:List Int) (hr:RdI w u ys) (hx:a.eval x=u)
  (hl:xs.length+ys.length≤1099511627776) (hbase:base≤w.heap.size)
  (h: ∀v' w',OwI w' base v' (xs++ys)→w.grownBy w' v.ownBlock→(v'.ownBlock=v.ownBlock∨v'.ownBlock=some w.heap.size)→wpList Tryz.prog ops Q rest (a.put o.dst v') w'):
  wpList Tryz.prog ops Q (o::rest) a w:=
 wpList_plain hgd fun _ hK=>wp_append_ints s x ho base v xs hown hs u ys hr hx hl hbase fun v' w' h1 h2 h3=>hK _ _ (h v' w' h1 h2 h3)
theorem step_append_ints {w:World} {ops:Array Oper} {o:Oper} {a:Act} {K:Act→World→Prop} {Q:Exit→Act→World→Prop} {E:Prop} (hgd:o.guard=none) (s x:Operand)
  (ho:o.op= .call {callee:= .builtin .append,args:= #[s,x],argTypes:= #[24,24]})
  (base:Nat) (v:Value) (xs:List Int) (hown:OwI w base v xs) (hs:a.eval s=v) (u:Value) (ys:List Int) (hr:RdI w u ys) (hx:a.eval x=u)
  (hl:xs.length+ys.length≤1099511627776) (hbase:base≤w.heap.size)
  (h: ∀v' w',OwI w' base v' (xs++ys)→w.grownBy w' v.ownBlock→(v'.ownBlock=v.ownBlock∨v'.ownBlock=some w.heap.size)→K (a.put o.dst v') w'):
  if Region.wanted o (yielded ops a.tmps)=true then Oper.wp Tryz.prog o a w K Q else E:=by
 have hw:Region.wanted o (yielded ops a.tmps)=true:=by simp[Region.wanted,hgd]
 rw[if_pos hw]
 exact wp_append_ints s x ho base v xs hown hs u ys hr hx hl hbase h
theorem ints_info:(Tryz.prog.info? 24).map (fun i=>(i.zero,i.size,i.bytes))=some (some (.slice none 0 0),1,24):=by kernel_rfl
theorem push_row {w:World} {ops:Array Oper} {rest:List Oper} {o:Oper} {a:Act} {Q:Exit→Act→World→Prop} (hgd:o.guard=none) (s x:Operand)
  (ho:o.op= .call {callee:= .builtin .append,args:= #[s,x],argTypes:= #[29,29]})
  (base:Nat) (v:Value) (n:Nat) (vs:List Value) (hown:w.ownsRow base 24 1 v n vs) (hs:a.eval s=v) (b:Nat) (z:Value) (hx:a.eval x= .slice (some ⟨b,0,none⟩) 1 1)
  (hc:w.cell? ⟨b,0,none⟩=some z) (hz:z.oneCell'=true) (hl:n≤1099511627776) (hbase:base≤w.heap.size)
  (h: ∀v' w',w'.ownsRow base 24 1 v' (n+1) (vs++ [z])→w.grownBy w' v.ownBlock→(v'.ownBlock=v.ownBlock∨v'.ownBlock=some w.heap.size)→wpList Tryz.prog ops Q rest (a.put o.dst v') w'):
  wpList Tryz.prog ops Q (o::rest) a w:=by
 obtain⟨i0,hi0,hz0,hz1,hz2⟩:=info_parts ints_info
 refine wpList_append_own_at _ hgd s x 29 ho base 24 i0 (.slice none 0 0) 1 24 Tryz.underlying29 hi0 hz0 hz1 hz2 rfl (by decide) v n vs hs hown ⟨b,0,none⟩ 1 1 [z] hx rfl ?_ ?_ (by unfold maxLen;omega) (by omega) hbase ?_
 ·intro j u hj
  match j,hj with
  | 0,hj=>simp at hj;subst hj;simpa[Addr.add] using hc
 ·intro u hu;simp at hu;subst hu;exact hz
 ·intro v' w' h1 h2 h3 h5
  exact h v' w' h1 h2 h5
theorem rows_lit (w:World) (vs:List Value) (hl:vs.length≤1099511627776) {base:Nat} (hb:base≤w.heap.size):(w.alloc (.cells vs.toArray 24)).ownsRow base 24 1 (.slice (some ⟨w.heap.size,0,none⟩) vs.length vs.length) vs.length vs:=by
 have:=World.ownsRow_lit (e:=24) (size:=1) w vs.toArray vs.length hb (by unfold maxLen;omega) (by simp)
 simpa using this
theorem bel_push {B base:Nat} {w0 w w1:World} {v:Value} {o:Obj} {e:TypeId} {sz n:Nat} {cs:List Value} (hb:Below B w0 w) (hB:B≤w.heap.size) (ho:w.ownsRow base e sz v n cs) (hbB:B≤base) (hg:(w.alloc o).grownBy w1 v.ownBlock):Below B w0 w1:=
 (hb.alloc hB o).grown hg (by simp;omega) fun k hk=>by have:=ho.lt k hk;omega
end Go.Proofs.YtlgcflpaekbopaaGreat
namespace Go.Proofs.YtlgcflpaekbopaaGreat
set_option maxRecDepth 20000
set_option linter.unusedVariables false
set_option linter.unusedSimpArgs false
open Go.RowKit
structure Tr (a b:Nat) (w w':World):Prop where
 os:w'.os=w.os
 tape:w'.tape=w.tape
 output:w'.output=w.output
 size:w.heap.size≤w'.heap.size
 block: ∀k,k<w.heap.size→ ¬(a≤k∧k<b)→w'.heap[k]? =w.heap[k]?
theorem Tr.below {w w':World} (h:Below w.heap.size w w'):Tr 0 0 w w':=⟨h.os,h.tape,h.output,h.size,fun k hk _=>h.block k hk⟩
theorem Tr.grown {w w':World} {row:Option Nat} (h:w.grownBy w' row) {a b:Nat} (hr: ∀k,row=some k→a≤k∧k<b):Tr a b w w':=
 ⟨h.os,h.tape,h.output,h.size,fun k hk hn=>h.block k hk (fun e=>hn (hr k e.symm))⟩
def Loc (O:World→Prop) (lo hi:Nat):Prop:= ∀w w':World,O w→(∀b,lo≤b→b<hi→w'.heap[b]? =w.heap[b]?)→O w'
structure Ob (O:World→Prop) (lo hi:Nat) (w:World):Prop where
 holds:O w
 loc:Loc O lo hi
 le:hi≤w.heap.size
theorem Tr.trans {a b:Nat} {w w1 w2:World} (h:Tr a b w w1) (t:Tr a b w1 w2):Tr a b w w2:=
 ⟨t.os.trans h.os,t.tape.trans h.tape,t.output.trans h.output,Nat.le_trans h.size t.size,fun k hk hn=>(t.block k (Nat.lt_of_lt_of_le hk h.size) hn).trans (h.block k hk hn)⟩
theorem setCell_block (w:World) (p:Addr) (u:Value) (b:Nat) (h:b≠p.block):(w.setCell p u).heap[b]? =w.heap[b]? :=Below.heap_setCell w p u b h
theorem setCell_grown (w:World) (g j:Nat) (u:Value):w.grownBy (w.setCell ⟨g,j,none⟩ u) (some g):=
 ⟨rfl,rfl,rfl,by simp,fun b _ hb=>setCell_block w _ u b (fun e=>hb (by rw[e]))⟩
end Go.Proofs.YtlgcflpaekbopaaGreat
namespace Go.Proofs.YtlgcflpaekbopaaGreat
set_option maxRecDepth 20000
set_option linter.unusedVariables false
set_option linter.unusedSimpArgs false
open Go.RowKit
def inB (x a b:Int):Bool:=decide (a≤x)&&decide (x≤b)
theorem inB_iff {x a b:Int}:inB x a b=true↔a≤x∧x≤b:=by simp[inB]
theorem inB_not {x a b:Int}:inB x a b=false↔ ¬(a≤x∧x≤b):=by rw[←inB_iff];simp
def letB (r x:Int):Bool:=(x != 0)&&inB x (wrap64 (-r)) r
theorem neg64 {r:Int} (h:inB r 1 3=true):wrap64 (-r)= -r:=by
 have:=inB_iff.1 h
 exact IntWalk.wrap64_in _ ⟨by omega,by omega⟩
theorem letB_iff {r x:Int} (h:inB r 1 3=true):letB r x=true↔x≠0∧ -r≤x∧x≤r:=by
 unfold letB
 rw[neg64 h]
 simp[inB_iff]
def abs64 (x:Int):Int:=if x<0 then wrap64 (-x) else x
theorem I64.neg {x:Int} (h:I64 x) (h0:x≠ -9223372036854775808):wrap64 (-x)= -x:=by
 unfold I64 at h
 exact IntWalk.wrap64_in _ ⟨by omega,by omega⟩
set_option maxHeartbeats 400000 in
theorem l1In_any (x a b:Int) (w:World):
  Calls Tryz.prog 64 #[.int .i64 x, .int .i64 a, .int .i64 b] w fun e w'=>e= .returned (.bool (inB x a b))∧w=w':=by
 go_enter Tryz.func64,Tryz.ntmps64
 go_wp2
 all_goals go_ret
 all_goals (refine⟨?_,rfl⟩;unfold inB;simp_all)
 omega
set_option maxHeartbeats 400000 in
theorem within_any (x a b:Int) (w:World):
  Calls Tryz.prog 56 #[.int .i64 x, .int .i64 a, .int .i64 b] w fun e w'=>e= .returned (.bool (inB x a b))∧w=w':=by
 go_enter Tryz.func56,Tryz.ntmps56
 go_wp2
 all_goals go_ret
 all_goals (refine⟨?_,rfl⟩;unfold inB;simp_all)
 omega
set_option maxHeartbeats 400000 in
theorem isLetter_any (r x:Int) (w:World):
  Calls Tryz.prog 57 #[.int .i64 r, .int .i64 x] w fun e w'=>e= .returned (.bool (letB r x))∧w=w':=by
 go_enter Tryz.func57,Tryz.ntmps57
 go_wp2_with (go_at_call 56;refine(within_any _ _ _ _).mono ?_;rintro e w' ⟨rfl,rfl⟩)
 all_goals go_ret
 all_goals (refine⟨?_,rfl⟩;unfold letB;simp_all)
set_option maxHeartbeats 400000 in
theorem l21Abs_any (x:Int) (w:World):
  Calls Tryz.prog 83 #[.int .i64 x] w fun e w'=>e= .returned (.int .i64 (abs64 x))∧w=w':=by
 go_enter Tryz.func83,Tryz.ntmps83
 go_wp2
 all_goals go_ret
 all_goals (refine⟨?_,rfl⟩;unfold abs64;simp_all)
 omega
set_option maxHeartbeats 400000 in
theorem l2Letter_any (x:Int) (w:World):
  Calls Tryz.prog 61 #[.int .i64 x] w fun e w'=>e= .returned (.bool (letB 3 x))∧w=w':=by
 have h3:wrap64 (-3)= -3:=IntWalk.wrap64_in _ ⟨by omega,by omega⟩
 have H3:=hDD h3
 clear h3
 go_enter Tryz.func61,Tryz.ntmps61
 go_wp2_with (go_at_call 64;refine(l1In_any _ _ _ _).mono ?_;rintro e w' ⟨rfl,rfl⟩)
 all_goals go_ret
 all_goals (refine⟨?_,rfl⟩;unfold letB;rw[H3.out];simp_all)
def invB (a b:Int):Bool:=(a != 0)&&(a != -9223372036854775808)&&(b== -a)
set_option maxHeartbeats 400000 in
theorem areInverse_any (a b:Int) (w:World) (ha:I64 a):
  Calls Tryz.prog 111 #[.int .i64 a, .int .i64 b] w fun e w'=>e= .returned (.bool (invB a b))∧w=w':=by
 by_cases h1:a= -9223372036854775808
 ·subst h1
  go_enter Tryz.func111,Tryz.ntmps111
  go_wp2
  all_goals go_ret
  all_goals (refine⟨?_,rfl⟩;unfold invB;simp_all)
 ·have hn:=I64.neg ha h1
  have HN:=hDD hn
  have ha1: -9223372036854775808<a:=by unfold I64 at ha;omega
  have ha2:a≤9223372036854775807:=ha.2
  clear hn ha
  go_enter Tryz.func111,Tryz.ntmps111
  go_wp2
  all_goals go_ret
  all_goals (refine⟨?_,rfl⟩;unfold invB;simp_all)
end Go.Proofs.YtlgcflpaekbopaaGreat
namespace Go.Proofs.YtlgcflpaekbopaaGreat
set_option maxRecDepth 20000
set_option linter.unusedVariables false
set_option linter.unusedSimpArgs false
open Go.RowKit
abbrev El (α:Type):=World→List Value→α→List Nat→Prop
def Stable {α:Type} (E:El α):Prop:= ∀w w' cs d F,E w cs d F→(∀b∈F,w'.heap[b]? =w.heap[b]?)→E w' cs d F
def OwLf {α:Type} (E:El α) (t:TypeId) (width:Nat) (w:World) (v:Value) (ds:List α) (F:List Nat):Prop:=
 ∃es:List (List Value×α×List Nat),es.map (·.2.1)=ds∧(∀e∈es,e.1.length=width∧E w e.1 e.2.1 e.2.2)∧
  w.ownsRow 0 t width v es.length (es.map (·.1)).flatten∧F=v.ownBlock.toList++(es.map (·.2.2)).flatten
theorem ownsRow_keep {w w':World} {base:Nat} {e:TypeId} {sz n:Nat} {v:Value} {cs:List Value} (h:w.ownsRow base e sz v n cs) (hb: ∀b,v.ownBlock=some b→w'.heap[b]? =w.heap[b]?):w'.ownsRow base e sz v n cs:=by
 refine⟨h.1,?_⟩
 rcases h.2 with h0 | ⟨g,cap,cur,hv,hg,hh,r⟩
 ·exact .inl h0
 ·exact .inr ⟨g,cap,cur,hv,hg,by rw[hb g (by rw[hv];rfl)];exact hh,r⟩
theorem OwLf.stable {α:Type} {E:El α} (hE:Stable E) {t:TypeId} {width:Nat} {w w':World} {v:Value} {ds:List α} {F:List Nat}
  (h:OwLf E t width w v ds F) (hb: ∀b∈F,w'.heap[b]? =w.heap[b]?):OwLf E t width w' v ds F:=by
 obtain⟨es,h1,h2,h3,rfl⟩:=h
 refine⟨es,h1,fun e he=>⟨(h2 e he).1,hE _ _ _ _ _ (h2 e he).2 fun b hbe=>hb b ?_⟩,ownsRow_keep h3 fun b hv=>hb b ?_,rfl⟩
 ·refine List.mem_append.2 (.inr (List.mem_flatten.2 ⟨e.2.2,List.mem_map.2 ⟨e,he,rfl⟩,hbe⟩))
 ·refine List.mem_append.2 (.inl ?_)
  rw[hv]
  simp
def OwnL {α:Type} (E:El α) (t:TypeId) (width:Nat) (lo hi:Nat) (w:World) (v:Value) (ds:List α):Prop:=
 ∃F,OwLf E t width w v ds F∧F.Nodup∧ ∀b∈F,lo≤b∧b<hi
section
variable {α:Type} {E:El α} {t:TypeId} {width:Nat} {w w' w1 w2:World} {v v':Value} {ds:List α} {lo hi:Nat}
theorem OwnL.keep (h:OwnL E t width lo hi w v ds) (hE:Stable E) (hb: ∀b,lo≤b→b<hi→w'.heap[b]? =w.heap[b]?):OwnL E t width lo hi w' v ds:=by
 obtain⟨F,h1,h2,h3⟩:=h
 exact⟨F,h1.stable hE fun b hbF=>hb b (h3 b hbF).1 (h3 b hbF).2,h2,h3⟩
theorem OwnL.widen (h:OwnL E t width lo hi w v ds) {lo' hi':Nat} (h1:lo'≤lo) (h2:hi≤hi'):OwnL E t width lo' hi' w v ds:=by
 obtain⟨F,a,b,c⟩:=h
 exact⟨F,a,b,fun x hx=>⟨Nat.le_trans h1 (c x hx).1,Nat.lt_of_lt_of_le (c x hx).2 h2⟩⟩
theorem OwnL.len (h:OwnL E t width lo hi w v ds): ∃A cap,v= .slice A ds.length cap∧ds.length≤cap∧cap≤maxLen∧(A=none→cap=0)∧(0<ds.length→ ∃g,A=some ⟨g,0,none⟩∧lo≤g∧g<hi):=by
 obtain⟨F,⟨es,h1,h2,h3,rfl⟩,_,hF⟩:=h
 have hl:es.length=ds.length:=by rw[←h1];simp
 rw[hl] at h3
 obtain⟨A,cap,hv,a,b,c,d⟩:=owns_form h3
 refine⟨A,cap,hv,a,b,c,fun h0=> ?_⟩
 obtain⟨g,hA,_,_⟩:=d h0
 exact⟨g,hA,hF g (by rw[hv,hA];simp[Value.ownBlock])⟩
theorem OwnL.nil (hv:w.ownsRow 0 t width v 0 []) (hb: ∀b,v.ownBlock=some b→lo≤b∧b<hi):OwnL E t width lo hi w v []:=by
 refine⟨v.ownBlock.toList,⟨[],rfl,(fun e he=>by cases he),by simpa using hv,by simp⟩,?_,fun b hb'=> ?_⟩
 ·cases v.ownBlock<;>simp
 ·exact hb b (by simpa using hb')
theorem OwnL.push (hE:Stable E) (h:OwnL E t width lo w.heap.size w v ds) (hbel:Below w.heap.size w w1) {cs:List Value} {d:α} {Fe:List Nat} (hel:E w1 cs d Fe) (hcw:cs.length=width)
  (hnd:Fe.Nodup) (hFe: ∀b∈Fe,w.heap.size≤b∧b<w1.heap.size) (hlo:lo≤w.heap.size)
  (happ: ∀es:List (List Value),w1.ownsRow 0 t width v ds.length es.flatten→w2.ownsRow 0 t width v' (ds.length+1) (es.flatten++cs)) (hg:w1.grownBy w2 v.ownBlock)
  (hat:v'.ownBlock=v.ownBlock∨v'.ownBlock=some w1.heap.size) (hlt: ∀b,v'.ownBlock=some b→b<w2.heap.size):OwnL E t width lo w2.heap.size w2 v' (ds++ [d]):=by
 obtain⟨F,⟨es,h1,h2,h3,rfl⟩,hnF,hF⟩:=h
 have hsz:=hbel.size
 have hsz2:=hg.size
 have hl:es.length=ds.length:=by rw[←h1];simp
 have hvb: ∀b,v.ownBlock=some b→lo≤b∧b<w.heap.size:=fun b hb=>hF b (by rw[hb];simp)
 have hmem: ∀e∈es,∀b∈e.2.2,b∈(es.map (·.2.2)).flatten:=fun e he b hb=>List.mem_flatten.2 ⟨e.2.2,List.mem_map.2 ⟨e,he,rfl⟩,hb⟩
 have hapart: ∀b∈(es.map (·.2.2)).flatten,some b≠v.ownBlock:=by
  intro b hb hv
  rw[←hv] at hnF
  simp at hnF
  obtain⟨h,_⟩:=hnF
  obtain⟨l,hl',hbl⟩:=List.mem_flatten.1 hb
  obtain⟨e,he,rfl⟩:=List.mem_map.1 hl'
  obtain⟨a1,a2,a3⟩:=e
  exact h a3 a1 a2 he hbl
 refine⟨v'.ownBlock.toList++((es.map (·.2.2)).flatten++Fe),⟨es++ [(cs,d,Fe)],by simp[h1],?_,?_,by simp⟩,?_,?_⟩
 ·intro e he
  rcases List.mem_append.1 he with he | he
  ·refine⟨(h2 e he).1,hE _ _ _ _ _ (h2 e he).2 fun b hb=> ?_⟩
   have hlt':=(hF b (List.mem_append.2 (.inr (hmem e he b hb)))).2
   rw[hg.block b (by omega) (hapart b (hmem e he b hb)),hbel.block b hlt']
  ·simp at he
   subst he
   refine⟨hcw,hE _ _ _ _ _ hel fun b hb=>hg.block b (hFe b hb).2 fun hv=> ?_⟩
   have:=hvb b hv.symm
   have:=hFe b hb
   omega
 ·have h3':=happ (es.map (·.1)) (by rw[hl] at h3;exact ownsRow_keep h3 fun b hb=>hbel.block b (hvb b hb).2)
  simpa[hl] using h3'
 ·have n1:((es.map (·.2.2)).flatten).Nodup:=(List.nodup_append.1 hnF).2.1
  have n2:((es.map (·.2.2)).flatten++Fe).Nodup:=by
   refine List.nodup_append.2 ⟨n1,hnd,fun a ha b hb hab=> ?_⟩
   have:=(hF a (List.mem_append.2 (.inr ha))).2
   have:=(hFe b hb).1
   omega
  refine List.nodup_append.2 ⟨?_,n2,fun a ha b hb hab=> ?_⟩
  ·cases v'.ownBlock<;>simp
  ·subst hab
   have ha':v'.ownBlock=some a:=by simpa using ha
   rcases hat with hat | hat
   ·rw[hat] at ha'
    rcases List.mem_append.1 hb with hb | hb
    ·exact hapart a hb ha'.symm
    ·have:=hvb a ha';have:=hFe a hb;omega
   ·rw[hat] at ha'
    injection ha' with ha'
    rcases List.mem_append.1 hb with hb | hb
    ·have:=(hF a (List.mem_append.2 (.inr hb))).2;omega
    ·have:=hFe a hb;omega
 ·intro b hb
  rcases List.mem_append.1 hb with hb | hb
  ·have hb':v'.ownBlock=some b:=by simpa using hb
   refine⟨?_,hlt b hb'⟩
   rcases hat with hat | hat
   ·rw[hat] at hb';exact(hvb b hb').1
   ·rw[hat] at hb';injection hb' with hb';omega
  ·rcases List.mem_append.1 hb with hb | hb
   ·have:=hF b (List.mem_append.2 (.inr hb));omega
   ·have:=hFe b hb;omega
theorem OwnL.focus {A:Option Addr} {m cap:Nat} (h:OwnL E t width lo hi w (.slice A m cap) ds) (hE:Stable E) {k:Nat} (hk:k<ds.length):
  ∃g cs Fe,A=some ⟨g,0,none⟩∧lo≤g∧g<hi∧E w cs ds[k] Fe∧cs.length=width∧(∀b∈Fe,lo≤b∧b<hi∧b≠g)∧Fe.Nodup∧(∀j (hj:j<cs.length),w.cell? ⟨g,k*width+j,none⟩=some cs[j])∧
   (∀j,w.frozen? ⟨g,j,none⟩=false)∧g<w.heap.size∧
   ∀w' cs' d',(∀pre post,pre.length=k*width→w.ownsRow 0 t width (.slice A m cap) ds.length (pre++cs++post)→w'.ownsRow 0 t width (.slice A m cap) ds.length (pre++cs'++post))→cs'.length=width→E w' cs' d' Fe→
    (∀b,b<hi→b≠g→b∉Fe→w'.heap[b]? =w.heap[b]?)→OwnL E t width lo hi w' (.slice A m cap) (ds.set k d'):=by
 obtain⟨F,⟨es,h1,h2,h3,rfl⟩,hnF,hF⟩:=h
 have hl:es.length=ds.length:=by rw[←h1];simp
 rw[hl] at h3
 obtain⟨p,x,q,rfl,hp⟩: ∃p x q,es=p++x::q∧p.length=k:=⟨es.take k,es[k],es.drop (k+1),by rw[←List.drop_eq_getElem_cons (by omega),List.take_append_drop],by simp;omega⟩
 obtain⟨A',cap',hv,_,_,_,hg⟩:=owns_form h3
 obtain⟨g,hA,hge,_⟩:=hg (by omega)
 injection hv with e1 e2 e3
 subst e1 e2 e3 hA
 obtain⟨cs,d,Fe⟩:=x
 have hgF:=hF g (by simp[Value.ownBlock])
 have hd:ds[k]=d:=by simp[←h1,←hp]
 have hx:=h2 (cs,d,Fe) (by simp)
 simp only[List.map_append,List.map_cons,List.flatten_append,List.flatten_cons,Value.ownBlock,Option.toList_some] at h3 hnF hF
 have hpl:((p.map (·.1)).flatten).length=k*width:=by
  have: ∀l:List (List Value×α×List Nat),(∀e∈l,e.1.length=width)→((l.map (·.1)).flatten).length=l.length*width:=by
   intro l hl
   induction l with
   | nil=>simp
   | cons e l ih=>
     simp only[List.map_cons,List.flatten_cons,List.length_append,List.length_cons,ih fun e he=>hl e (by simp[he]),hl e (by simp),Nat.add_mul]
     omega
  rw[this p fun e he=>(h2 e (by simp[he])).1,hp]
 have hng:=(List.nodup_append.1 hnF).2.2 g (by simp)
 have hn2:=(List.nodup_append.1 hnF).2.1
 obtain⟨np,nq,npq⟩:=List.nodup_append.1 hn2
 obtain⟨nF,nq2,nFq⟩:=List.nodup_append.1 nq
 have hlen:=h3.1
 have hx1:cs.length=width:=hx.1
 simp only[List.length_append,hpl,hx1] at hlen
 refine⟨g,cs,Fe,rfl,hgF.1,hgF.2,by rw[hd];exact hx.2,hx.1,fun b hb=> ?_,nF,fun j hj=> ?_,fun j=>h3.frozenAt j,?_,?_⟩
 ·have hb':=hF b (by simp[hb])
  exact⟨hb'.1,hb'.2,fun e=>hng b (by simp[hb]) e.symm⟩
 ·have hj':k*width+j<ds.length*width:=by omega
  rw[h3.cellAt _ hj',List.getElem?_append_right (by omega),hpl,Nat.add_sub_cancel_left,List.getElem?_append_left hj,List.getElem?_eq_getElem hj]
 ·exact(h3.lt g rfl).2
 ·intro w' cs' d' hrow hcs' hE' hoth
  have hmem: ∀e,e∈p∨e∈q→ ∀b∈e.2.2,b<hi∧b≠g∧b∉Fe:=by
   intro e he b hb
   have hbm:b∈(p.map (·.2.2)).flatten∨b∈(q.map (·.2.2)).flatten:=by
    rcases he with he | he
    ·exact .inl (List.mem_flatten.2 ⟨e.2.2,List.mem_map.2 ⟨e,he,rfl⟩,hb⟩)
    ·exact .inr (List.mem_flatten.2 ⟨e.2.2,List.mem_map.2 ⟨e,he,rfl⟩,hb⟩)
   refine⟨(hF b ?_).2,fun e'=>hng b ?_ e'.symm,fun hbF=> ?_⟩
   ·refine List.mem_append.2 (.inr ?_)
    rcases hbm with hbm | hbm
    ·exact List.mem_append.2 (.inl hbm)
    ·exact List.mem_append.2 (.inr (List.mem_append.2 (.inr hbm)))
   ·rcases hbm with hbm | hbm
    ·exact List.mem_append.2 (.inl hbm)
    ·exact List.mem_append.2 (.inr (List.mem_append.2 (.inr hbm)))
   ·rcases hbm with hbm | hbm
    ·exact npq b hbm b (List.mem_append.2 (.inl hbF)) rfl
    ·exact nFq b hbF b hbm rfl
  refine⟨g::((p.map (·.2.2)).flatten++(Fe++(q.map (·.2.2)).flatten)),⟨p++(cs',d',Fe)::q,?_,?_,?_,?_⟩,?_,?_⟩
  ·rw[←h1]
   simp only[List.map_append,List.map_cons]
   rw[List.set_append_right _ _ (by simp[hp]),List.length_map,hp,Nat.sub_self,List.set_cons_zero]
  ·intro e he
   simp only[List.mem_append,List.mem_cons] at he
   rcases he with he | rfl | he
   ·exact⟨(h2 e (by simp[he])).1,hE _ _ _ _ _ (h2 e (by simp[he])).2 fun b hb=>hoth b (hmem e (.inl he) b hb).1 (hmem e (.inl he) b hb).2.1 (hmem e (.inl he) b hb).2.2⟩
   ·exact⟨hcs',hE'⟩
   ·exact⟨(h2 e (by simp[he])).1,hE _ _ _ _ _ (h2 e (by simp[he])).2 fun b hb=>hoth b (hmem e (.inr he) b hb).1 (hmem e (.inr he) b hb).2.1 (hmem e (.inr he) b hb).2.2⟩
  ·have:=hrow (p.map (·.1)).flatten (q.map (·.1)).flatten hpl (by simpa using h3)
   simp only[List.map_append,List.map_cons,List.flatten_append,List.flatten_cons,List.length_append,List.length_cons,List.append_assoc] at this hl⊢
   rw[hl]
   exact this
  ·simp[Value.ownBlock]
  ·simpa using hnF
  ·intro b hb
   exact hF b (by simpa using hb)
theorem OwnL.lt {b:Nat} (h:OwnL E t width lo hi w v ds) (hb:v.ownBlock=some b):lo≤b∧b<hi:=by
 obtain⟨F,⟨es,h1,h2,h3,rfl⟩,hnF,hF⟩:=h
 exact hF b (by rw[hb];simp)
theorem bel_own {B:Nat} {w0 w3:World} (hb:Below B w0 w1) (ho:OwnL E t width lo hi w v ds) (hlo:B≤lo) (hs:B≤w1.heap.size) (hg:w1.grownBy w3 v.ownBlock):Below B w0 w3:=
 hb.grown hg hs fun k hk=>Nat.le_trans hlo (ho.lt hk).1
end
theorem push_own {α:Type} {E:El α} (hE:Stable E) {t ts:TypeId} {ti:TypeInfo} {z:Value} {width bytes lo:Nat} {w0 w:World} {v:Value} {ds:List α} {ops:Array Oper} {rest:List Oper} {o:Oper} {a:Act} {Q:Exit→Act→World→Prop} (hgd:o.guard=none) (s x:Operand)
  (ho:o.op= .call {callee:= .builtin .append,args:= #[s,x],argTypes:= #[ts,ts]})
  (ht:Tryz.prog.underlying ts=some (.slice t)) (hi:Tryz.prog.info? t=some ti) (hz:ti.zero=some z) (hsize:ti.size=width) (hby:ti.bytes=bytes) (hzs:z.cells.size=width) (hsz:0<width) (hb0:bytes≤128)
  (hown:OwnL E t width lo w0.heap.size w0 v ds) (hlo:lo≤w0.heap.size) (hbel:Below w0.heap.size w0 w) (hs:a.eval s=v) (b:Nat) (cs:List Value) (d:α) (Fe:List Nat) (hx:a.eval x= .slice (some ⟨b,0,none⟩) 1 1)
  (hel:E w cs d Fe) (hcs:cs.length=width) (hnd:Fe.Nodup) (hFe: ∀b∈Fe,w0.heap.size≤b∧b<w.heap.size) (hc: ∀j u,cs[j]? =some u→w.cell? ⟨b,j,none⟩=some u) (h1: ∀u∈cs,u.oneCell'=true) (hl:ds.length≤1073741824)
  (h: ∀v' w',OwnL E t width lo w'.heap.size w' v' (ds++ [d])→w.grownBy w' v.ownBlock→wpList Tryz.prog ops Q rest (a.put o.dst v') w'):
  wpList Tryz.prog ops Q (o::rest) a w:=by
 have hown':=hown
 obtain⟨F,⟨es,e1,e2,e3,rfl⟩,hnF,hF⟩:=hown'
 have hln:es.length=ds.length:=by rw[←e1];simp
 rw[hln] at e3
 have hrow:=ownsRow_keep e3 (w':=w) fun b hb=>hbel.block b (hown.lt hb).2
 refine wpList_append_own_at _ hgd s x ts ho 0 t ti z width bytes ht hi hz hsize hby hzs hsz v ds.length _ hs hrow ⟨b,0,none⟩ 1 1 cs hx (by omega) ?_ h1 (by unfold maxLen;omega) ?_ (Nat.zero_le _) ?_
 ·intro j u hj
  have e:(⟨b,0,none⟩:Addr).add j=⟨b,j,none⟩:=by simp[Addr.add];intro h;exact h.symm
  rw[e];exact hc j u hj
 ·calc (ds.length+1)*bytes≤1073741825*128:=Nat.mul_le_mul (by omega) hb0
   _≤140737488355328:=by decide
 ·intro v' w' h2 h3 _ h5
  refine h v' w' (OwnL.push hE hown hbel hel hcs hnd hFe hlo ?_ h3 h5 fun b hb=>(h2.lt b hb).2) h3
  intro es' he'
  obtain⟨v2,w2,q⟩: ∃v2 w2,v2=v'∧w2=w':=⟨_,_,rfl,rfl⟩
  have hflat:es'.flatten=(es.map (·.1)).flatten:=by
   rcases he'.2 with ⟨hv,hn⟩ | ⟨g,c,cur,hv,_,hh,_,_,_,hcur⟩
   ·have q1:=he'.1
    have q2:=hrow.1
    rw[hn,Nat.zero_mul] at q1 q2
    rw[List.eq_nil_of_length_eq_zero q1,List.eq_nil_of_length_eq_zero q2]
   ·rcases hrow.2 with ⟨hv',_⟩ | ⟨g',c',cur',hv',_,hh',_,_,_,hcur'⟩
    ·rw[hv] at hv';cases hv'
    ·rw[hv] at hv'
     injection hv' with q1
     injection q1 with q1
     injection q1 with q1
     subst q1
     rw[hh] at hh'
     injection hh' with q2
     injection q2 with q2
     subst q2
     rw[←hcur,←hcur']
  rw[hflat]
  exact h2
theorem RdI_new1 (w:World) (z:Int) (hz:I64 z):RdI (w.alloc (.cells #[.int .i64 z] 3)) (.slice (some ⟨w.heap.size,0,none⟩) 1 1) [z]:=
 (OwI_lit w [z] (fun x hx=>by simp at hx;subst hx;exact hz) (by simp) (Nat.le_refl _)).rd
def EI:El (List Int):=fun w cs d F=> ∃s,cs= [s]∧OwI w 0 s d∧F=s.ownBlock.toList
theorem EI.stable:Stable EI:=by
 rintro w w' cs d F ⟨s,rfl,ho,rfl⟩ hb
 exact⟨s,rfl,⟨ownsRow_keep ho.1 fun b h=>hb b (by rw[h];simp),ho.2⟩,rfl⟩
theorem EI.of {w:World} {s:Value} {xs:List Int} {base:Nat} (h:OwI w base s xs):EI w [s] xs s.ownBlock.toList:=⟨s,rfl,h.mono (Nat.zero_le _),rfl⟩
abbrev OwII (lo hi:Nat) (v:Value) (L:List (List Int)) (w:World):Prop:=OwnL EI 24 1 lo hi w v L
theorem flat_ones (es:List (List Value×List Int×List Nat)) (h: ∀e∈es,e.1.length=1):((es.map (·.1)).flatten).length=es.length∧ ∀i (hi:i<es.length) (hi':i<((es.map (·.1)).flatten).length),es[i].1= [((es.map (·.1)).flatten)[i]]:=by
 induction es with
 | nil=>exact⟨rfl,fun i hi=>by simp at hi⟩
 | cons e es ih=>
   have he:=h e (by simp)
   obtain⟨x,hx⟩: ∃x,e.1= [x]:=by
    match hh:e.1 with
    | []=>rw[hh] at he;simp at he
    | [x]=>exact⟨x,rfl⟩
    | a::b::l=>rw[hh] at he;simp at he
   obtain⟨i1,i2⟩:=ih fun e' he'=>h e' (by simp[he'])
   have e3:((e::es).map (·.1)).flatten=x::(es.map (·.1)).flatten:=by simp[hx]
   refine⟨by rw[e3];simp[i1],fun i hi hi'=> ?_⟩
   match i with
   | 0=>simp[e3,hx]
   | j+1=>
     have:=i2 j (by simpa using hi) (by simp[i1];simpa using hi)
     simp only[e3,List.getElem_cons_succ]
     exact this
theorem OwII.rd {lo hi:Nat} {v:Value} {L:List (List Int)} {w:World} (h:OwII lo hi v L w):RdII w v L:=by
 obtain⟨F,⟨es,h1,h2,h3,rfl⟩,_,_⟩:=h
 have hl:es.length=L.length:=by rw[←h1];simp
 rw[hl] at h3
 obtain⟨f1,f2⟩:=flat_ones es fun e he=>(h2 e he).1
 refine⟨(es.map (·.1)).flatten,by rw[f1,hl],RdV.of_own h3,fun i hi hi'=> ?_⟩
 have hie:i<es.length:=by omega
 obtain⟨s,hs,ho,_⟩:=(h2 es[i] (by simp)).2
 have e:=f2 i hie hi'
 rw[hs] at e
 injection e with e
 rw[←e]
 have e2:es[i].2.1=L[i]:=by simp[←h1]
 rw[←e2]
 exact ho.rd
theorem push_ints {lo:Nat} {w0 w:World} {v:Value} {L:List (List Int)} {ops:Array Oper} {rest:List Oper} {o:Oper} {a:Act} {Q:Exit→Act→World→Prop} (hgd:o.guard=none) (s x:Operand)
  (ho:o.op= .call {callee:= .builtin .append,args:= #[s,x],argTypes:= #[29,29]})
  (hown:OwII lo w0.heap.size v L w0) (hlo:lo≤w0.heap.size) (hbel:Below w0.heap.size w0 w) (hs:a.eval s=v) (b:Nat) (z:Value) (d:List Int) {base:Nat} (hx:a.eval x= .slice (some ⟨b,0,none⟩) 1 1)
  (hel:OwI w base z d) (hbase:w0.heap.size≤base) (hc:w.cell? ⟨b,0,none⟩=some z) (hz:z.oneCell'=true) (hl:L.length≤1073741824)
  (h: ∀v' w',OwII lo w'.heap.size v' (L++ [d]) w'→w.grownBy w' v.ownBlock→wpList Tryz.prog ops Q rest (a.put o.dst v') w'):
  wpList Tryz.prog ops Q (o::rest) a w:=by
 obtain⟨i0,hi0,hz0,hz1,hz2⟩:=info_parts ints_info
 refine push_own EI.stable hgd s x ho Tryz.underlying29 hi0 hz0 hz1 hz2 rfl (by decide) (by decide) hown hlo hbel hs b [z] d _ hx (EI.of hel) rfl ?_ ?_ ?_ ?_ hl h
 ·cases z.ownBlock<;>simp
 ·intro k hk
  have:=hel.1.lt k (by simpa using hk)
  omega
 ·intro j u hj
  match j,hj with
  | 0,hj=>simp at hj;subst hj;exact hc
 ·intro u hu;simp at hu;subst hu;exact hz
end Go.Proofs.YtlgcflpaekbopaaGreat
namespace Go.Proofs.YtlgcflpaekbopaaGreat
set_option maxRecDepth 20000
set_option linter.unusedVariables false
set_option linter.unusedSimpArgs false
open Go.RowKit
def ArgC (w:World) (v:Value) (cs:List Int):Prop:=
 ∃A cap,v= .slice A cs.length cap∧cs.length≤cap∧cap≤maxLen∧(∀x∈cs,0≤x∧x≤255)∧
  (0<cs.length→ ∃b off,A=some ⟨b,off,none⟩∧ ∀i (hi:i<cs.length),w.cell? ⟨b,off+i,none⟩=some (.int .u8 cs[i]))
structure Cur (p:Nat) (A:Option Addr) (cap:Nat) (cs:List Int) (w:World):Prop where
 c0:w.cell? ⟨p,0,none⟩=some (.slice A cs.length cap)
 c1: ∃i:Nat,i≤cs.length∧w.cell? ⟨p,1,none⟩=some (.int .i64 i)
 c2: ∃h:Int,w.cell? ⟨p,2,none⟩=some (.int .i64 h)
 fz: ∀j,w.frozen? ⟨p,j,none⟩=false
 lt:p<w.heap.size
 len:cs.length≤1048576
 by_: ∀x∈cs,0≤x∧x≤255
 at_:0<cs.length→ ∃b off,A=some ⟨b,off,none⟩∧b≠p∧b<w.heap.size∧ ∀i (hi:i<cs.length),w.cell? ⟨b,off+i,none⟩=some (.int .u8 cs[i])
theorem Cur.tr {p:Nat} {A:Option Addr} {cap lo hi:Nat} {cs:List Int} {w w':World} (h:Cur p A cap cs w) (ht:Tr lo hi w w') (hp: ¬(lo≤p∧p<hi)) (hA:0<cs.length→ ∀b off,A=some ⟨b,off,none⟩→ ¬(lo≤b∧b<hi)):Cur p A cap cs w':=by
 have hk:w'.heap[p]? =w.heap[p]? :=ht.block p h.lt hp
 refine⟨(World.cell?_of_block (w:=w) hk).trans h.c0,?_,?_,fun j=>(World.frozen?_of_block (w:=w) hk).trans (h.fz j),Nat.lt_of_lt_of_le h.lt ht.size,h.len,h.by_,fun h0=> ?_⟩
 ·obtain⟨i,hi,hc⟩:=h.c1
  exact⟨i,hi,(World.cell?_of_block (w:=w) hk).trans hc⟩
 ·obtain⟨i,hc⟩:=h.c2
  exact⟨i,(World.cell?_of_block (w:=w) hk).trans hc⟩
 ·obtain⟨b,off,hA',hb,hlt,hc⟩:=h.at_ h0
  exact⟨b,off,hA',hb,Nat.lt_of_lt_of_le hlt ht.size,fun i hi=>(World.cell?_of_block (w:=w) (ht.block b hlt (hA h0 b off hA'))).trans (hc i hi)⟩
theorem Cur.below {p:Nat} {A:Option Addr} {cap:Nat} {cs:List Int} {w w':World} (h:Cur p A cap cs w) (hb:Below w.heap.size w w'):Cur p A cap cs w':=
 h.tr (lo:=0) (hi:=0) (Tr.below hb) (by omega) fun _ _ _ _=>by omega
theorem Cur.new {p:Nat} {A:Option Addr} {cap:Nat} {cs:List Int} {w0 w w':World} {row:Option Nat} (h:Cur p A cap cs w) (h0:Cur p A cap cs w0) (hg:w.grownBy w' row) (hrow: ∀b,row=some b→w0.heap.size≤b):Cur p A cap cs w':=by
 have hk:w'.heap[p]? =w.heap[p]? :=hg.block p h.lt fun e=>by have:=hrow p e.symm;have:=h0.lt;omega
 refine⟨(World.cell?_of_block (w:=w) hk).trans h.c0,?_,?_,fun j=>(World.frozen?_of_block (w:=w) hk).trans (h.fz j),Nat.lt_of_lt_of_le h.lt hg.size,h.len,h.by_,fun hl=> ?_⟩
 ·obtain⟨i,hi,hc⟩:=h.c1
  exact⟨i,hi,(World.cell?_of_block (w:=w) hk).trans hc⟩
 ·obtain⟨i,hc⟩:=h.c2
  exact⟨i,(World.cell?_of_block (w:=w) hk).trans hc⟩
 ·obtain⟨b,off,hA',hb,hlt,hc⟩:=h.at_ hl
  obtain⟨b0,off0,hA0,_,hlt0,_⟩:=h0.at_ hl
  rw[hA'] at hA0
  injection hA0 with e
  injection e with e1 e2
  subst e1
  exact⟨b,off,hA',hb,Nat.lt_of_lt_of_le hlt hg.size,fun i hi=>(World.cell?_of_block (w:=w) (hg.block b hlt fun e=>by have:=hrow b e.symm;omega)).trans (hc i hi)⟩
theorem OwI.trP {p base:Nat} {w w':World} {v:Value} {xs:List Int} (h:OwI w base v xs) (ht:Tr p (p+1) w w') (hp:p<base):OwI w' base v xs:=
 ⟨ownsRow_keep h.1 fun b hb=>ht.block b (h.1.lt b hb).2 (by have:=(h.1.lt b hb).1;omega),h.2⟩
theorem Tr.grow2 {a b:Nat} {w w1 w2:World} {row:Option Nat} (h:Tr a b w w1) (hg:w1.grownBy w2 row) (hrow: ∀c,row=some c→w.heap.size≤c):Tr a b w w2:=
 ⟨hg.os.trans h.os,hg.tape.trans h.tape,hg.output.trans h.output,Nat.le_trans h.size hg.size,fun k hk hn=>(hg.block k (Nat.lt_of_lt_of_le hk h.size) fun e=>by have:=hrow k e.symm;omega).trans (h.block k hk hn)⟩
theorem Tr.bel2 {a b:Nat} {w w1 w2:World} (h:Tr a b w w1) (hb:Below w1.heap.size w1 w2):Tr a b w w2:=
 ⟨hb.os.trans h.os,hb.tape.trans h.tape,hb.output.trans h.output,Nat.le_trans h.size hb.size,fun k hk hn=>(hb.block k (Nat.lt_of_lt_of_le hk h.size)).trans (h.block k hk hn)⟩
theorem Tr.set1 {p j:Nat} {w w1:World} (h:Tr p (p+1) w w1) (v:Value):Tr p (p+1) w (w1.setCell ⟨p,j,none⟩ v):=
 h.trans (Tr.grown (setCell_grown w1 p j _) fun b hb=>by cases hb;omega)
theorem and255 (E:Int):0≤bits .and .i64 E 255∧bits .and .i64 E 255≤255:=by
 unfold bits
 have h:(BitVec.ofInt 64 E&&& BitVec.ofInt 64 255).toNat≤255:=by
  rw[BitVec.toNat_and]
  exact Nat.le_trans Nat.and_le_right (by decide)
 have e:IntKind.i64.wrap ((BitVec.ofInt 64 E&&& BitVec.ofInt 64 255).toNat:Int)=((BitVec.ofInt 64 E&&& BitVec.ofInt 64 255).toNat:Int):=by rw[IntKind.wrap_i64];omega
 show 0≤IntKind.i64.wrap ((BitVec.ofInt 64 E&&& BitVec.ofInt 64 255).toNat:Int)∧IntKind.i64.wrap ((BitVec.ofInt 64 E&&& BitVec.ofInt 64 255).toNat:Int)≤255
 rw[e]
 omega
set_option maxHeartbeats 1000000 in
theorem l1Byte_any (p:Nat) (A:Option Addr) (cap:Nat) (cs:List Int) (w:World) (h:Cur p A cap cs w):
  Calls Tryz.prog 118 #[.pointer (some ⟨p,0,none⟩)] w fun e w'=> ∃n:Int,e= .returned (.int .i64 n)∧(0≤n∧n≤255)∧Cur p A cap cs w'∧Tr p (p+1) w w':=by
 have H:=hDD h
 have c0:=h.c0
 obtain⟨i,hi,c1⟩:=h.c1
 obtain⟨x,c2⟩:=h.c2
 have fz:=h.fz
 have hlen:=h.len
 have hp:=h.lt
 have HBY:=hDD h.by_
 have HAT:=hDD h.at_
 clear h
 go_enter Tryz.func118,Tryz.ntmps118
 go_wp2
 generalize hx:wrap64 (wrap64 (x*6364136223846793005)+1442695040888963407)=x1
 clear hx
 obtain⟨W1,hW1⟩: ∃W1:World,W1=w.setCell ⟨p,2,none⟩ (.int .i64 x1):=⟨_,rfl⟩
 have d0:W1.cell? ⟨p,0,none⟩=some (.slice A cs.length cap):=by rw[hW1];simp[go_sem,c0]
 have d1:W1.cell? ⟨p,1,none⟩=some (.int .i64 i):=by rw[hW1];simp[go_sem,c1]
 have d2:W1.cell? ⟨p,2,none⟩=some (.int .i64 x1):=by rw[hW1];simp[go_sem,c2]
 have df: ∀j,W1.frozen? ⟨p,j,none⟩=false:=fun j=>by rw[hW1];simp[go_sem,fz]
 have T1:Hid (Tr p (p+1) w W1):=hDD (by rw[hW1];exact Tr.grown (setCell_grown w p 2 _) fun b hb=>by cases hb;omega)
 have hs1:W1.heap.size=w.heap.size:=by rw[hW1];simp
 have HS1:=hDD hs1
 rw[←hW1]
 have HATW:Hid (∀W',Tr p (p+1) w W'→(0<cs.length→ ∃b off,A=some ⟨b,off,none⟩∧b≠p∧b<W'.heap.size∧ ∀i (hi:i<cs.length),W'.cell? ⟨b,off+i,none⟩=some (.int .u8 cs[i]))):=hDD fun W' ht h0=>by
  obtain⟨b,off,hA,hb,hbl,hc⟩:=HAT.out h0
  exact⟨b,off,hA,hb,Nat.lt_of_lt_of_le hbl ht.size,fun i hi=>(World.cell?_of_block (w:=w) (ht.block b hbl (by omega))).trans (hc i hi)⟩
 clear hW1 c0 c1 c2 fz hs1
 go_quiet (fail)
 obtain⟨y0,y1⟩:=and255 (bits .xor .i64 (x1/8589934592) (x1/35184372088832))
 generalize bits .and .i64 (bits .xor .i64 (x1/8589934592) (x1/35184372088832)) 255=y at*
 generalize bits .xor .i64 (x1/8589934592) (x1/35184372088832)=y2 at*
 by_cases hlt:i<cs.length
 ·obtain⟨b,off,rfl,hb,hbl,hc⟩:=HAT.out (by omega)
  have hcell:W1.cell? ⟨b,off+i,none⟩=some (.int .u8 cs[i]):=(World.cell?_of_block (w:=w) (T1.out.block b hbl (by omega))).trans (hc i hlt)
  have hx:=HBY.out _ (List.getElem_mem hlt)
  have hI:(i:Int)<(cs.length:Int):=by omega
  have hi0:(0:Int)≤(i:Int):=by omega
  generalize cs[i]=z at*
  have hcv:IntKind.i64.wrap z=z:=by rw[IntKind.wrap_i64];omega
  clear hc
  go_wp2
  go_quiet (fail)
  go_wp2
  go_quiet (fail)
  obtain⟨u0,u1⟩:=and255 (y+z)
  generalize bits .and .i64 (y+z) 255=u at*
  have hwi:IntKind.i64.wrap ((i:Int)+1)=((i+1:Nat):Int):=by rw[IntKind.wrap_i64];omega
  go_wp2
  refine bodyPost_ret (v:= .int .i64 u) (by simp[results,Tryz.results118,go_sem]) rfl ⟨u,rfl,⟨u0,u1⟩,?_,?_⟩
  ·refine⟨by simp[go_sem,d0],⟨i+1,hlt,by simp[go_sem,d1]⟩,⟨x1,by simp[go_sem,d2]⟩,fun j=>by simp[go_sem,df],?_,hlen,HBY.out,HATW.out _ ?_⟩
   ·have:=HS1.out;simp;omega
   ·first | exact(T1.out.set1 _).bel2 (bel_drewN (Below.refl _ _) _) | exact(T1.out.bel2 (bel_drewN (Below.refl _ _) _)).set1 _ | exact(T1.out.set1 _).bel2 (bel_drewN (bel_drewN (Below.refl _ _) _) _) | exact(T1.out.bel2 (bel_drewN (bel_drewN (Below.refl _ _) _) _)).set1 _ | exact(T1.out.set1 _).bel2 (bel_drewN (bel_drewN (bel_drewN (Below.refl _ _) _) _) _) | exact(T1.out.bel2 (bel_drewN (bel_drewN (bel_drewN (Below.refl _ _) _) _) _)).set1 _
  ·first | exact(T1.out.set1 _).bel2 (bel_drewN (Below.refl _ _) _) | exact(T1.out.bel2 (bel_drewN (Below.refl _ _) _)).set1 _ | exact(T1.out.set1 _).bel2 (bel_drewN (bel_drewN (Below.refl _ _) _) _) | exact(T1.out.bel2 (bel_drewN (bel_drewN (Below.refl _ _) _) _)).set1 _ | exact(T1.out.set1 _).bel2 (bel_drewN (bel_drewN (bel_drewN (Below.refl _ _) _) _) _) | exact(T1.out.bel2 (bel_drewN (bel_drewN (bel_drewN (Below.refl _ _) _) _) _)).set1 _
 ·have hI: ¬(i:Int)<(cs.length:Int):=by omega
  go_wp2
  go_quiet (fail)
  go_wp2
  refine bodyPost_ret (v:= .int .i64 y) (by simp[results,Tryz.results118,go_sem]) rfl ⟨y,rfl,⟨y0,y1⟩,?_,?_⟩
  ·refine⟨by simp[go_sem,d0],⟨i,hi,by simp[go_sem,d1]⟩,⟨x1,by simp[go_sem,d2]⟩,fun j=>by simp[go_sem,df],?_,hlen,HBY.out,HATW.out _ ?_⟩
   ·have:=HS1.out;simp;omega
   ·exact T1.out.bel2 (bel_drewN (bel_drewN (Below.refl _ _) _) _)
  ·exact T1.out.bel2 (bel_drewN (bel_drewN (Below.refl _ _) _) _)
set_option maxHeartbeats 1000000 in
theorem l1Below_any (p:Nat) (A:Option Addr) (cap:Nat) (cs:List Int) (n:Int) (w:World) (h:Cur p A cap cs w) (hn0:0<n) (hn:n≤256):
  Calls Tryz.prog 80 #[.pointer (some ⟨p,0,none⟩), .int .i64 n] w fun e w'=> ∃x:Int,e= .returned (.int .i64 x)∧(0≤x∧x<n)∧Cur p A cap cs w'∧Tr p (p+1) w w':=by
 have H:=hDD h
 have h1: ¬n≤0:=by omega
 have h2: ¬n=0:=by omega
 clear h
 go_enter Tryz.func80,Tryz.ntmps80
 go_wp2_with (go_at_call 118;(with_reducible refine(l1Byte_any p A cap cs _ H.out).mono ?_);rintro e w1 ⟨y,rfl,⟨y0,y1⟩,c1,t1⟩;have C1:=hDD c1;have T1:=hDD t1;clear c1 t1)
 exact bodyPost_ret (v:= .int .i64 (y%n)) (by simp[results,Tryz.results80,go_sem]) rfl ⟨y%n,rfl,⟨Int.emod_nonneg _ h2,Int.emod_lt_of_pos _ hn0⟩,C1.out,T1.out⟩
theorem l1Once_any (p:Nat) (A:Option Addr) (cap:Nat) (cs:List Int) (n:Int) (w:World) (h:Cur p A cap cs w) (hn0:0<n) (hn:n≤256):
  Calls Tryz.prog 92 #[.pointer (some ⟨p,0,none⟩), .int .i64 n] w fun e w'=> ∃x:Bool,e= .returned (.bool x)∧Cur p A cap cs w'∧Tr p (p+1) w w':=by
 have H:=hDD h
 clear h
 go_enter Tryz.func92,Tryz.ntmps92
 go_wp2_with (go_at_call 80;(with_reducible refine(l1Below_any p A cap cs n _ H.out hn0 hn).mono ?_);rintro e w1 ⟨y,rfl,_,c1,t1⟩;have C1:=hDD c1;have T1:=hDD t1;clear c1 t1)
 exact bodyPost_ret (v:= .bool (y==0)) (by simp[results,Tryz.results92,go_sem]) rfl ⟨_,rfl,C1.out,T1.out⟩
set_option maxHeartbeats 1000000 in
theorem l1PickInt_any (p:Nat) (A:Option Addr) (cap:Nat) (cs:List Int) (v:Value) (L:List Int) (w:World) (h:Cur p A cap cs w) (hL:RdI w v L) (hv:v.ownBlock≠some p) (hn0:0<L.length) (hn:L.length≤256):
  Calls Tryz.prog 110 #[.pointer (some ⟨p,0,none⟩),v] w fun e w'=> ∃x:Int,e= .returned (.int .i64 x)∧x∈L∧Cur p A cap cs w'∧Tr p (p+1) w w':=by
 have H:=hDD h
 have HL:=hDD hL
 obtain⟨A1,c1,rfl,_⟩:=hL.arg
 have hv': ∀b off,A1=some ⟨b,off,none⟩→b≠p:=fun b off e hb=>by subst e;subst hb;exact hv rfl
 have HV:=hDD hv'
 clear h hL hv hv'
 go_enter Tryz.func110,Tryz.ntmps110
 go_wp2_with fail
 refine(l1Below_any p A cap cs L.length _ H.out (by omega) (by omega)).mono ?_
 rintro e w1 ⟨y,rfl,⟨y0,y1⟩,c1',t1⟩
 have C1:=hDD c1'
 have T1:=hDD t1
 have HR1:Hid (RdI w1 (.slice A1 L.length c1) L):=hDD ⟨HL.out.1.mono fun b hb hlt=>t1.block b hlt (by
  cases A1 with
  | none=>cases hb
  | some a=>
    obtain⟨b',o',s'⟩:=a
    have:b'=b:=by simpa[Value.ownBlock] using hb
    subst this
    obtain⟨_,_,hA,_⟩:=HL.out.at hn0
    injection hA with hA
    injection hA with _ _ hs
    subst hs
    have:=HV.out b' o' rfl
    omega),HL.out.2⟩
 clear c1' t1
 obtain⟨k,rfl⟩: ∃k:Nat,y=k:=⟨y.toNat,by omega⟩
 have hk:k<L.length:=by omega
 obtain⟨b,off,rfl,hbl,hc⟩:=HR1.out.at hn0
 have hcell:=hc k hk
 have HM:=hDD (List.getElem_mem hk)
 clear hc
 generalize L[k]=z at*
 go_wp2
 exact bodyPost_ret (v:= .int .i64 z) (by simp[results,Tryz.results110,go_sem]) rfl ⟨z,rfl,HM.out,C1.out,T1.out⟩
theorem OwI.any2 {w:World} {base:Nat} {v:Value} {xs:List Int} (h:OwI w base v xs): ∃A m cap,v= .slice A m cap:=by
 obtain⟨A,cap,hv,_⟩:=h.form
 exact⟨A,_,cap,hv⟩
theorem lt_cell {w:World} {b o:Nat} {v:Value} (h:w.cell? ⟨b,o,none⟩=some v):b<w.heap.size:=by
 rcases Nat.lt_or_ge b w.heap.size with h' | h'
 ·exact h'
 ·simp[World.cell?,Array.getElem?_eq_none h'] at h
set_option maxHeartbeats 1000000 in
theorem l1New_any (v:Value) (cs:List Int) (w:World) (h:ArgC w v cs) (hl:cs.length≤1048576):
  Calls Tryz.prog 51 #[v] w fun e w'=> ∃p A cap,e= .returned (.pointer (some ⟨p,0,none⟩))∧Cur p A cap cs w'∧w.heap.size≤p∧Below w.heap.size w w':=by
 obtain⟨A,cap,rfl,hcap,hm,hby,hat⟩:=h
 have HBY:=hDD hby
 have HAT:=hDD hat
 unfold maxLen at hm
 clear hby hat
 go_enter Tryz.func51,Tryz.ntmps51
 go_wp2
 go_loop [3,4] (fun hv i=> ∃(k:Nat) (x:Int),k≤cs.length∧i= .int .i64 k∧hv= .int .i64 x) (fun _ i=>cs.length-(intOf i).toNat)
 case atStart=>exact⟨0,_,Nat.zero_le _,rfl,rfl⟩
 case round=>
  obtain⟨k,x,hk,rfl,rfl⟩:=hrel
  by_cases hlt:k<cs.length
  ·rcases h4:decide ((k:Int)<4000) with _ | _
   ·have h4': ¬(k:Int)<4000:=of_decide_eq_false h4
    clear h4
    go_wp2
    refine bodyPost_ret (v:= .pointer (some ⟨w.heap.size,0,none⟩)) (by simp[results,Tryz.results51,go_sem]) rfl ⟨w.heap.size,rfl,⟨A,cap,?_⟩,Nat.le_refl _,(Below.refl _ _).alloc (Nat.le_refl _) _⟩
    refine⟨by simp[go_sem],⟨0,Nat.zero_le _,by simp[go_sem]⟩,⟨x,by simp[go_sem]⟩,fun j=>by simp[go_sem],by simp,hl,HBY.out,fun h0=> ?_⟩
    obtain⟨b,off,hA,hc⟩:=HAT.out h0
    have hb:b<w.heap.size:=lt_cell (hc 0 h0)
    exact⟨b,off,hA,by omega,by simp;omega,fun i hi=>(World.cell?_alloc_past _ _ _ hb).trans (hc i hi)⟩
   ·obtain⟨b,off,rfl,hc⟩:=HAT.out (by omega)
    have hcell:=hc k hlt
    have hz:=HBY.out _ (List.getElem_mem hlt)
    generalize cs[k]=z at*
    have hcv:IntKind.i64.wrap z=z:=by rw[IntKind.wrap_i64];omega
    clear hc
    go_wp2
    go_round
    case rel=>exact⟨k+1,_,by omega,by go_num,rfl⟩
    case measure=>(simp[intOf];omega)
  ·obtain rfl:k=cs.length:=by omega
   go_wp2
   refine bodyPost_ret (v:= .pointer (some ⟨w.heap.size,0,none⟩)) (by simp[results,Tryz.results51,go_sem]) rfl ⟨w.heap.size,rfl,⟨A,cap,?_⟩,Nat.le_refl _,(Below.refl _ _).alloc (Nat.le_refl _) _⟩
   refine⟨by simp[go_sem],⟨0,Nat.zero_le _,by simp[go_sem]⟩,⟨x,by simp[go_sem]⟩,fun j=>by simp[go_sem],by simp,hl,HBY.out,fun h0=> ?_⟩
   obtain⟨b,off,hA,hc⟩:=HAT.out h0
   have hb:b<w.heap.size:=lt_cell (hc 0 h0)
   exact⟨b,off,hA,by omega,by simp;omega,fun i hi=>(World.cell?_alloc_past _ _ _ hb).trans (hc i hi)⟩
end Go.Proofs.YtlgcflpaekbopaaGreat
namespace Go.Proofs.YtlgcflpaekbopaaGreat
set_option maxRecDepth 20000
set_option linter.unusedVariables false
set_option linter.unusedSimpArgs false
open Go.RowKit
abbrev EdD:=Int×Int×Int
abbrev GrD:=Int×Int×List EdD
def edC (e:EdD):List Value:= [.int .i64 e.1, .int .i64 e.2.1, .int .i64 e.2.2]
def edCs (es:List EdD):List Value:=(es.map edC).flatten
def E64 (e:EdD):Prop:=I64 e.1∧I64 e.2.1∧I64 e.2.2
abbrev E64s (es:List EdD):Prop:= ∀e∈es,E64 e
theorem E64s_nil:E64s []:=fun _ h=>by cases h
theorem E64s_append {a b:List EdD} (ha:E64s a) (hb:E64s b):E64s (a++b):=fun e he=>by
 rcases List.mem_append.1 he with he | he
 ·exact ha e he
 ·exact hb e he
theorem E64s_one {e:EdD} (h:E64 e):E64s [e]:=fun x hx=>by simp at hx;subst hx;exact h
theorem edCs_cons (e:EdD) (es:List EdD):edCs (e::es)=edC e++edCs es:=by simp[edCs]
theorem edCs_append (a b:List EdD):edCs (a++b)=edCs a++edCs b:=by simp[edCs]
theorem edCs_length (es:List EdD):(edCs es).length=es.length*3:=by
 induction es with
 | nil=>rfl
 | cons e es ih=>rw[edCs_cons];simp[edC,ih];omega
theorem edCs_get (es:List EdD) (k j:Nat) (hk:k<es.length) (hj:j<3):(edCs es)[k*3+j]? =(edC es[k])[j]? :=by
 induction es generalizing k with
 | nil=>cases hk
 | cons e es ih=>
   rw[edCs_cons]
   match k with
   | 0=>rw[List.getElem?_append_left (by simp[edC];omega)];simp
   | k+1=>
     rw[List.getElem?_append_right (by simp[edC];omega)]
     have:(k+1)*3+j-(edC e).length=k*3+j:=by simp[edC];omega
     rw[this,ih k (by simpa using hk)]
     rfl
theorem edCs_one {es:List EdD} {v:Value} (h:v∈edCs es):v.oneCell'=true:=by
 unfold edCs at h
 obtain⟨l,hl,hv⟩:=List.mem_flatten.1 h
 obtain⟨e,_,rfl⟩:=List.mem_map.1 hl
 simp[edC] at hv
 rcases hv with rfl | rfl | rfl<;>rfl
def ArgE (w:World) (v:Value) (es:List EdD):Prop:=
 ∃A cap,v= .slice A es.length cap∧es.length≤cap∧cap≤maxLen∧(A=none→cap=0)∧E64s es∧
  (0<es.length→ ∃b off,A=some ⟨b,off,none⟩∧b<w.heap.size∧ ∀k (hk:k<es.length),w.cell? ⟨b,off+k*3,none⟩=some (.int .i64 es[k].1)∧w.cell? ⟨b,off+k*3+1,none⟩=some (.int .i64 es[k].2.1)∧w.cell? ⟨b,off+k*3+2,none⟩=some (.int .i64 es[k].2.2))
def OwE (w:World) (base:Nat) (v:Value) (es:List EdD):Prop:=w.ownsRow base 154 3 v es.length (edCs es)∧E64s es
def ArgG (w:World) (v:Value) (g:GrD):Prop:= ∃s,v= .agg #[.int .i64 g.1, .int .i64 g.2.1,s]∧I64 g.1∧I64 g.2.1∧ArgE w s g.2.2
def OwG (w:World) (base:Nat) (v:Value) (g:GrD):Prop:= ∃s,v= .agg #[.int .i64 g.1, .int .i64 g.2.1,s]∧I64 g.1∧I64 g.2.1∧OwE w base s g.2.2
section
variable {w w':World} {v:Value} {es:List EdD} {g:GrD} {base:Nat}
theorem ArgE.below (h:ArgE w v es) (hb:Below w.heap.size w w'):ArgE w' v es:=by
 obtain⟨A,cap,hv,hc,hm,hn,hr,hx⟩:=h
 refine⟨A,cap,hv,hc,hm,hn,hr,fun h0=> ?_⟩
 obtain⟨b,off,hA,hlt,hx⟩:=hx h0
 have:=hb.size
 refine⟨b,off,hA,by omega,fun k hk=> ?_⟩
 obtain⟨h1,h2,h3⟩:=hx k hk
 exact⟨(hb.cell (p:=⟨b,_,none⟩) hlt).trans h1,(hb.cell (p:=⟨b,_,none⟩) hlt).trans h2,(hb.cell (p:=⟨b,_,none⟩) hlt).trans h3⟩
theorem ArgE.drew (h:ArgE w v es):ArgE w.drew v es:=h
theorem ArgE.alloc (h:ArgE w v es) (o:Obj):ArgE (w.alloc o) v es:=h.below ((Below.refl _ _).alloc (Nat.le_refl _) _)
theorem ArgE.form (h:ArgE w v es): ∃A cap,v= .slice A es.length cap:=by
 obtain⟨A,cap,hv,_⟩:=h
 exact⟨A,cap,hv⟩
theorem ArgE.at {A:Option Addr} {m cap:Nat} (h:ArgE w (.slice A m cap) es) {k:Nat} (hk:k<es.length):
  ∃b off,A=some ⟨b,off,none⟩∧b<w.heap.size∧w.cell? ⟨b,off+k*3,none⟩=some (.int .i64 es[k].1)∧w.cell? ⟨b,off+k*3+1,none⟩=some (.int .i64 es[k].2.1)∧w.cell? ⟨b,off+k*3+2,none⟩=some (.int .i64 es[k].2.2)∧E64 es[k]:=by
 obtain⟨A',cap',hv,hc,hm,hn,hr,hx⟩:=h
 obtain⟨b,off,hA,hlt,hx⟩:=hx (by omega)
 injection hv with e1 e2 e3
 obtain⟨h1,h2,h3⟩:=hx k hk
 exact⟨b,off,e1.trans hA,hlt,h1,h2,h3,hr _ (by simp)⟩
theorem OwE.arg (h:OwE w base v es):ArgE w v es:=by
 obtain⟨ho,hr⟩:=h
 obtain⟨A,cap,hv,hc,hm,hn,hx⟩:=owns_form ho
 refine⟨A,cap,hv,hc,hm,hn,hr,fun h0=> ?_⟩
 obtain⟨g,hA,hg1,hg2⟩:=hx h0
 subst hv hA
 refine⟨g,0,rfl,hg2,fun k hk=> ?_⟩
 have c:=fun j (hj:j<3)=>ho.cellAt (k*3+j) (by omega)
 have c0:=c 0 (by omega);have c1:=c 1 (by omega);have c2:=c 2 (by omega)
 rw[edCs_get es k _ hk (by omega)] at c0 c1 c2
 simp only[edC,List.getElem?_cons_zero,List.getElem?_cons_succ,Nat.add_zero] at c0 c1 c2
 simp only[Nat.zero_add]
 exact⟨c0,c1,c2⟩
theorem OwE.mono {base':Nat} (h:OwE w base v es) (hb:base'≤base):OwE w base' v es:=by
 refine⟨⟨h.1.1,?_⟩,h.2⟩
 rcases h.1.2 with h0 | ⟨g,cap,cur,hv,hg,r⟩
 ·exact .inl h0
 ·exact .inr ⟨g,cap,cur,hv,Nat.le_trans hb hg,r⟩
theorem OwE.below (h:OwE w base v es) (hb:Below w.heap.size w w'):OwE w' base v es:=⟨ownsRow_below h.1 hb,h.2⟩
theorem OwE.drewN (h:OwE w base v es) (k:Nat):OwE (w.drewN k) base v es:=h
theorem OwE.drew (h:OwE w base v es):OwE w.drew base v es:=h
theorem OwE.far (h:OwE w base v es) {p:Addr} (hp:p.block<base) (u:Value):OwE (w.setCell p u) base v es:=⟨ownsRow_setCell_below h.1 hp u,h.2⟩
theorem OwE.form (h:OwE w base v es): ∃A cap,v= .slice A es.length cap∧es.length≤cap∧cap≤maxLen∧(A=none→cap=0)∧(0<es.length→ ∃g,A=some ⟨g,0,none⟩∧base≤g∧g<w.heap.size):=owns_form h.1
theorem OwE.keep (h:OwE w base v es) (hb: ∀b,v.ownBlock=some b→w'.heap[b]? =w.heap[b]?):OwE w' base v es:=by
 refine⟨⟨h.1.1,?_⟩,h.2⟩
 rcases h.1.2 with h0 | ⟨g,cap,cur,hv,hg,hh,r⟩
 ·exact .inl h0
 ·exact .inr ⟨g,cap,cur,hv,hg,by rw[hb g (by rw[hv];rfl)];exact hh,r⟩
theorem OwE.nil:OwE w base (.slice none 0 0) []:=⟨⟨rfl, .inl ⟨rfl,rfl⟩⟩,E64s_nil⟩
theorem OwE_lit (w:World) {base:Nat} (hb:base≤w.heap.size):OwE (w.alloc (.cells #[] 154)) base (.slice (some ⟨w.heap.size,0,none⟩) 0 0) []:=
 ⟨by have:=World.ownsRow_lit (e:=154) (size:=3) (base:=base) w #[] 0 hb (by unfold maxLen;omega) (by simp);simpa[edCs] using this,E64s_nil⟩
theorem ArgE.cut {A:Option Addr} {m cap k:Nat} (h:ArgE w (.slice A m cap) es) (hk:k≤es.length):ArgE w (.slice (if cap=k then A else A.map (·.add (k*3))) (es.length-k) (cap-k)) (es.drop k):=by
 obtain⟨A',cap',hv,hc,hm,hn,hr,hx⟩:=h
 injection hv with e1 e2 e3
 subst e1 e2 e3
 refine⟨_,_,by rw[List.length_drop],by simp;omega,by omega,?_,fun x hx=>hr x (List.mem_of_mem_drop hx),fun h0=> ?_⟩
 ·split
  ·intro _;omega
  ·intro hA
   cases A with
   | none=>have:=hn rfl;omega
   | some a=>cases hA
 ·simp at h0
  obtain⟨b,off,rfl,hlt,hx⟩:=hx (by omega)
  rw[if_neg (by omega)]
  refine⟨b,off+k*3,by simp[Addr.add_lit],hlt,fun j hj=> ?_⟩
  simp only[List.length_drop] at hj
  have:=hx (k+j) (by omega)
  rw[List.getElem_drop]
  have e:off+k*3+j*3=off+(k+j)*3:=by omega
  rw[e]
  exact this
theorem ArgG.below (h:ArgG w v g) (hb:Below w.heap.size w w'):ArgG w' v g:=by
 obtain⟨s,hv,h1,h2,ha⟩:=h
 exact⟨s,hv,h1,h2,ha.below hb⟩
theorem OwG.arg (h:OwG w base v g):ArgG w v g:=by
 obtain⟨s,hv,h1,h2,ha⟩:=h
 exact⟨s,hv,h1,h2,ha.arg⟩
end
theorem edge_info:(Tryz.prog.info? 154).map (fun i=>(i.zero,i.size,i.bytes))=some (some (.agg #[.int .i64 0, .int .i64 0, .int .i64 0]),3,24):=by kernel_rfl
theorem edCs_set (es:List EdD) (k:Nat) (hk:k<es.length) (x y z:Int):(((edCs es).set (k*3) (.int .i64 x)).set (k*3+1) (.int .i64 y)).set (k*3+2) (.int .i64 z)=edCs (es.set k (x,y,z)):=by
 induction es generalizing k with
 | nil=>cases hk
 | cons e es ih=>
   match k with
   | 0=>simp[edCs_cons,edC]
   | k+1=>
     have h3:(edC e).length=3:=rfl
     rw[List.set_cons_succ,edCs_cons,edCs_cons,←ih k (by simpa using hk)]
     rw[List.set_append_right _ _ (by rw[h3];omega),List.set_append_right _ _ (by rw[h3];omega),List.set_append_right _ _ (by rw[h3];omega),h3]
     congr 2
     ·congr 1
      ·congr 1;omega
      ·omega
     ·omega
theorem OwE.set {w:World} {base n g cap:Nat} {es:List EdD} (h:OwE w base (.slice (some ⟨g,0,none⟩) n cap) es) (k:Nat) (hk:k<es.length) {x y z:Int} (hx:I64 x) (hy:I64 y) (hz:I64 z):
  OwE (((w.setCell ⟨g,k*3,none⟩ (.int .i64 x)).setCell ⟨g,k*3+1,none⟩ (.int .i64 y)).setCell ⟨g,k*3+2,none⟩ (.int .i64 z)) base (.slice (some ⟨g,0,none⟩) n cap) (es.set k (x,y,z))∧
  w.grownBy (((w.setCell ⟨g,k*3,none⟩ (.int .i64 x)).setCell ⟨g,k*3+1,none⟩ (.int .i64 y)).setCell ⟨g,k*3+2,none⟩ (.int .i64 z)) (some g):=by
 have hn:n=es.length:=by
  rcases h.1.2 with ⟨hv,_⟩ | ⟨g',cap',cur,hv,_⟩
  ·cases hv
  ·injection hv
 subst hn
 obtain⟨h1,g1⟩:=h.1.stored (k*3) (.int .i64 x)
 obtain⟨h2,g2⟩:=h1.stored (k*3+1) (.int .i64 y)
 obtain⟨h3,g3⟩:=h2.stored (k*3+2) (.int .i64 z)
 refine⟨⟨?_,fun e he=> ?_⟩,(g1.trans g2).trans g3⟩
 ·rw[edCs_set es k hk] at h3
  rw[List.length_set]
  exact h3
 ·rcases List.mem_or_eq_of_mem_set he with he | rfl
  ·exact h.2 e he
  ·exact⟨hx,hy,hz⟩
theorem OwE.cellAt {w:World} {base n g cap:Nat} {es:List EdD} (h:OwE w base (.slice (some ⟨g,0,none⟩) n cap) es) (k:Nat) (hk:k<es.length):
  w.cell? ⟨g,k*3,none⟩=some (.int .i64 es[k].1)∧w.cell? ⟨g,k*3+1,none⟩=some (.int .i64 es[k].2.1)∧w.cell? ⟨g,k*3+2,none⟩=some (.int .i64 es[k].2.2):=by
 obtain⟨b,off,hA,_,c0,c1,c2,_⟩:=h.arg.at hk
 injection hA with e
 injection e with e1 e2
 subst e1 e2
 rw[Nat.zero_add] at c0 c1 c2
 exact⟨c0,c1,c2⟩
theorem OwE.free {w:World} {base n g cap:Nat} {es:List EdD} (h:OwE w base (.slice (some ⟨g,0,none⟩) n cap) es) (j:Nat):w.frozen? ⟨g,j,none⟩=false:=by
 have hn:n=es.length:=by
  rcases h.1.2 with ⟨hv,_⟩ | ⟨g',cap',cur,hv,_⟩
  ·cases hv
  ·injection hv
 subst hn
 exact h.1.frozenAt j
end Go.Proofs.YtlgcflpaekbopaaGreat
namespace Go.Proofs.YtlgcflpaekbopaaGreat
set_option maxRecDepth 20000
set_option linter.unusedVariables false
set_option linter.unusedSimpArgs false
open Go.RowKit
def cmpI (a b:Int):Int:=if a<b then-1 else if b<a then 1 else 0
def cmpL (a b:Int):Int:=
 if a=b then 0 else if a= -9223372036854775808 then 1 else if b= -9223372036854775808 then-1
 else if cmpI (max a (-a)) (max b (-b))≠0 then cmpI (max a (-a)) (max b (-b)) else cmpI b a
def rk (x:Int):Int:=if x<0 then wrap64 (wrap64 (-2*x)-1) else wrap64 (wrap64 (2*x)-2)
theorem rk_small {x:Int} (h1: -3≤x) (h2:x≤3):rk x=if x<0 then-2*x-1 else 2*x-2:=by
 unfold rk
 split
 ·rw[IntWalk.wrap64_in (-2*x) ⟨by omega,by omega⟩]
  exact IntWalk.wrap64_in _ ⟨by omega,by omega⟩
 ·rw[IntWalk.wrap64_in (2*x) ⟨by omega,by omega⟩]
  exact IntWalk.wrap64_in _ ⟨by omega,by omega⟩
theorem rk_cmp {a b:Int} (h1: -3≤a) (h2:a≤3) (h3:a≠0) (h4: -3≤b) (h5:b≤3) (h6:b≠0):rk b≤rk a↔0≤cmpL a b:=by
 rw[rk_small h1 h2,rk_small h4 h5]
 unfold cmpL cmpI
 repeat' split
 all_goals omega
set_option maxHeartbeats 400000 in
theorem l2Rank_any (x:Int) (w:World):
  Calls Tryz.prog 100 #[.int .i64 x] w fun e w'=>e= .returned (.int .i64 (rk x))∧w=w':=by
 go_enter Tryz.func100,Tryz.ntmps100
 go_wp2
 all_goals go_ret
 all_goals (refine⟨?_,rfl⟩;unfold rk;simp_all)
 omega
set_option maxHeartbeats 400000 in
theorem compareInts_any (a b:Int) (w:World):
  Calls Tryz.prog 101 #[.int .i64 a, .int .i64 b] w fun e w'=>e= .returned (.int .i64 (cmpI a b))∧w=w':=by
 rcases Int.lt_trichotomy a b with h | h | h
 ·go_enter Tryz.func101,Tryz.ntmps101
  go_wp2
  go_ret
  exact⟨ret_int (by unfold cmpI;rw[if_pos h]),rfl⟩
 ·subst h
  go_enter Tryz.func101,Tryz.ntmps101
  go_wp2
  go_ret
  exact⟨ret_int (by unfold cmpI;simp),rfl⟩
 ·have h': ¬a<b:=by omega
  go_enter Tryz.func101,Tryz.ntmps101
  go_wp2
  go_ret
  exact⟨ret_int (by unfold cmpI;rw[if_neg (by omega),if_pos h]),rfl⟩
set_option maxHeartbeats 1000000 in
theorem compareLetters_any (a b:Int) (w:World) (ha:I64 a) (hb:I64 b):
  Calls Tryz.prog 58 #[.int .i64 a, .int .i64 b] w fun e w'=>e= .returned (.int .i64 (cmpL a b))∧w=w':=by
 have ha1:=ha.1
 have ha2:=ha.2
 have hb1:=hb.1
 have hb2:=hb.2
 clear ha hb
 rcases e1:(a==b) with _ | _
 ·rcases e2:(a== -9223372036854775808) with _ | _
  ·rcases e3:(b== -9223372036854775808) with _ | _
   ·have n1:a≠b:=by simpa using e1
    have n2:a≠ -9223372036854775808:=by simpa using e2
    have n3:b≠ -9223372036854775808:=by simpa using e3
    have F:Hid (cmpL a b=if cmpI (max a (-a)) (max b (-b))≠0 then cmpI (max a (-a)) (max b (-b)) else cmpI b a):=hDD (by unfold cmpL;rw[if_neg n1,if_neg n2,if_neg n3])
    have ha3: -9223372036854775808<a:=by omega
    have hb3: -9223372036854775808<b:=by omega
    clear n1 n2 n3
    rcases Int.lt_or_le a 0 with sa | sa<;>rcases Int.lt_or_le b 0 with sb | sb
    ·have m1:Hid (max a (-a)= -a):=hDD (by omega)
     have m2:Hid (max b (-b)= -b):=hDD (by omega)
     have G:=F.out
     rw[m1.out,m2.out] at G
     have FG:=hDD G
     clear G F
     have p1:a< -a:=by omega
     have p2:b< -b:=by omega
     rcases e4:(cmpI (-a) (-b) != 0) with _ | _
     ·have H:Hid (cmpL a b=cmpI b a):=hDD (by rw[FG.out,if_neg (by simpa using e4)])
      go_enter Tryz.func58,Tryz.ntmps58
      go_wp2_with (go_at_call 101;refine(compareInts_any _ _ _).mono ?_;rintro e w' ⟨rfl,rfl⟩)
      go_ret
      exact⟨ret_int H.out.symm,rfl⟩
     ·have H:Hid (cmpL a b=cmpI (-a) (-b)):=hDD (by rw[FG.out,if_pos (by simpa using e4)])
      go_enter Tryz.func58,Tryz.ntmps58
      go_wp2_with (go_at_call 101;refine(compareInts_any _ _ _).mono ?_;rintro e w' ⟨rfl,rfl⟩)
      go_ret
      exact⟨ret_int H.out.symm,rfl⟩
    ·have m1:Hid (max a (-a)= -a):=hDD (by omega)
     have m2:Hid (max b (-b)=b):=hDD (by omega)
     have G:=F.out
     rw[m1.out,m2.out] at G
     have FG:=hDD G
     clear G F
     have p1:a< -a:=by omega
     have p2: ¬b< -b:=by omega
     rcases e4:(cmpI (-a) (b) != 0) with _ | _
     ·have H:Hid (cmpL a b=cmpI b a):=hDD (by rw[FG.out,if_neg (by simpa using e4)])
      go_enter Tryz.func58,Tryz.ntmps58
      go_wp2_with (go_at_call 101;refine(compareInts_any _ _ _).mono ?_;rintro e w' ⟨rfl,rfl⟩)
      go_ret
      exact⟨ret_int H.out.symm,rfl⟩
     ·have H:Hid (cmpL a b=cmpI (-a) (b)):=hDD (by rw[FG.out,if_pos (by simpa using e4)])
      go_enter Tryz.func58,Tryz.ntmps58
      go_wp2_with (go_at_call 101;refine(compareInts_any _ _ _).mono ?_;rintro e w' ⟨rfl,rfl⟩)
      go_ret
      exact⟨ret_int H.out.symm,rfl⟩
    ·have m1:Hid (max a (-a)=a):=hDD (by omega)
     have m2:Hid (max b (-b)= -b):=hDD (by omega)
     have G:=F.out
     rw[m1.out,m2.out] at G
     have FG:=hDD G
     clear G F
     have p1: ¬a< -a:=by omega
     have p2:b< -b:=by omega
     rcases e4:(cmpI (a) (-b) != 0) with _ | _
     ·have H:Hid (cmpL a b=cmpI b a):=hDD (by rw[FG.out,if_neg (by simpa using e4)])
      go_enter Tryz.func58,Tryz.ntmps58
      go_wp2_with (go_at_call 101;refine(compareInts_any _ _ _).mono ?_;rintro e w' ⟨rfl,rfl⟩)
      go_ret
      exact⟨ret_int H.out.symm,rfl⟩
     ·have H:Hid (cmpL a b=cmpI (a) (-b)):=hDD (by rw[FG.out,if_pos (by simpa using e4)])
      go_enter Tryz.func58,Tryz.ntmps58
      go_wp2_with (go_at_call 101;refine(compareInts_any _ _ _).mono ?_;rintro e w' ⟨rfl,rfl⟩)
      go_ret
      exact⟨ret_int H.out.symm,rfl⟩
    ·have m1:Hid (max a (-a)=a):=hDD (by omega)
     have m2:Hid (max b (-b)=b):=hDD (by omega)
     have G:=F.out
     rw[m1.out,m2.out] at G
     have FG:=hDD G
     clear G F
     have p1: ¬a< -a:=by omega
     have p2: ¬b< -b:=by omega
     rcases e4:(cmpI (a) (b) != 0) with _ | _
     ·have H:Hid (cmpL a b=cmpI b a):=hDD (by rw[FG.out,if_neg (by simpa using e4)])
      go_enter Tryz.func58,Tryz.ntmps58
      go_wp2_with (go_at_call 101;refine(compareInts_any _ _ _).mono ?_;rintro e w' ⟨rfl,rfl⟩)
      go_ret
      exact⟨ret_int H.out.symm,rfl⟩
     ·have H:Hid (cmpL a b=cmpI (a) (b)):=hDD (by rw[FG.out,if_pos (by simpa using e4)])
      go_enter Tryz.func58,Tryz.ntmps58
      go_wp2_with (go_at_call 101;refine(compareInts_any _ _ _).mono ?_;rintro e w' ⟨rfl,rfl⟩)
      go_ret
      exact⟨ret_int H.out.symm,rfl⟩
   ·have H:Hid (cmpL a b= -1):=hDD (by unfold cmpL;simp at e1 e2 e3;rw[if_neg e1,if_neg e2,if_pos e3])
    go_enter Tryz.func58,Tryz.ntmps58
    go_wp2
    go_ret
    exact⟨ret_int H.out.symm,rfl⟩
  ·have H:Hid (cmpL a b=1):=hDD (by unfold cmpL;simp at e1 e2;rw[if_neg e1,if_pos e2])
   go_enter Tryz.func58,Tryz.ntmps58
   go_wp2
   go_ret
   exact⟨ret_int H.out.symm,rfl⟩
 ·have H:Hid (cmpL a b=0):=hDD (by unfold cmpL;simp at e1;rw[if_pos e1])
  go_enter Tryz.func58,Tryz.ntmps58
  go_wp2
  go_ret
  exact⟨ret_int H.out.symm,rfl⟩
end Go.Proofs.YtlgcflpaekbopaaGreat
namespace Go.Proofs.YtlgcflpaekbopaaGreat
set_option maxRecDepth 20000
set_option linter.unusedVariables false
set_option linter.unusedSimpArgs false
open Go.RowKit
def edV (e:EdD):Value:= .agg #[.int .i64 e.1, .int .i64 e.2.1, .int .i64 e.2.2]
theorem edge_eqIn (a b:EdD) (w:World):(Op.equalIn 10000 154 (edV a) (edV b)).run Tryz.prog w= .ok (decide (a=b)) w:=by
 have u3:=Tryz.underlying3
 have a3:=Tryz.isAgg3
 have z3:=Tryz.sizeOf3
 have hS:Tryz.prog.underlying 154=some (.struct (Tryz.prog.fieldsOf 154)):=by kernel_rfl
 have hp:Tryz.prog.stoodInHeld 154=false:=by kernel_rfl
 obtain⟨x,y,z⟩:=a
 obtain⟨x',y',z'⟩:=b
 simp only[edV]
 rw[show(10000:Nat)=9999+1 from rfl,run_equalIn_agg w 9999 154 _ _ hS hp]
 simp only[Program.fieldsOf,Tryz.underlying154]
 go_simp
 by_cases h1:x=x'<;>by_cases h2:y=y'<;>by_cases h3:z=z'<;>simp[h1,h2,h3]
theorem edge_neq (a b:EdD) (w:World):(binOp .neq 154 (edV a) (edV b)).run Tryz.prog w= .ok (.bool (!decide (a=b))) w:=by
 have:=edge_eqIn a b w
 unfold edV at this⊢
 rw[run_neq_struct,this]
 rfl
theorem edge_eql (a b:EdD) (w:World):(binOp .eql 154 (edV a) (edV b)).run Tryz.prog w= .ok (.bool (decide (a=b))) w:=by
 have:=edge_eqIn a b w
 unfold edV at this⊢
 rw[run_eql_struct,this]
 rfl
theorem edge_guard:Tryz.prog.eqGuardType Tryz.prog.depth 154=false:=by kernel_rfl
set_option maxHeartbeats 1000000 in
theorem slicesEqualE_any (v u:Value) (es es':List EdD) (w:World) (h:ArgE w v es) (h':ArgE w u es'):
  Calls Tryz.prog 157 #[v,u] w fun e w'=>e= .returned (.bool (decide (es=es')))∧ ∃n,w'=w.drewN n:=by
 have H:=hDD h
 have H':=hDD h'
 obtain⟨A,cap,rfl,hcap,hm,_⟩:=h
 obtain⟨A',cap',rfl,hcap',hm',_⟩:=h'
 unfold maxLen at hm hm'
 by_cases hne:es.length=es'.length
 ·have hd:((es.length:Int) != (es'.length:Int))=false:=by simp[hne]
  have HNE:=hDD hne
  clear hne
  go_enter Tryz.func157,Tryz.ntmps157
  go_wp2
  go_loopw [13] (fun i wr=> ∃k:Nat,k≤es.length∧i= .int .i64 k∧es.take k=es'.take k∧ ∃n,wr=w.drewN n) (fun i _=>es.length-(intOf i).toNat)
  case atStart=>exact⟨0,Nat.zero_le _,rfl,by simp,0,rfl⟩
  case round=>
   obtain⟨k,hk,rfl,heq,n,rfl⟩:=hrel
   have HEQ:=hDD heq
   clear heq
   by_cases hlt:k<es.length
   ·have hlt':k<es'.length:=by have:=HNE.out;omega
    obtain⟨g,off,rfl,hg,c0,c1,c2,_⟩:=H.out.at hlt
    obtain⟨g',off',rfl,hg',c0',c1',c2',_⟩:=H'.out.at hlt'
    have HQ:Hid (es.take (k+1)=es'.take (k+1)↔es[k]=es'[k]):=hDD ⟨fun e=>by
     have:=congrArg (fun l=>l[k]?) e
     simpa[hlt,hlt'] using this,fun e=>take_eq_succ HEQ.out hlt hlt' e⟩
    have HN:Hid (es[k]≠es'[k]→es≠es'):=hDD (fun e1 e2=>by subst e2;exact e1 rfl)
    generalize es[k]=d at*
    generalize es'[k]=d' at*
    have hneq:=fun w=>edge_neq d d' w
    have hgd:=edge_guard
    unfold edV at hneq
    rcases e3:decide (d=d') with _ | _
    ·rw[e3] at hneq
     go_wp2
     go_quiet (fail)
     go_wp2
     go_ret
     exact⟨ret_bool (by symm;rw[decide_eq_false_iff_not];exact HN.out (by simpa using e3)),_,World.drewN_drewN _ _ _⟩
    ·rw[e3] at hneq
     go_wp2
     go_quiet (fail)
     go_wp2
     go_roundw
     case rel=>exact⟨k+1,by omega,by go_num,HQ.out.2 (by simpa using e3),_,rfl⟩
     case measure=>simp[intOf];omega
   ·obtain rfl:k=es.length:=by omega
    go_wp2
    go_ret
    refine⟨ret_bool ?_,n,rfl⟩
    have h1:=HEQ.out
    rw[List.take_length,HNE.out,List.take_length] at h1
    simp[h1]
 ·have hd:((es.length:Int) != (es'.length:Int))=true:=by simp;omega
  go_enter Tryz.func157,Tryz.ntmps157
  go_wp2
  go_ret
  exact⟨ret_bool (by symm;rw[decide_eq_false_iff_not];rintro rfl;exact hne rfl),0,rfl⟩
set_option maxHeartbeats 1000000 in
theorem implEqualGraphs_any (v u:Value) (d d':GrD) (w:World) (h:ArgG w v d) (h':ArgG w u d'):
  Calls Tryz.prog 131 #[v,u] w fun e w'=>e= .returned (.bool (decide (d=d')))∧Below w.heap.size w w':=by
 obtain⟨s,rfl,_,_,ha⟩:=h
 obtain⟨s',rfl,_,_,ha'⟩:=h'
 obtain⟨x,y,es⟩:=d
 obtain⟨x',y',es'⟩:=d'
 have H:=hDD ha
 have H':=hDD ha'
 clear ha ha'
 rcases e1:(x==x') with _ | _
 ·go_enter Tryz.func131,Tryz.ntmps131
  go_wp2
  go_ret
  exact⟨ret_bool (by simp at e1;simp[e1]),(by repeat(first | exact Below.refl _ _ | (refine Below.setCell ?_ (by first | omega | (simp<;>omega)) _) | (refine bel_drewN ?_ _) | (refine Below.drew ?_) | (refine Below.alloc ?_ (by first | omega | (simp<;>omega)) _)))⟩
 ·rcases e2:(y==y') with _ | _
  ·go_enter Tryz.func131,Tryz.ntmps131
   go_wp2
   go_ret
   exact⟨ret_bool (by simp at e2;simp[e2]),(by repeat(first | exact Below.refl _ _ | (refine Below.setCell ?_ (by first | omega | (simp<;>omega)) _) | (refine bel_drewN ?_ _) | (refine Below.drew ?_) | (refine Below.alloc ?_ (by first | omega | (simp<;>omega)) _)))⟩
  ·have F:Hid (decide ((x,y,es)=(x',y',es'))=decide (es=es')):=hDD (by simp at e1 e2;simp[e1,e2])
   go_enter Tryz.func131,Tryz.ntmps131
   go_wp2_with fail
   have hb:Below w.heap.size w ((w.alloc (Obj.cells #[Value.int IntKind.i64 x,Value.int IntKind.i64 y,s] 82)).alloc (Obj.cells #[Value.int IntKind.i64 x',Value.int IntKind.i64 y',s'] 82)):=(by repeat(first | exact Below.refl _ _ | (refine Below.setCell ?_ (by first | omega | (simp<;>omega)) _) | (refine bel_drewN ?_ _) | (refine Below.drew ?_) | (refine Below.alloc ?_ (by first | omega | (simp<;>omega)) _)))
   refine(slicesEqualE_any _ _ es es' _ (H.out.below hb) (H'.out.below hb)).mono ?_
   rintro e w1 ⟨rfl,n,rfl⟩
   have HB:=hDD hb
   clear hb
   go_wp2
   go_ret
   exact⟨ret_bool F.out.symm,bel_drewN HB.out _⟩
def cmpE (a b:EdD):Int:=if cmpI a.1 b.1≠0 then cmpI a.1 b.1 else if cmpI a.2.1 b.2.1≠0 then cmpI a.2.1 b.2.1 else cmpI a.2.2 b.2.2
theorem cmpI_zero {a b:Int}:cmpI a b=0↔a=b:=by
 unfold cmpI;split
 ·constructor
  ·intro h;cases h
  ·omega
 ·split
  ·constructor
   ·intro h;cases h
   ·omega
  ·constructor
   ·omega
   ·intro _;rfl
def edgeOk (r n:Int) (e:EdD):Bool:=inB e.1 0 (wrap64 (n-1))&&inB e.2.2 0 (wrap64 (n-1))&&inB e.2.1 1 r
def okE (g:GrD) (k:Nat):Bool:=match g.2.2[k]? with
 | none=>true
 | some e=>edgeOk g.1 g.2.1 e&&(match k with
   | 0=>true
   | j+1=>match g.2.2[j]? with
     | none=>true
     | some d=>decide (cmpE d e<0))
def grB (g:GrD):Bool:=inB g.1 1 3&&inB g.2.1 1 40&&decide (g.2.2.length≤120)&&(List.range g.2.2.length).all (okE g)
theorem grB_false {g:GrD} (k:Nat) (hk:k<g.2.2.length) (h:okE g k=false):grB g=false:=by
 unfold grB
 have:(List.range g.2.2.length).all (okE g)=false:=by
  rw[List.all_eq_false]
  exact⟨k,List.mem_range.2 hk,by simp[h]⟩
 rw[this,Bool.and_false]
theorem grB_eq {g:GrD} (h: ∀k,k<g.2.2.length→okE g k=true):grB g=(inB g.1 1 3&&inB g.2.1 1 40&&decide (g.2.2.length≤120)):=by
 unfold grB
 have:(List.range g.2.2.length).all (okE g)=true:=by
  rw[List.all_eq_true]
  intro k hk
  exact h k (List.mem_range.1 hk)
 rw[this,Bool.and_true]
theorem okE_zero {g:GrD} (h:0<g.2.2.length):okE g 0=edgeOk g.1 g.2.1 g.2.2[0]:=by
 unfold okE
 rw[List.getElem?_eq_getElem h]
 simp
theorem okE_pos {g:GrD} {k:Nat} (h0:0<k) (h:k<g.2.2.length):okE g k=(edgeOk g.1 g.2.1 g.2.2[k]&& !decide (0≤cmpE g.2.2[k-1] g.2.2[k])):=by
 obtain⟨j,rfl⟩: ∃j,k=j+1:=⟨k-1,by omega⟩
 unfold okE
 rw[List.getElem?_eq_getElem h]
 show(edgeOk g.1 g.2.1 _&&(match g.2.2[j]? with | none=>true | some d=>decide (cmpE d g.2.2[j+1]<0)))=_
 rw[List.getElem?_eq_getElem (show j<g.2.2.length by omega)]
 simp only[Nat.add_sub_cancel]
 congr 1
 rw[Bool.eq_iff_iff]
 simp
theorem grB_parts {g:GrD} (h:grB g=true):(1≤g.1∧g.1≤3)∧(1≤g.2.1∧g.2.1≤40)∧g.2.2.length≤120∧ ∀k,k<g.2.2.length→okE g k=true:=by
 unfold grB at h
 simp only[Bool.and_eq_true,decide_eq_true_eq,List.all_eq_true,List.mem_range] at h
 obtain⟨⟨⟨h1,h2⟩,h3⟩,h4⟩:=h
 exact⟨inB_iff.1 h1,inB_iff.1 h2,h3,h4⟩
set_option maxHeartbeats 1000000 in
theorem implCompareEdges_any (a b:EdD) (w:World):
  Calls Tryz.prog 176 #[edV a,edV b] w fun e w'=>e= .returned (.int .i64 (cmpE a b))∧Below w.heap.size w w':=by
 obtain⟨x,y,z⟩:=a
 obtain⟨x',y',z'⟩:=b
 unfold edV
 rcases e1:(cmpI x x' != 0) with _ | _
 ·rcases e2:(cmpI y y' != 0) with _ | _
  ·have F:Hid (cmpE (x,y,z) (x',y',z')=cmpI z z'):=hDD (by simp at e1 e2;simp[cmpE,e1,e2])
   go_enter Tryz.func176,Tryz.ntmps176
   go_wp2_with (go_at_call 101;refine(compareInts_any _ _ _).mono ?_;rintro e w' ⟨rfl,rfl⟩)
   go_ret
   exact⟨ret_int F.out.symm,(by repeat(first | exact Below.refl _ _ | (refine Below.setCell ?_ (by first | omega | (simp<;>omega)) _) | (refine bel_drewN ?_ _) | (refine Below.drew ?_) | (refine Below.alloc ?_ (by first | omega | (simp<;>omega)) _)))⟩
  ·have F:Hid (cmpE (x,y,z) (x',y',z')=cmpI y y'):=hDD (by simp at e1 e2;simp[cmpE,e1,e2])
   go_enter Tryz.func176,Tryz.ntmps176
   go_wp2_with (go_at_call 101;refine(compareInts_any _ _ _).mono ?_;rintro e w' ⟨rfl,rfl⟩)
   go_ret
   exact⟨ret_int F.out.symm,(by repeat(first | exact Below.refl _ _ | (refine Below.setCell ?_ (by first | omega | (simp<;>omega)) _) | (refine bel_drewN ?_ _) | (refine Below.drew ?_) | (refine Below.alloc ?_ (by first | omega | (simp<;>omega)) _)))⟩
 ·have F:Hid (cmpE (x,y,z) (x',y',z')=cmpI x x'):=hDD (by simp at e1;simp[cmpE,e1])
  go_enter Tryz.func176,Tryz.ntmps176
  go_wp2_with (go_at_call 101;refine(compareInts_any _ _ _).mono ?_;rintro e w' ⟨rfl,rfl⟩)
  go_ret
  exact⟨ret_int F.out.symm,(by repeat(first | exact Below.refl _ _ | (refine Below.setCell ?_ (by first | omega | (simp<;>omega)) _) | (refine bel_drewN ?_ _) | (refine Below.drew ?_) | (refine Below.alloc ?_ (by first | omega | (simp<;>omega)) _)))⟩
set_option maxHeartbeats 1000000 in
theorem grHas_any (r n:Int) (A:Option Addr) (m cap:Nat) (x:Int) (w:World):
  Calls Tryz.prog 170 #[.agg #[.int .i64 r, .int .i64 n, .slice A m cap], .int .i64 x] w fun e' w'=>e'= .returned (.bool (inB x 0 (wrap64 (n-1))))∧Below w.heap.size w w':=by
 go_enter Tryz.func170,Tryz.ntmps170
 go_wp2_with (go_at_call 56;refine(within_any _ _ _ _).mono ?_;rintro e w' ⟨rfl,rfl⟩)
 go_ret
 exact⟨rfl,(by repeat(first | exact Below.refl _ _ | (refine Below.setCell ?_ (by first | omega | (simp<;>omega)) _) | (refine bel_drewN ?_ _) | (refine Below.drew ?_) | (refine Below.alloc ?_ (by first | omega | (simp<;>omega)) _)))⟩
set_option maxHeartbeats 1000000 in
theorem accepts_any (r n:Int) (A:Option Addr) (m cap:Nat) (e:EdD) (w:World):
  Calls Tryz.prog 175 #[.agg #[.int .i64 r, .int .i64 n, .slice A m cap],edV e] w fun e' w'=>e'= .returned (.bool (edgeOk r n e))∧Below w.heap.size w w':=by
 obtain⟨x,y,z⟩:=e
 unfold edV
 rcases e1:inB x 0 (wrap64 (n-1)) with _ | _
 ·go_enter Tryz.func175,Tryz.ntmps175
  go_wp2_with fail
  refine(grHas_any _ _ _ _ _ _ _).mono ?_
  rintro e w1 ⟨rfl,b1⟩
  have B1:=hDD b1
  obtain⟨hc,hf⟩:=bcell b1
  have hz:=b1.size
  simp at hz
  clear b1
  rw[e1]
  go_wp2
  go_ret
  exact⟨ret_bool (by simp[edgeOk,e1]),(by repeat(first | exact Below.refl _ _ | (refine Below.setCell ?_ (by first | omega | (simp<;>omega)) _) | (refine bel_drewN ?_ _) | (refine Below.drew ?_) | (refine Below.alloc ?_ (by first | omega | (simp<;>omega)) _) | (refine Below.trans ?_ (Below.mono (Hid.out B1) (by first | omega | (simp<;>omega))))))⟩
 ·go_enter Tryz.func175,Tryz.ntmps175
  go_wp2_with fail
  refine(grHas_any _ _ _ _ _ _ _).mono ?_
  rintro e w1 ⟨rfl,b1⟩
  have B1:=hDD b1
  obtain⟨hc,hf⟩:=bcell b1
  have hz:=b1.size
  simp at hz
  clear b1
  rw[e1]
  go_wp2_with fail
  refine(grHas_any _ _ _ _ _ _ _).mono ?_
  rintro e w2 ⟨rfl,b2⟩
  have B2:=hDD b2
  obtain⟨hc2,hf2⟩:=bcell b2
  have hz2:=b2.size
  have k0:w2.cell? ⟨w.heap.size,0,none⟩=some (.int .i64 r):=by rw[hc2 _ _ (by omega),hc _ _ (by simp;omega)];simp[go_sem]
  have k1:w2.cell? ⟨w.heap.size+1,1,none⟩=some (.int .i64 y):=by rw[hc2 _ _ (by omega),hc _ _ (by simp)];simp[go_sem]
  clear b2 hc hf hc2 hf2
  rcases e2:inB z 0 (wrap64 (n-1)) with _ | _
  ·go_wp2
   go_ret
   exact⟨ret_bool (by simp[edgeOk,e1,e2]),(by repeat(first | exact Below.refl _ _ | (refine Below.setCell ?_ (by first | omega | (simp<;>omega)) _) | (refine bel_drewN ?_ _) | (refine Below.drew ?_) | (refine Below.alloc ?_ (by first | omega | (simp<;>omega)) _) | (refine Below.trans ?_ (Below.mono (Hid.out B2) (by first | omega | (simp<;>omega)))) | (refine Below.trans ?_ (Below.mono (Hid.out B1) (by first | omega | (simp<;>omega))))))⟩
  ·go_wp2_with fail
   refine(within_any _ _ _ _).mono ?_
   rintro e w' ⟨rfl,rfl⟩
   rcases e3:inB y 1 r with _ | _
   ·go_wp2
    go_ret
    exact⟨ret_bool (by simp[edgeOk,e1,e2,e3]),(by repeat(first | exact Below.refl _ _ | (refine Below.setCell ?_ (by first | omega | (simp<;>omega)) _) | (refine bel_drewN ?_ _) | (refine Below.drew ?_) | (refine Below.alloc ?_ (by first | omega | (simp<;>omega)) _) | (refine Below.trans ?_ (Below.mono (Hid.out B2) (by first | omega | (simp<;>omega)))) | (refine Below.trans ?_ (Below.mono (Hid.out B1) (by first | omega | (simp<;>omega))))))⟩
   ·go_wp2
    go_ret
    exact⟨ret_bool (by simp[edgeOk,e1,e2,e3]),(by repeat(first | exact Below.refl _ _ | (refine Below.setCell ?_ (by first | omega | (simp<;>omega)) _) | (refine bel_drewN ?_ _) | (refine Below.drew ?_) | (refine Below.alloc ?_ (by first | omega | (simp<;>omega)) _) | (refine Below.trans ?_ (Below.mono (Hid.out B2) (by first | omega | (simp<;>omega)))) | (refine Below.trans ?_ (Below.mono (Hid.out B1) (by first | omega | (simp<;>omega))))))⟩
end Go.Proofs.YtlgcflpaekbopaaGreat
namespace Go.Proofs.YtlgcflpaekbopaaGreat
set_option maxRecDepth 20000
set_option linter.unusedVariables false
set_option linter.unusedSimpArgs false
structure TOrd {α:Type} (c:α→α→Int):Prop where
 zero: ∀ {a b},c a b=0↔a=b
 anti: ∀ {a b},c a b<0↔0<c b a
 trans: ∀ {a b d},c a b<0→c b d<0→c a d<0
theorem cmpI_neg {a b:Int}:cmpI a b<0↔a<b:=by
 unfold cmpI;split
 ·simp[*]
 ·split<;>omega
theorem cmpI_pos {a b:Int}:0<cmpI a b↔b<a:=by
 unfold cmpI;split
 ·omega
 ·split<;>omega
theorem cmpI_ord:TOrd cmpI:=⟨cmpI_zero,by intro a b;rw[cmpI_neg,cmpI_pos],by intro a b d h1 h2;rw[cmpI_neg] at*;omega⟩
theorem cmpE_neg {a b:EdD}:cmpE a b<0↔a.1<b.1∨(a.1=b.1∧(a.2.1<b.2.1∨(a.2.1=b.2.1∧a.2.2<b.2.2))):=by
 unfold cmpE
 split
 ·rename_i h
  have h':a.1≠b.1:=fun e=>h (cmpI_zero.2 e)
  rw[cmpI_neg];omega
 ·rename_i h
  have h':a.1=b.1:=cmpI_zero.1 (by simpa using h)
  split
  ·rename_i h2
   have h2':a.2.1≠b.2.1:=fun e=>h2 (cmpI_zero.2 e)
   rw[cmpI_neg];omega
  ·rename_i h2
   have h2':a.2.1=b.2.1:=cmpI_zero.1 (by simpa using h2)
   rw[cmpI_neg];omega
theorem cmpE_pos {a b:EdD}:0<cmpE a b↔b.1<a.1∨(a.1=b.1∧(b.2.1<a.2.1∨(a.2.1=b.2.1∧b.2.2<a.2.2))):=by
 unfold cmpE
 split
 ·rename_i h
  have h':a.1≠b.1:=fun e=>h (cmpI_zero.2 e)
  rw[cmpI_pos];omega
 ·rename_i h
  have h':a.1=b.1:=cmpI_zero.1 (by simpa using h)
  split
  ·rename_i h2
   have h2':a.2.1≠b.2.1:=fun e=>h2 (cmpI_zero.2 e)
   rw[cmpI_pos];omega
  ·rename_i h2
   have h2':a.2.1=b.2.1:=cmpI_zero.1 (by simpa using h2)
   rw[cmpI_pos];omega
theorem cmpE_zero {a b:EdD}:cmpE a b=0↔a=b:=by
 obtain⟨x,y,z⟩:=a
 obtain⟨x',y',z'⟩:=b
 have h1:= @cmpE_neg (x,y,z) (x',y',z')
 have h2:= @cmpE_pos (x,y,z) (x',y',z')
 simp only at h1 h2
 constructor
 ·intro h
  have n1: ¬cmpE (x,y,z) (x',y',z')<0:=by omega
  have n2: ¬0<cmpE (x,y,z) (x',y',z'):=by omega
  rw[h1] at n1
  rw[h2] at n2
  have e1:x=x':=by omega
  have e2:y=y':=by omega
  have e3:z=z':=by omega
  rw[e1,e2,e3]
 ·intro h
  injection h with e1 h
  injection h with e2 e3
  have n1: ¬cmpE (x,y,z) (x',y',z')<0:=by rw[h1];omega
  have n2: ¬0<cmpE (x,y,z) (x',y',z'):=by rw[h2];omega
  omega
theorem cmpE_ord:TOrd cmpE:=⟨cmpE_zero,by intro a b;rw[cmpE_neg,cmpE_pos];omega,by intro a b d h1 h2;rw[cmpE_neg] at*;omega⟩
section
variable {α:Type} {c:α→α→Int}
def Srt (c:α→α→Int) (l:List α):Prop:=l.Pairwise fun a b=>c a b<0
theorem TOrd.irrefl (h:TOrd c) (a:α): ¬c a a<0:=by
 have:=(h.zero (a:=a) (b:=a)).2 rfl
 omega
theorem Srt.ext (h:TOrd c): ∀ {l l':List α},Srt c l→Srt c l'→(∀x,x∈l↔x∈l')→l=l'
 | [],[],_,_,_=>rfl
 | [],b::l',_,_,hm=>absurd ((hm b).2 (by simp)) (by simp)
 | a::l,[],_,_,hm=>absurd ((hm a).1 (by simp)) (by simp)
 | a::l,b::l',h1,h2,hm=>by
   have p1:=List.pairwise_cons.1 h1
   have p2:=List.pairwise_cons.1 h2
   have e:a=b:=by
    have ha:=(hm a).1 (by simp)
    have hb:=(hm b).2 (by simp)
    rcases List.mem_cons.1 ha with e | ha
    ·exact e
    ·rcases List.mem_cons.1 hb with e | hb
     ·exact e.symm
     ·exact absurd (h.trans (p1.1 b hb) (p2.1 a ha)) (h.irrefl a)
   subst e
   congr 1
   refine Srt.ext h p1.2 p2.2 fun x=>⟨fun hx=> ?_,fun hx=> ?_⟩
   ·rcases List.mem_cons.1 ((hm x).1 (by simp[hx])) with rfl | h'
    ·exact absurd (p1.1 x hx) (h.irrefl x)
    ·exact h'
   ·rcases List.mem_cons.1 ((hm x).2 (by simp[hx])) with rfl | h'
    ·exact absurd (p2.1 x hx) (h.irrefl x)
    ·exact h'
def insS (c:α→α→Int) (x:α) (s:List α×Bool) (y:α):List α×Bool:=
 if c x y=0 then(s.1++ [y],true) else if c x y<0∧s.2=false then(s.1++ [x,y],true) else(s.1++ [y],s.2)
def insF (c:α→α→Int) (l:List α) (x:α):List α:=if(l.foldl (insS c x) ([],false)).2 then(l.foldl (insS c x) ([],false)).1 else(l.foldl (insS c x) ([],false)).1++ [x]
def insR (c:α→α→Int) (x:α):List α→List α
 | []=> [x]
 | y::l=>if c x y=0 then y::l else if c x y<0 then x::y::l else y::insR c x l
theorem insS_true (x:α) (l acc:List α):l.foldl (insS c x) (acc,true)=(acc++l,true):=by
 induction l generalizing acc with
 | nil=>simp
 | cons y l ih=>
   rw[List.foldl_cons]
   have:insS c x (acc,true) y=(acc++ [y],true):=by unfold insS;split<;>simp
   rw[this,ih]
   simp
theorem insF_eq (l:List α) (x:α):insF c l x=insR c x l:=by
 have key: ∀l acc:List α,(if(l.foldl (insS c x) (acc,false)).2 then(l.foldl (insS c x) (acc,false)).1 else(l.foldl (insS c x) (acc,false)).1++ [x])=acc++insR c x l:=by
  intro l
  induction l with
  | nil=>intro acc;simp[insR]
  | cons y l ih=>
    intro acc
    rw[List.foldl_cons]
    by_cases h0:c x y=0
    ·have:insS c x (acc,false) y=(acc++ [y],true):=by unfold insS;rw[if_pos h0]
     rw[this,insS_true]
     simp[insR,h0]
    ·by_cases h1:c x y<0
     ·have:insS c x (acc,false) y=(acc++ [x,y],true):=by unfold insS;rw[if_neg h0,if_pos ⟨h1,rfl⟩]
      rw[this,insS_true]
      simp[insR,h0,h1]
     ·have:insS c x (acc,false) y=(acc++ [y],false):=by unfold insS;rw[if_neg h0,if_neg (fun h=>h1 h.1)]
      rw[this,ih]
      simp[insR,h0,h1]
 simpa[insF] using key l []
theorem insR_mem (x:α) (l:List α) (h:TOrd c) (y:α):y∈insR c x l↔y=x∨y∈l:=by
 induction l with
 | nil=>simp[insR]
 | cons a l ih=>
   unfold insR
   split
   ·rename_i h0
    have:=h.zero.1 h0
    subst this
    simp
   ·split
    ·simp
    ·simp only[List.mem_cons,ih]
     constructor
     ·rintro(e | e | e)
      ·exact .inr (.inl e)
      ·exact .inl e
      ·exact .inr (.inr e)
     ·rintro(e | e | e)
      ·exact .inr (.inl e)
      ·exact .inl e
      ·exact .inr (.inr e)
theorem insR_srt (h:TOrd c) (x:α) (l:List α) (hl:Srt c l):Srt c (insR c x l):=by
 induction l with
 | nil=>simp[insR,Srt]
 | cons a l ih=>
   have p:=List.pairwise_cons.1 hl
   unfold insR
   split
   ·exact hl
   ·rename_i h0
    split
    ·rename_i h1
     refine List.pairwise_cons.2 ⟨fun y hy=> ?_,hl⟩
     rcases List.mem_cons.1 hy with rfl | hy
     ·exact h1
     ·exact h.trans h1 (p.1 y hy)
    ·rename_i h1
     refine List.pairwise_cons.2 ⟨fun y hy=> ?_,ih p.2⟩
     rcases(insR_mem x l h y).1 hy with rfl | hy
     ·have:=(h.anti (a:=a) (b:=y)).2 (by omega)
      exact this
     ·exact p.1 y hy
theorem insF_len (l:List α) (x:α):(insF c l x).length≤l.length+1:=by
 rw[insF_eq]
 induction l with
 | nil=>simp[insR]
 | cons a l ih=>
   unfold insR
   split
   ·simp
   ·split
    ·simp
    ·simp only[List.length_cons];omega
def srt (c:α→α→Int) (L:List α):List α:=L.foldl (insF c) []
theorem srt_spec (h:TOrd c) (L:List α):Srt c (srt c L)∧ ∀x,x∈srt c L↔x∈L:=by
 have key: ∀L acc:List α,Srt c acc→Srt c (L.foldl (insF c) acc)∧ ∀x,x∈L.foldl (insF c) acc↔x∈acc∨x∈L:=by
  intro L
  induction L with
  | nil=>intro acc hs;exact⟨hs,fun x=>by simp⟩
  | cons y L ih=>
    intro acc hs
    rw[List.foldl_cons]
    obtain⟨h1,h2⟩:=ih (insF c acc y) (by rw[insF_eq];exact insR_srt h y acc hs)
    refine⟨h1,fun x=> ?_⟩
    rw[h2,insF_eq,insR_mem y acc h]
    simp only[List.mem_cons]
    constructor
    ·rintro((e | e) | e)
     ·exact .inr (.inl e)
     ·exact .inl e
     ·exact .inr (.inr e)
    ·rintro(e | e | e)
     ·exact .inl (.inr e)
     ·exact .inl (.inl e)
     ·exact .inr e
 obtain⟨h1,h2⟩:=key L [] List.Pairwise.nil
 exact⟨h1,fun x=>by simpa[srt] using h2 x⟩
theorem srt_eq (h:TOrd c) {L l:List α} (hs:Srt c l) (hm: ∀x,x∈l↔x∈L):l=srt c L:=
 Srt.ext h hs (srt_spec h L).1 fun x=>by rw[hm,(srt_spec h L).2]
theorem srt_len (L:List α):(srt c L).length≤L.length:=by
 have key: ∀L acc:List α,(L.foldl (insF c) acc).length≤acc.length+L.length:=by
  intro L
  induction L with
  | nil=>intro acc;simp
  | cons y L ih=>
    intro acc
    have h1:=ih (insF c acc y)
    have h2:=insF_len (c:=c) acc y
    simp only[List.foldl_cons,List.length_cons]
    omega
 simpa[srt] using key L []
end
end Go.Proofs.YtlgcflpaekbopaaGreat
namespace Go.Proofs.YtlgcflpaekbopaaGreat
set_option maxRecDepth 20000
set_option linter.unusedVariables false
set_option linter.unusedSimpArgs false
open Go.RowKit
structure BelW (w:World) where
 W:World
 h:Below w.heap.size w W
instance (w:World):Inhabited (BelW w):=⟨⟨w,Below.refl _ _⟩⟩
theorem wp_region_quiet_bel {P:Program} {id:Nat} {Q:Exit→Act→World→Prop} {a:Act} {w:World} {l:List Oper} (hm:P.follows .mixedOrders=true) (hB:Region.lexB .any l.toArray=true)
  (h:wpQuiet P l.toArray (fun w'=> ∃p:BelW w,w'=p.W) (fun a'=> ∀w',(∃p:BelW w,w'=p.W)→Q .normal a' w') l a):(Code.region id l.toArray true).wp P Q a w:=
 wp_region_quiet (C:=fun w'=> ∃p:BelW w,w'=p.W) hm hB ⟨⟨w.drew,(Below.refl _ _).drew⟩,rfl⟩ (by simpa using h)
theorem Calls.bel_of {P:Program} {f:FuncId} {args:Array Value} {w:World} {p:BelW w} {v:Value}
  (h:Calls P f args p.W fun e w'=>e= .returned v∧Below p.W.heap.size p.W w'):Calls P f args p.W fun e w''=>e= .returned v∧ ∃q:BelW w,w''=q.W:=
 h.mono fun _ w' ⟨he,hb⟩=>⟨he,⟨w',p.h.trans (hb.mono p.h.size)⟩,rfl⟩
theorem Calls.bel_same {P:Program} {f:FuncId} {args:Array Value} {w:World} {p:BelW w} {v:Value}
  (h:Calls P f args p.W fun e w'=>e= .returned v∧p.W=w'):Calls P f args p.W fun e w''=>e= .returned v∧ ∃q:BelW w,w''=q.W:=
 h.mono fun _ w' ⟨he,hb⟩=>⟨he,p,hb.symm⟩
theorem BelW.cell {w:World} {b o:Nat} {v:Value} (h:w.cell? ⟨b,o,none⟩=some v) (hlt:b<w.heap.size) (p:BelW w):p.W.cell? ⟨b,o,none⟩=some v:=
 (p.h.cell (p:=⟨b,o,none⟩) hlt).trans h
def dumL:List Oper→List Oper
 | []=> []
 | [o]=> [{o with op:= .move (.const (.bool false))}]
 | o::o'::r=>o::dumL (o'::r)
def lastL:List Oper→List Oper
 | []=> []
 | [o]=> [o]
 | _::o'::r=>lastL (o'::r)
theorem dumL_len: ∀l:List Oper,(dumL l).length=l.length
 | []=>rfl
 | [_]=>rfl
 | _::o'::r=>by show(dumL (o'::r)).length+1=_;rw[dumL_len (o'::r)];rfl
theorem dumL_get: ∀(l:List Oper) (j:Nat),j+1<l.length→(dumL l)[j]? =l[j]?
 | [],_,h=>by simp at h
 | [_],j,h=>by simp at h
 | _::_::_,0,_=>rfl
 | _::o'::r,j+1,h=>by
   show(dumL (o'::r))[j]? =(o'::r)[j]?
   exact dumL_get (o'::r) j (by simp at h⊢;omega)
theorem dumL_last: ∀(l:List Oper) (n:Nat),l.length=n+1→ ∃st,l[n]? =some st∧lastL l= [st]∧(dumL l)[n]? =some {st with op:= .move (.const (.bool false))}
 | [],n,h=>by simp at h
 | [o], n, h => by obtain rfl:n=0:=by simpa using h.symm
                   exact⟨o,rfl,rfl,rfl⟩
 | _::o'::r,0,h=>by simp at h
 | _::o'::r,n+1,h=>by
   obtain⟨st,h1,h2,h3⟩:=dumL_last (o'::r) n (by simpa using h)
   exact⟨st,h1,h2,h3⟩
def lastB (ops:Array Oper) (n:Nat):Bool:=
 (List.range ops.size).all (fun i=>match ops[i]? with | some o=>o.after.all (fun e=> !Region.binds .any e||decide (e.on<i)) | none=>true)&&
 (List.range n).all (fun i=>(List.range ops.size).any fun j=>decide (i<j)&&match ops[j]? with | some o=>o.after.any (fun e=>Region.binds .any e&&e.on==i) | none=>false)&&
 match ops[n]? with | some o=>o.dst.isNone&&o.guard.isNone | none=>false
section
variable {P:Program} {ops ops':Array Oper} {n:Nat} {C:World→Prop}
structure LastOk (ops ops':Array Oper) (n:Nat) (st st':Oper):Prop where
 size:ops.size=n+1
 size':ops'.size=n+1
 like: ∀j,j<n→(ops'[j]?).map (·.after)=(ops[j]?).map (·.after)∧(ops'[j]?).bind (·.dst)=(ops[j]?).bind (·.dst)
 hst:ops[n]? =some st
 hst':ops'[n]? =some st'
 after:st'.after=st.after
 dst:st.dst=none
 dst':st'.dst=none
 guard:st.guard=none
 guard':st'.guard=none
 back: ∀i o,ops[i]? =some o→ ∀e∈o.after,Region.binds .any e=true→e.on<i
 chain: ∀i,i<n→ ∃j o,i<j∧ops[j]? =some o∧ ∃e∈o.after,Region.binds .any e=true∧e.on=i
variable {st st':Oper}
theorem LastOk.get (h:LastOk ops ops' n st st') (j:Nat):(ops'[j]?).map (·.after)=(ops[j]?).map (·.after)∧(ops'[j]?).bind (·.dst)=(ops[j]?).bind (·.dst):=by
 rcases Nat.lt_trichotomy j n with hj | rfl | hj
 ·exact h.like j hj
 ·rw[h.hst,h.hst'];simp[h.after,h.dst,h.dst']
 ·rw[Array.getElem?_eq_none (by rw[h.size'];omega),Array.getElem?_eq_none (by rw[h.size];omega)];exact⟨rfl,rfl⟩
theorem LastOk.ready (h:LastOk ops ops' n st st') (listed:Array Bool):Region.ready .any ops' listed=Region.ready .any ops listed:=by
 unfold Region.ready
 rw[h.size,h.size']
 refine List.filter_congr fun i _=> ?_
 have:=(h.get i).1
 congr 1
 cases e1:ops'[i]? <;>cases e2:ops[i]? <;>rw[e1,e2] at this<;>simp at this⊢
 rw[this]
theorem LastOk.yielded (h:LastOk ops ops' n st st') (t:Array Value):yielded ops' t=yielded ops t:=by
 funext j
 unfold Go.yielded
 rw[(h.get j).2]
def Cl (ops:Array Oper) (listed:Array Bool):Prop:=
 listed.size=ops.size∧ ∀j o,ops[j]? =some o→listed.getD j false=true→ ∀e∈o.after,Region.binds .any e=true→listed.getD e.on false=true
theorem getD_tf {l:Array Bool} {i:Nat} (hi:i<l.size):l.getD i true=l.getD i false:=by simp[hi]
theorem Cl.set {listed:Array Bool} (h:Cl ops listed) {i:Nat} (hi:i∈Region.ready .any ops listed):Cl ops (listed.setIfInBounds i true):=by
 refine⟨by rw[Array.size_setIfInBounds];exact h.1,fun j o ho hl e he hb=> ?_⟩
 by_cases hij:i=j
 ·subst hij
  obtain⟨_,o',ho',hall⟩:=mem_ready.1 hi
  rw[ho] at ho'
  injection ho' with ho'
  subst ho'
  exact getD_set_true (hall e he hb)
 ·rw[getD_set_ne false hij] at hl
  exact getD_set_true (h.2 j o ho hl e he hb)
theorem LastOk.all (h:LastOk ops ops' n st st') {listed:Array Bool} (hc:Cl ops listed) (hr:n∈Region.ready .any ops listed):
  ∀(d i:Nat),n-i=d→i<n→listed.getD i false=true:=by
 intro d
 induction d using Nat.strongRecOn with
 | _ d ih=>
   intro i hd hi
   obtain⟨j,o,hij,ho,e,he,hb,rfl⟩:=h.chain i hi
   have hj:j<n+1:=by rw[←h.size];exact(Array.getElem?_eq_some_iff.1 ho).1
   by_cases hjn:j=n
   ·subst hjn
    obtain⟨_,o',ho',hall⟩:=mem_ready.1 hr
    rw[ho] at ho'
    injection ho' with ho'
    subst ho'
    exact hall e he hb
   ·exact hc.2 j o ho (ih (n-j) (by omega) j rfl (by omega)) e he hb
theorem LastOk.done (h:LastOk ops ops' n st st') {listed:Array Bool} (hc:Cl ops listed) (hr:n∈Region.ready .any ops listed):
  Region.ready .any ops (listed.setIfInBounds n true)= []:=by
 rw[List.eq_nil_iff_forall_not_mem]
 intro j hj
 obtain⟨h0,o,ho,_⟩:=mem_ready.1 hj
 have hjn:j<n+1:=by rw[←h.size];exact(Array.getElem?_eq_some_iff.1 ho).1
 have hs:listed.size=n+1:=hc.1.trans h.size
 by_cases e:n=j
 ·subst e
  simp[hs] at h0
 ·rw[getD_set_ne true e,getD_tf (by omega),h.all hc hr _ j rfl (by omega)] at h0
  cases h0
theorem LastOk.stuck (h:LastOk ops ops' n st st') {listed:Array Bool} (hs:listed.size=ops.size): ∀i,i<ops.size→listed.getD i true=false→Region.ready .any ops listed≠ []:=by
 intro i
 induction i using Nat.strongRecOn with
 | _ i ih=>
   intro hi hl
   have ho:ops[i]? =some ops[i]:=by simp[hi]
   by_cases hall: ∀e∈ops[i].after,Region.binds .any e=true→listed.getD e.on false=true
   ·exact List.ne_nil_of_mem (mem_ready.2 ⟨hl,_,ho,hall⟩)
   ·simp only[Classical.not_forall] at hall
    obtain⟨e,he,hb,hn⟩:=hall
    have hlt:=h.back i _ ho e he hb
    exact ih e.on hlt (by omega) (by rw[getD_tf (by omega)];simpa using hn)
theorem wpAny_of_last (h:LastOk ops ops' n st st') (hsame: ∀j,j<n→ops'[j]? =ops[j]?) {Q:Act→Prop} {Q':Exit→Act→World→Prop}
  (hQ: ∀a w,C w→Q a→st.wp P a w (fun a w=>Q' .normal a w) Q'∨(st.asks P a w∧LetsOut Q')):
  ∀(fuel:Nat) (listed:Array Bool) (a:Act) (w:World),C w→Cl ops listed→listed.getD n true=false→
  wpAnyQ P .any ops' C Q fuel listed a→wpAny P .any ops Q' fuel listed a w:=by
 intro fuel
 induction fuel with
 | zero=>
   intro listed a w hw hc hn hh
   have:=hh.1
   rw[h.ready] at this
   exact absurd this (h.stuck hc.1 n (by rw[h.size];omega) hn)
 | succ fuel ih=>
   intro listed a w hw hc hn hh
   refine⟨fun h0=>absurd h0 (h.stuck hc.1 n (by rw[h.size];omega) hn),fun i hi=> ?_⟩
   have hq:=hh.2 i (by rw[h.ready];exact hi)
   by_cases hin:i=n
   ·subst hin
    have hd:=h.done hc hi
    unfold wpOp
    unfold qOp at hq
    simp only[h.hst,h.hst'] at hq⊢
    have w1:Region.wanted st (Go.yielded ops a.tmps)=true:=by unfold Region.wanted;rw[h.guard]
    have w2:Region.wanted st' (Go.yielded ops' a.tmps)=true:=by unfold Region.wanted;rw[h.guard']
    rw[if_pos w1]
    rw[if_pos w2] at hq
    obtain⟨v,_,hK⟩:=hq
    rw[h.dst'] at hK
    have hQa:Q a:=by
     cases fuel with
     | zero=>exact hK.2
     | succ _=>exact hK.1 (by rw[h.ready];exact hd)
    exact(hQ a w hw hQa).imp (Oper.wp_mono fun a' w' hn'=>wpAny_done hd hn' fuel) id
   ·have hs:=h.size
    obtain⟨_,o,ho,_⟩:=mem_ready.1 hi
    have hlt:i<n:=by have:=(Array.getElem?_eq_some_iff.1 ho).1;omega
    have e:wpOp P ops Q' i (wpAny P .any ops Q' fuel (listed.setIfInBounds i true)) a w=wpOp P ops' Q' i (wpAny P .any ops Q' fuel (listed.setIfInBounds i true)) a w:=by
     unfold wpOp
     rw[hsame i hlt,h.yielded]
    rw[e]
    exact wpOp_of_qOp hw (fun a' w' hw' hk=>ih _ a' w' hw' (hc.set hi) (by rw[getD_set_ne true hin];exact hn) hk) hq
end
theorem lastOk_of {l:List Oper} {n:Nat} (hl:l.length=n+1) (hB:lastB l.toArray n=true): ∃st,lastL l= [st]∧LastOk l.toArray (dumL l).toArray n st {st with op:= .move (.const (.bool false))}:=by
 obtain⟨st,h1,h2,h3⟩:=dumL_last l n hl
 refine⟨st,h2,?_⟩
 unfold lastB at hB
 simp only[Bool.and_eq_true,List.all_eq_true,List.mem_range,List.any_eq_true,decide_eq_true_eq] at hB
 obtain⟨⟨hb,hc⟩,hg⟩:=hB
 have hst:l.toArray[n]? =some st:=by simpa using h1
 rw[hst] at hg
 simp only[Bool.and_eq_true,Option.isNone_iff_eq_none] at hg
 have hlk: ∀j,j<n→((dumL l).toArray[j]?).map (·.after)=(l.toArray[j]?).map (·.after)∧((dumL l).toArray[j]?).bind (·.dst)=(l.toArray[j]?).bind (·.dst):=fun j hj=>by
  have e:(dumL l).toArray[j]? =l.toArray[j]? :=by simpa using dumL_get l j (by omega)
  rw[e];exact⟨rfl,rfl⟩
 refine⟨by simpa using hl,by simpa[dumL_len] using hl,fun j hj=>hlk j hj,hst,by simpa using h3,rfl,hg.1,hg.1,hg.2,hg.2,fun i o ho e he hbd=> ?_,fun i hi=> ?_⟩
 ·have hi:=(Array.getElem?_eq_some_iff.1 ho).1
  have:=hb i hi
  rw[ho] at this
  have:=Array.all_eq_true_iff_forall_mem.1 this e he
  rw[hbd] at this
  simpa using this
 ·obtain⟨j,_,hij,hm⟩:=hc i hi
  cases ho:l.toArray[j]? with
  | none=>rw[ho] at hm;cases hm
  | some o=>
    rw[ho] at hm
    obtain⟨e,he,hb'⟩:=Array.any_eq_true'.1 hm
    simp only[Bool.and_eq_true,beq_iff_eq] at hb'
    exact⟨j,o,hij,ho,e,he,hb'⟩
theorem getD_replicate_false' (n i:Nat):(Array.replicate n false).getD i false=false:=by
 by_cases h:i<n<;>simp[h]
theorem wp_region_quiet_last {P:Program} {id:Nat} {Q:Exit→Act→World→Prop} {a:Act} {w:World} {l:List Oper} (n:Nat) (hm:P.follows .mixedOrders=true) (hl:l.length=n+1) (hB:Region.lexB .any (dumL l).toArray=true) (hL:lastB l.toArray n=true)
  (h:wpQuiet P (dumL l).toArray (fun w'=> ∃p:BelW w,w'=p.W) (fun a'=> ∀w',(∃p:BelW w,w'=p.W)→wpList P (lastL l).toArray Q (lastL l) a' w') (dumL l) a):(Code.region id l.toArray true).wp P Q a w:=by
 obtain⟨st,e,hok⟩:=lastOk_of hl hL
 have hgd:=hok.guard
 simp only[Region.lexB,Bool.and_eq_true] at hB
 refine wp_region_any hm (wpAny_of_last (C:=fun w'=> ∃p:BelW w,w'=p.W) hok (fun j hj=>by simpa using dumL_get l j (by omega)) (Q:=fun a'=> ∀w',(∃p:BelW w,w'=p.W)→wpList P (lastL l).toArray Q (lastL l) a' w') (fun a' w' hw' hq=> ?_) _ _ _ _ ⟨⟨w.drew,(Below.refl _ _).drew⟩,rfl⟩ ⟨by simp,?_⟩ ?_ ?_)
 ·have:=hq w' hw'
  rw[e] at this
  unfold wpList at this
  rw[if_pos (by unfold Region.wanted;rw[hgd])] at this
  exact this
 ·intro j o ho hj
  exfalso
  rw[getD_replicate_false'] at hj
  cases hj
 ·rw[getD_tf (by simp[hl]),getD_replicate_false']
 ·have:=wpAnyQ_lex (P:=P) (C:=fun w'=> ∃p:BelW w,w'=p.W) (md:= .any) hB.1 (dumL l) 0 (Array.replicate (dumL l).toArray.size false) a (by simp) (by simpa using hB.2) h
  simpa[dumL_len] using this
def dumO (o:Oper):Oper:= {o with op:= .move (.const (.bool false))}
structure C3 (ops ops':Array Oper) (c:Nat) (oc om st:Oper) (d tm:Tmp):Prop where
 ok:LastOk ops ops' (c+2) st (dumO st)
 getc:ops[c]? =some oc
 getc':ops'[c]? =some (dumO oc)
 getm:ops[c+1]? =some om
 getm':ops'[c+1]? =some om
 gc:oc.guard=none
 gm:om.guard=none
 dc:oc.dst=some d
 dm:om.dst=some tm
 ap:oc.apart ops om=true
 self:d∉oc.looksAt ops
 selfm:tm∉om.looksAt ops
 sc: ∀cs b,oc.op≠ .select cs b
 sm: ∀cs b,om.op≠ .select cs b
 sink: ∀i,i<c→ ∃j o,i<j∧j≤c∧ops[j]? =some o∧ ∃e∈o.after,Region.binds .any e=true∧e.on=i
section
variable {P:Program} {ops ops':Array Oper} {c:Nat} {oc om st:Oper} {d tm:Tmp}
theorem wanted_none {o:Oper} (h:o.guard=none) (y:Nat→Option Bool):Region.wanted o y=true:=by unfold Region.wanted;rw[h]
end
end Go.Proofs.YtlgcflpaekbopaaGreat
namespace Go.Proofs.YtlgcflpaekbopaaGreat
set_option maxRecDepth 20000
set_option linter.unusedVariables false
set_option linter.unusedSimpArgs false
open Go.RowKit
theorem ArgE.cells {w:World} {ad:Addr} {m cap:Nat} {es:List EdD} (h:ArgE w (.slice (some ad) m cap) es): ∀j y,(edCs es)[j]? =some y→w.cell? (ad.add j)=some y:=by
 intro j y hj
 have hlt:j<es.length*3:=by
  have:=(List.getElem?_eq_some_iff.1 hj).1
  rw[edCs_length] at this
  exact this
 have hk:j/3<es.length:=by omega
 obtain⟨b,off,hA,_,c0,c1,c2,_⟩:=h.at hk
 injection hA with hA
 subst hA
 have hg:=edCs_get es (j/3) (j%3) hk (by omega)
 have e:j/3*3+j%3=j:=by omega
 rw[e,hj] at hg
 rw[Addr.add_lit]
 have hr:j%3=0∨j%3=1∨j%3=2:=by omega
 rcases hr with hr | hr | hr
 ·rw[hr] at hg
  simp only[edC,List.getElem?_cons_zero] at hg
  rw[hg,←c0]
  congr 2;omega
 ·rw[hr] at hg
  simp only[edC,List.getElem?_cons_zero,List.getElem?_cons_succ] at hg
  rw[hg,←c1]
  congr 2;omega
 ·rw[hr] at hg
  simp only[edC,List.getElem?_cons_zero,List.getElem?_cons_succ] at hg
  rw[hg,←c2]
  congr 2;omega
theorem wp_append_edges {w:World} {o:Oper} {a:Act} {K:Act→World→Prop} {Q:Exit→Act→World→Prop} (s x:Operand)
  (ho:o.op= .call {callee:= .builtin .append,args:= #[s,x],argTypes:= #[80,80]})
  (base:Nat) (v:Value) (xs:List EdD) (hown:OwE w base v xs) (hs:a.eval s=v) (u:Value) (ys:List EdD) (hr:ArgE w u ys) (hx:a.eval x=u)
  (hl:xs.length+ys.length≤1073741824) (hbase:base≤w.heap.size)
  (h: ∀v' w',OwE w' base v' (xs++ys)→w.grownBy w' v.ownBlock→(v'.ownBlock=v.ownBlock∨v'.ownBlock=some w.heap.size)→K (a.put o.dst v') w'):
  o.wp Tryz.prog a w K Q:=by
 obtain⟨i0,hi0,hz0,hz1,hz2⟩:=info_parts edge_info
 have hr0:=hr
 obtain⟨A,cap,rfl,hc,hm,hn,hE,hb⟩:=hr
 rcases A with _ | ad
 ·have h0:ys= []:=List.eq_nil_of_length_eq_zero (by
   rcases Nat.eq_zero_or_pos ys.length with h0 | h0
   ·exact h0
   ·obtain⟨_,_,h,_⟩:=hb h0;cases h)
  subst h0
  obtain rfl:=hn rfl
  have hrun:=run_append_owned_none (P:=Tryz.prog) w base 80 o.type 154 i0 3 Tryz.underlying80 hi0 v xs.length (edCs xs) hown.1
  unfold Oper.wp execOp
  simp only[ho,resolve,invoke,builtin,Sem.run_bind,Sem.run_pure,Result.andThen_ok,List.map_toArray,List.map_cons,List.map_nil,hs,hx,List.length_nil,hrun]
  exact h v w (by simpa using hown) (World.grownBy.refl _ _) (.inl rfl)
 ·obtain⟨v',w',hrun,h1,h2,_,h5⟩:=run_append_own_at (P:=Tryz.prog) w base 80 o.type 154 i0 _ 3 24 Tryz.underlying80 hi0 hz0 hz1 hz2 rfl (by decide) v xs.length (edCs xs) hown.1 ad ys.length cap (edCs ys) (by rw[edCs_length])
   hr0.cells (fun u hu=>edCs_one hu) (by unfold maxLen;omega) (by omega) hbase
  unfold Oper.wp execOp
  simp only[ho,resolve,invoke,builtin,Sem.run_bind,Sem.run_pure,Result.andThen_ok,List.map_toArray,List.map_cons,List.map_nil,hs,hx,hrun]
  exact h v' w' ⟨by rw[edCs_append,List.length_append];exact h1,E64s_append hown.2 hE⟩ h2 h5
theorem append_edges {w:World} {ops:Array Oper} {rest:List Oper} {o:Oper} {a:Act} {Q:Exit→Act→World→Prop} (hgd:o.guard=none) (s x:Operand)
  (ho:o.op= .call {callee:= .builtin .append,args:= #[s,x],argTypes:= #[80,80]})
  (base:Nat) (v:Value) (xs:List EdD) (hown:OwE w base v xs) (hs:a.eval s=v) (u:Value) (ys:List EdD) (hr:ArgE w u ys) (hx:a.eval x=u)
  (hl:xs.length+ys.length≤1073741824) (hbase:base≤w.heap.size)
  (h: ∀v' w',OwE w' base v' (xs++ys)→w.grownBy w' v.ownBlock→(v'.ownBlock=v.ownBlock∨v'.ownBlock=some w.heap.size)→wpList Tryz.prog ops Q rest (a.put o.dst v') w'):
  wpList Tryz.prog ops Q (o::rest) a w:=
 wpList_plain hgd fun _ hK=>wp_append_edges s x ho base v xs hown hs u ys hr hx hl hbase fun v' w' h1 h2 h3=>hK _ _ (h v' w' h1 h2 h3)
theorem step_append_edges {w:World} {ops:Array Oper} {o:Oper} {a:Act} {K:Act→World→Prop} {Q:Exit→Act→World→Prop} {E:Prop} (hgd:o.guard=none) (s x:Operand)
  (ho:o.op= .call {callee:= .builtin .append,args:= #[s,x],argTypes:= #[80,80]})
  (base:Nat) (v:Value) (xs:List EdD) (hown:OwE w base v xs) (hs:a.eval s=v) (u:Value) (ys:List EdD) (hr:ArgE w u ys) (hx:a.eval x=u)
  (hl:xs.length+ys.length≤1073741824) (hbase:base≤w.heap.size)
  (h: ∀v' w',OwE w' base v' (xs++ys)→w.grownBy w' v.ownBlock→(v'.ownBlock=v.ownBlock∨v'.ownBlock=some w.heap.size)→K (a.put o.dst v') w'):
  if Region.wanted o (yielded ops a.tmps)=true then Oper.wp Tryz.prog o a w K Q else E:=by
 have hw:Region.wanted o (yielded ops a.tmps)=true:=by simp[Region.wanted,hgd]
 rw[if_pos hw]
 exact wp_append_edges s x ho base v xs hown hs u ys hr hx hl hbase h
theorem OwE_litN (w:World) (N:Nat) (hN:w.heap.size=N) {base:Nat} (hb:base≤N):OwE (w.alloc (.cells #[] 154)) base (.slice (some ⟨N,0,none⟩) 0 0) []:=by
 subst hN;exact OwE_lit w hb
set_option maxHeartbeats 1000000 in
theorem copyGraph_any (v:Value) (g:GrD) (w:World) (h:ArgG w v g) (hl:g.2.2.length≤1073741824):
  Calls Tryz.prog 150 #[v] w fun e w'=> ∃r,e= .returned r∧OwG w' w.heap.size r g∧Below w.heap.size w w':=by
 obtain⟨s,rfl,h1,h2,ha⟩:=h
 have H:=hDD ha
 obtain⟨A,cap,rfl⟩:=ha.form
 clear ha
 go_enter Tryz.func150,Tryz.ntmps150
 go_wp2_with fail
 go_region_held3 (fun w'=>w'.cell? ⟨w.heap.size,0,none⟩=some (.int .i64 g.1)∧w'.cell? ⟨w.heap.size,1,none⟩=some (.int .i64 g.2.1)∧w'.cell? ⟨w.heap.size,2,none⟩=some (.slice A g.2.2.length cap)) (first | go_keep | (refine⟨?_,?_,?_⟩<;>(rw[hc _ _ (by omega)];simp[go_sem])))
  (first | (refine step_append_edges rfl (.tmp 7) (.tmp 9) rfl (w.heap.size+1+1) _ [] (OwE_litN _ (w.heap.size+1+1) (by simp[World.drew,World.drewN]) (Nat.le_refl _)) (by rfl) _ g.2.2 ?_ (by rfl) (by simp;omega) (by simp) ?_;(exact(by repeat(first | exact(Hid.out H) | (refine ArgE.drew ?_) | (refine ArgE.drewN ?_ _) | (refine ArgE.alloc ?_ _))));intro v1 w1 o1 g1 p1;have O1:=hDD o1;have hb1:=(Below.refl (w.heap.size+1+1) _).grown g1 (by simp) (fun k hk=>by simp[Value.ownBlock] at hk;omega);have B1:=hDD hb1;obtain⟨A1,cap1,rfl,_⟩:=OwE.form o1;obtain⟨hc,hf⟩:=bcellN hb1;have hz:w.heap.size+1+1<w1.heap.size:=(by have:=g1.size;simp at this;omega);clear o1 hb1 g1 p1))
 go_wp2
 refine bodyPost_ret (v:= .agg #[.int .i64 g.1, .int .i64 g.2.1, .slice A1 g.2.2.length cap1]) (by simp[results,Tryz.results150,go_sem,hc,hz]) rfl ⟨_,rfl,⟨_,rfl,h1,h2,?_⟩,?_⟩
 ·refine OwE.mono (base:=w.heap.size+1+1) ?_ (by omega)
  have O2:Hid (OwE w1 (w.heap.size+1+1) (.slice A1 g.2.2.length cap1) g.2.2):=hDD (by simpa using O1.out)
  exact(by repeat(first | exact(Hid.out O2) | exact(Hid.out O2).drewN _ | (refine OwE.far ?_ (by first | omega | (simp<;>omega)) _) | (refine OwE.alloc ?_ _) | (refine OwE.drew ?_) | (refine OwE.drewN ?_ _)))
 ·exact(by repeat(first | exact Below.refl _ _ | (refine Below.setCell ?_ (by first | omega | (simp<;>omega)) _) | (refine bel_drewN ?_ _) | (refine Below.drew ?_) | (refine Below.alloc ?_ (by first | omega | (simp<;>omega)) _) | (refine Below.trans ?_ (Below.mono (Hid.out B1) (by first | omega | (simp<;>omega))))))
def degE (v:Int) (e:EdD):Nat:=(if e.1=v then 1 else 0)+(if e.2.2=v then 1 else 0)
def degL (es:List EdD) (v:Int):Nat:=(es.map (degE v)).sum
theorem degL_succ (es:List EdD) (v:Int) (k:Nat) (h:k<es.length):degL (es.take (k+1)) v=degL (es.take k) v+degE v es[k]:=by
 unfold degL
 rw[List.take_succ_eq_append_getElem h,List.map_append,List.sum_append]
 simp
theorem degL_le (es:List EdD) (v:Int) (k:Nat):degL (es.take k) v≤2*k:=by
 have key: ∀l:List EdD,degL l v≤2*l.length:=by
  intro l
  unfold degL
  induction l with
  | nil=>simp
  | cons e l ih=>
    simp only[List.map_cons,List.sum_cons,List.length_cons]
    have:degE v e≤2:=by unfold degE;split<;>split<;>omega
    omega
 have:=key (es.take k)
 rw[List.length_take] at this
 omega
set_option maxHeartbeats 1000000 in
theorem implDegreeOf_any (v:Value) (g:GrD) (u:Int) (w:World) (h:ArgG w v g) (hl:g.2.2.length≤1073741824):
  Calls Tryz.prog 154 #[v, .int .i64 u] w fun e w'=>e= .returned (.int .i64 (degL g.2.2 u))∧Below w.heap.size w w':=by
 obtain⟨s,rfl,_,_,ha⟩:=h
 have H:=hDD ha
 obtain⟨A,cap,rfl,hcap,hm,_⟩:=ha
 unfold maxLen at hm
 go_enter Tryz.func154,Tryz.ntmps154
 go_wp2
 have hb:Below w.heap.size w (w.alloc (Obj.cells #[Value.int IntKind.i64 g.1,Value.int IntKind.i64 g.2.1, .slice A g.2.2.length cap] 82)):=(by repeat(first | exact Below.refl _ _ | (refine Below.setCell ?_ (by first | omega | (simp<;>omega)) _) | (refine bel_drewN ?_ _) | (refine Below.drew ?_) | (refine Below.alloc ?_ (by first | omega | (simp<;>omega)) _)))
 generalize w.alloc (Obj.cells #[Value.int IntKind.i64 g.1,Value.int IntKind.i64 g.2.1, .slice A g.2.2.length cap] 82)=w1 at hb⊢
 have HB:=hDD hb
 clear hb
 go_loopw [5,11] (fun n i wr=> ∃k:Nat,k≤g.2.2.length∧i= .int .i64 k∧n= .int .i64 (degL (g.2.2.take k) u)∧Below w.heap.size w wr) (fun _ i _=>g.2.2.length-(intOf i).toNat)
 case atStart=>exact⟨0,Nat.zero_le _,rfl,rfl,HB.out⟩
 case round=>
  obtain⟨k,hk,rfl,rfl,hbel⟩:=hrel
  have HB2:=hDD hbel
  have hsz:=hbel.size
  clear hbel
  by_cases hlt:k<g.2.2.length
  ·obtain⟨b,off,rfl,hbl,c0,c1,c2,_⟩:=(H.out.below HB2.out).at hlt
   have HS:=hDD (degL_succ g.2.2 u k hlt)
   have hle:=degL_le g.2.2 u k
   generalize g.2.2[k]=e at*
   generalize degL (g.2.2.take k) u=d at*
   rcases e1:(e.1==u) with _ | _
   ·rcases e2:(e.2.2==u) with _ | _
    ·have F:Hid (degL (g.2.2.take (k+1)) u=d):=hDD (by rw[HS.out];simp at e1 e2;simp[degE,e1,e2])
     go_wp2
     go_roundw
     case rel=>exact⟨k+1,by omega,by go_num,by rw[F.out],HB2.out.alloc hsz _⟩
     case measure=>simp[intOf];omega
    ·have F:Hid (degL (g.2.2.take (k+1)) u=d+1):=hDD (by rw[HS.out];simp at e1 e2;simp[degE,e1,e2])
     go_wp2
     go_roundw
     case rel=>exact⟨k+1,by omega,by go_num,by rw[F.out];go_num,HB2.out.alloc hsz _⟩
     case measure=>simp[intOf];omega
   ·rcases e2:(e.2.2==u) with _ | _
    ·have F:Hid (degL (g.2.2.take (k+1)) u=d+1):=hDD (by rw[HS.out];simp at e1 e2;simp[degE,e1,e2])
     go_wp2
     go_roundw
     case rel=>exact⟨k+1,by omega,by go_num,by rw[F.out];go_num,HB2.out.alloc hsz _⟩
     case measure=>simp[intOf];omega
    ·have F:Hid (degL (g.2.2.take (k+1)) u=d+2):=hDD (by rw[HS.out];simp at e1 e2;simp[degE,e1,e2])
     go_wp2
     go_roundw
     case rel=>exact⟨k+1,by omega,by go_num,by rw[F.out];go_num,HB2.out.alloc hsz _⟩
     case measure=>simp[intOf];omega
  ·obtain rfl:k=g.2.2.length:=by omega
   rw[List.take_length]
   go_wp2
   go_ret
   exact⟨rfl,HB2.out⟩
end Go.Proofs.YtlgcflpaekbopaaGreat
namespace Go.Proofs.YtlgcflpaekbopaaGreat
set_option maxRecDepth 20000
set_option linter.unusedVariables false
set_option linter.unusedSimpArgs false
open Go.RowKit
end Go.Proofs.YtlgcflpaekbopaaGreat
namespace Go.Proofs.YtlgcflpaekbopaaGreat
set_option maxRecDepth 20000
set_option linter.unusedVariables false
set_option linter.unusedSimpArgs false
open Go.RowKit
end Go.Proofs.YtlgcflpaekbopaaGreat
namespace Go.Proofs.YtlgcflpaekbopaaGreat
set_option maxRecDepth 20000
set_option linter.unusedVariables false
set_option linter.unusedSimpArgs false
open Go.RowKit
def hasB (l:List Int) (x:Int):Bool:=l.any (· ==x)
theorem hasB_no {l:List Int} {x:Int} (h: ∀j (hj:j<l.length),l[j]≠x):hasB l x=false:=by
 unfold hasB
 rw[List.any_eq_false]
 intro y hy
 obtain⟨j,hj,rfl⟩:=List.getElem_of_mem hy
 simpa using h j hj
theorem hasB_yes {l:List Int} {x:Int} (j:Nat) (hj:j<l.length) (h:l[j]=x):hasB l x=true:=by
 unfold hasB
 rw[List.any_eq_true]
 exact⟨l[j],by simp,by simpa using h⟩
set_option maxHeartbeats 400000 in
theorem l4Has_any (v:Value) (xs:List Int) (x:Int) (w:World) (h:ArgI w v xs) (hl:xs.length≤1073741824):
  Calls Tryz.prog 54 #[v, .int .i64 x] w fun e w'=>e= .returned (.bool (hasB xs x))∧w=w':=by
 obtain⟨A,cap,rfl,hcap,hm,hr,hb⟩:=h
 have HB:=hDD hb
 clear hb hr
 go_enter Tryz.func54,Tryz.ntmps54
 go_wp2
 go_loop [5] (fun i=> ∃k:Nat,k≤xs.length∧i= .int .i64 k∧ ∀j (hj:j<xs.length),j<k→xs[j]≠x) (fun i=>xs.length-(intOf i).toNat)
 case atStart=>exact⟨0,Nat.zero_le _,rfl,fun j hj h=>absurd h (by omega)⟩
 case round=>
  obtain⟨k,hk,rfl,hno⟩:=hrel
  have HNO:=hDD hno
  clear hno
  by_cases hlt:k<xs.length
  ·obtain⟨b,off,rfl,hc⟩:=HB.out (by omega)
   have hcell:=hc k hlt
   have HY:=hDD (fun e=>hasB_yes (x:=x) k hlt e)
   have HN:Hid (xs[k]≠x→ ∀j (hj:j<xs.length),j<k+1→xs[j]≠x):=hDD fun e j hj hjk=>by
    rcases Nat.lt_or_eq_of_le (Nat.le_of_lt_succ hjk) with h | rfl
    ·exact HNO.out j hj h
    ·exact e
   clear hc
   generalize xs[k]=y at hcell HY HN
   rcases e1:(y==x) with _ | _
   ·have F:=hDD (HN.out (by simpa using e1))
    go_wp2
    go_round
    case rel=>exact⟨k+1,by omega,by go_num,F.out⟩
    case measure=>simp[intOf];omega
   ·have F:=hDD (HY.out (by simpa using e1))
    go_wp2
    go_ret
    exact⟨ret_bool F.out.symm,rfl⟩
  ·obtain rfl:k=xs.length:=by omega
   have F:=hDD (hasB_no fun j hj=>HNO.out j hj hj)
   go_wp2
   go_ret
   exact⟨ret_bool F.out.symm,rfl⟩
def atB (xs:List Int) (x:Int) (n:Int):Prop:=decide (0≤n)=hasB xs x
set_option maxHeartbeats 400000 in
theorem libIndex_any (v:Value) (xs:List Int) (x:Int) (w:World) (h:ArgI w v xs) (hl:xs.length≤1073741824):
  Calls Tryz.prog 99 #[v, .int .i64 x] w fun e w'=> ∃n:Int,e= .returned (.int .i64 n)∧atB xs x n∧w=w':=by
 obtain⟨A,cap,rfl,hcap,hm,hr,hb⟩:=h
 have HB:=hDD hb
 clear hb hr
 go_enter Tryz.func99,Tryz.ntmps99
 go_wp2
 go_loop [8] (fun i=> ∃k:Nat,k≤xs.length∧i= .int .i64 k∧ ∀j (hj:j<xs.length),j<k→xs[j]≠x) (fun i=>xs.length-(intOf i).toNat)
 case atStart=>exact⟨0,Nat.zero_le _,rfl,fun j hj h=>absurd h (by omega)⟩
 case round=>
  obtain⟨k,hk,rfl,hno⟩:=hrel
  have HNO:=hDD hno
  clear hno
  by_cases hlt:k<xs.length
  ·obtain⟨b,off,rfl,hc⟩:=HB.out (by omega)
   have hcell:=hc k hlt
   have HY:=hDD (fun e=>hasB_yes (x:=x) k hlt e)
   have HN:Hid (xs[k]≠x→ ∀j (hj:j<xs.length),j<k+1→xs[j]≠x):=hDD fun e j hj hjk=>by
    rcases Nat.lt_or_eq_of_le (Nat.le_of_lt_succ hjk) with h | rfl
    ·exact HNO.out j hj h
    ·exact e
   clear hc
   generalize xs[k]=y at hcell HY HN
   rcases e1:(x==y) with _ | _
   ·have F:=hDD (HN.out (by simp at e1;exact fun h=>e1 h.symm))
    go_wp2
    go_round
    case rel=>exact⟨k+1,by omega,by go_num,F.out⟩
    case measure=>simp[intOf];omega
   ·have F:=hDD (HY.out (by simp at e1;exact e1.symm))
    go_wp2
    go_ret
    exact⟨_,rfl,by unfold atB;rw[F.out];simp,rfl⟩
  ·obtain rfl:k=xs.length:=by omega
   have F:=hDD (hasB_no fun j hj=>HNO.out j hj hj)
   go_wp2
   go_ret
   exact⟨_,rfl,by unfold atB;rw[F.out];simp,rfl⟩
set_option maxHeartbeats 400000 in
theorem libContains_any (v:Value) (xs:List Int) (x:Int) (w:World) (h:ArgI w v xs) (hl:xs.length≤1073741824):
  Calls Tryz.prog 52 #[v, .int .i64 x] w fun e w'=>e= .returned (.bool (hasB xs x))∧w=w':=by
 have H:=hDD h
 clear h
 go_enter Tryz.func52,Tryz.ntmps52
 go_wp2_with (go_at_call 99;refine(libIndex_any _ xs x _ H.out hl).mono ?_;rintro e w' ⟨n,rfl,hn,rfl⟩;have HN:=hDD hn;clear hn)
 go_ret
 exact⟨ret_bool HN.out,rfl⟩
end Go.Proofs.YtlgcflpaekbopaaGreat
namespace Go.Proofs.YtlgcflpaekbopaaGreat
set_option maxRecDepth 20000
set_option linter.unusedVariables false
set_option linter.unusedSimpArgs false
open Go.RowKit
def mt (v x:Int) (e:EdD):Option Int:=
 if 0<x then(if e.2.1=x∧e.1=v then some e.2.2 else none) else if x<0 then(if e.2.1=wrap64 (-x)∧e.2.2=v then some e.1 else none) else none
def stepsL (es:List EdD) (v x:Int):List Int:=es.filterMap (mt v x)
def nextV (es:List EdD) (v x:Int):Int:=(stepsL es v x).headD (-1)
theorem stepsL_succ (es:List EdD) (v x:Int) (k:Nat) (h:k<es.length):stepsL (es.take (k+1)) v x=stepsL (es.take k) v x++(mt v x es[k]).toList:=by
 unfold stepsL
 rw[List.take_succ_eq_append_getElem h,List.filterMap_append]
 congr 1
theorem stepsL_take (es:List EdD) (v x:Int) (k:Nat):(stepsL (es.take k) v x).length≤(stepsL es v x).length:=by
 unfold stepsL
 conv=>rhs;rw[←List.take_append_drop k es,List.filterMap_append]
 simp
end Go.Proofs.YtlgcflpaekbopaaGreat
namespace Go.Proofs.YtlgcflpaekbopaaGreat
set_option maxRecDepth 20000
set_option linter.unusedVariables false
set_option linter.unusedSimpArgs false
open Go.RowKit
set_option maxHeartbeats 2000000 in
theorem implIsGraph_any (v:Value) (g:GrD) (w:World) (h:ArgG w v g):
  Calls Tryz.prog 152 #[v] w fun e w'=>e= .returned (.bool (grB g))∧Below w.heap.size w w':=by
 obtain⟨s,rfl,_,_,ha⟩:=h
 have H:=hDD ha
 obtain⟨A,cap,rfl,hcap,hm,_⟩:=ha
 unfold maxLen at hm
 rcases t1:inB g.1 1 3 with _ | _
 ·go_enter Tryz.func152,Tryz.ntmps152
  go_wp2_with (go_at_call 56;refine(within_any _ _ _ _).mono ?_;rintro e w' ⟨rfl,rfl⟩)
  go_ret
  exact⟨ret_bool (by unfold grB;rw[t1];rfl),(by repeat(first | exact Below.refl _ _ | (refine Below.setCell ?_ (by first | omega | (simp<;>omega)) _) | (refine bel_drewN ?_ _) | (refine Below.drew ?_) | (refine Below.alloc ?_ (by first | omega | (simp<;>omega)) _)))⟩
 rcases t2:inB g.2.1 1 40 with _ | _
 ·go_enter Tryz.func152,Tryz.ntmps152
  go_wp2_with (go_at_call 56;refine(within_any _ _ _ _).mono ?_;rintro e w' ⟨rfl,rfl⟩)
  go_ret
  exact⟨ret_bool (by unfold grB;rw[t1,t2];rfl),(by repeat(first | exact Below.refl _ _ | (refine Below.setCell ?_ (by first | omega | (simp<;>omega)) _) | (refine bel_drewN ?_ _) | (refine Below.drew ?_) | (refine Below.alloc ?_ (by first | omega | (simp<;>omega)) _)))⟩
 by_cases t3:120<g.2.2.length
 ·go_enter Tryz.func152,Tryz.ntmps152
  go_wp2_with (go_at_call 56;refine(within_any _ _ _ _).mono ?_;rintro e w' ⟨rfl,rfl⟩)
  go_ret
  exact⟨ret_bool (by unfold grB;rw[t1,t2,decide_eq_false (by omega)];rfl),(by repeat(first | exact Below.refl _ _ | (refine Below.setCell ?_ (by first | omega | (simp<;>omega)) _) | (refine bel_drewN ?_ _) | (refine Below.drew ?_) | (refine Below.alloc ?_ (by first | omega | (simp<;>omega)) _)))⟩
 go_enter Tryz.func152,Tryz.ntmps152
 go_wp2_with (go_at_call 56;refine(within_any _ _ _ _).mono ?_;rintro e w' ⟨rfl,rfl⟩)
 have hb:Below w.heap.size w (w.alloc (Obj.cells #[Value.int IntKind.i64 g.1,Value.int IntKind.i64 g.2.1, .slice A g.2.2.length cap] 82)):=(by repeat(first | exact Below.refl _ _ | (refine Below.setCell ?_ (by first | omega | (simp<;>omega)) _) | (refine bel_drewN ?_ _) | (refine Below.drew ?_) | (refine Below.alloc ?_ (by first | omega | (simp<;>omega)) _)))
 have k0:(w.alloc (Obj.cells #[Value.int IntKind.i64 g.1,Value.int IntKind.i64 g.2.1, .slice A g.2.2.length cap] 82)).cell? ⟨w.heap.size,0,none⟩=some (.int .i64 g.1):=by simp[go_sem]
 have k1:(w.alloc (Obj.cells #[Value.int IntKind.i64 g.1,Value.int IntKind.i64 g.2.1, .slice A g.2.2.length cap] 82)).cell? ⟨w.heap.size,1,none⟩=some (.int .i64 g.2.1):=by simp[go_sem]
 have k2:(w.alloc (Obj.cells #[Value.int IntKind.i64 g.1,Value.int IntKind.i64 g.2.1, .slice A g.2.2.length cap] 82)).cell? ⟨w.heap.size,2,none⟩=some (.slice A g.2.2.length cap):=by simp[go_sem]
 have hs0:w.heap.size<(w.alloc (Obj.cells #[Value.int IntKind.i64 g.1,Value.int IntKind.i64 g.2.1, .slice A g.2.2.length cap] 82)).heap.size:=by simp
 generalize w.alloc (Obj.cells #[Value.int IntKind.i64 g.1,Value.int IntKind.i64 g.2.1, .slice A g.2.2.length cap] 82)=w1 at hb k0 k1 k2 hs0⊢
 have HB:=hDD hb
 have K0:=hDD k0
 have K1:=hDD k1
 have K2:=hDD k2
 clear hb
 clear k0 k1 k2
 go_loopw [24] (fun i wr=> ∃k:Nat,k≤g.2.2.length∧i= .int .i64 k∧(∀j,j<k→okE g j=true)∧Below w1.heap.size w1 wr) (fun i _=>g.2.2.length-(intOf i).toNat)
 case atStart=>exact⟨0,Nat.zero_le _,rfl,fun j hj=>absurd hj (by omega),Below.refl _ _⟩
 case round=>
  obtain⟨k,hk,rfl,hall,hbel⟩:=hrel
  have HA:=hDD hall
  have HB2:=hDD hbel
  have HB3:=hDD (HB.out.trans (hbel.mono HB.out.size))
  have hsz:=hbel.size
  have p0:=(hbel.cell (p:=⟨w.heap.size,0,none⟩) hs0).trans K0.out
  have p1:=(hbel.cell (p:=⟨w.heap.size,1,none⟩) hs0).trans K1.out
  have p2:=(hbel.cell (p:=⟨w.heap.size,2,none⟩) hs0).trans K2.out
  have hws:w.heap.size<wr.heap.size:=by omega
  by_cases hlt:k<g.2.2.length
  ·obtain⟨b,off,rfl,hbl,c0,c1,c2,_⟩:=(H.out.below HB3.out).at hlt
   have ST:Hid (okE g k=true→ ∀j,j<k+1→okE g j=true):=hDD fun F j hj=>by
    rcases Nat.lt_or_eq_of_le (Nat.le_of_lt_succ hj) with hj | rfl
    ·exact HA.out j hj
    ·exact F
   have FA:Hid (okE g k=false→grB g=false):=hDD (grB_false k hlt)
   clear hall hbel
   by_cases h0:0<k
   ·obtain⟨j,rfl⟩: ∃j,k=j+1:=⟨k-1,by omega⟩
    obtain⟨b2,off2,hA2,_,d0,d1,d2,_⟩:=(H.out.below HB3.out).at (k:=j) (by omega)
    obtain⟨rfl,rfl⟩:b=b2∧off=off2:=by simpa using hA2
    have HZ:Hid (okE g (j+1)=(edgeOk g.1 g.2.1 g.2.2[j+1]&& !decide (0≤cmpE g.2.2[j] g.2.2[j+1]))):=hDD (okE_pos h0 hlt)
    have i0:(0:Int)≤(j:Int):=by omega
    have i1:(j:Int)<(g.2.2.length:Int):=by omega
    have i2:(j:Int)+1<(g.2.2.length:Int):=by omega
    clear hA2 h0
    generalize g.2.2[j]=y at d0 d1 d2 HZ
    generalize g.2.2[j+1]=x at c0 c1 c2 HZ
    have hE:=fun w=>accepts_any g.1 g.2.1 (some ⟨b,off,none⟩) g.2.2.length cap x w
    rcases e1:edgeOk g.1 g.2.1 x with _ | _
    ·have F:Hid (okE g (j+1)=false):=hDD (by rw[HZ.out,e1];rfl)
     simp only[e1] at hE
     have HE:=hDD hE
     clear hE
     go_wp2_with fail
     obtain⟨W,hW⟩: ∃W,W=World.alloc wr (Obj.cells #[.int .i64 x.1, .int .i64 x.2.1, .int .i64 x.2.2] 154):=⟨_,rfl⟩
     rw[←hW]
     have bW:Below wr.heap.size wr W:=by rw[hW];exact(Below.refl _ _).alloc (Nat.le_refl _) _
     have sW:wr.heap.size<W.heap.size:=by rw[hW];simp
     replace p0:=(bW.cell (p:=⟨w.heap.size,0,none⟩) (show w.heap.size<wr.heap.size by omega)).trans p0
     replace p1:=(bW.cell (p:=⟨w.heap.size,1,none⟩) (show w.heap.size<wr.heap.size by omega)).trans p1
     replace p2:=(bW.cell (p:=⟨w.heap.size,2,none⟩) (show w.heap.size<wr.heap.size by omega)).trans p2
     replace c0:=(bW.cell (p:=⟨b,off+(j+1)*3,none⟩) (show b<wr.heap.size by omega)).trans c0
     replace c1:=(bW.cell (p:=⟨b,off+(j+1)*3+1,none⟩) (show b<wr.heap.size by omega)).trans c1
     replace c2:=(bW.cell (p:=⟨b,off+(j+1)*3+2,none⟩) (show b<wr.heap.size by omega)).trans c2
     replace d0:=(bW.cell (p:=⟨b,off+j*3,none⟩) (show b<wr.heap.size by omega)).trans d0
     replace d1:=(bW.cell (p:=⟨b,off+j*3+1,none⟩) (show b<wr.heap.size by omega)).trans d1
     replace d2:=(bW.cell (p:=⟨b,off+j*3+2,none⟩) (show b<wr.heap.size by omega)).trans d2
     have l0:W.cell? ⟨wr.heap.size,0,none⟩=some (.int .i64 x.1):=by rw[hW];simp[go_sem]
     have l1:W.cell? ⟨wr.heap.size,1,none⟩=some (.int .i64 x.2.1):=by rw[hW];simp[go_sem]
     have l2:W.cell? ⟨wr.heap.size,2,none⟩=some (.int .i64 x.2.2):=by rw[hW];simp[go_sem]
     clear hW
     have f0:=BelW.cell p0 (show w.heap.size<W.heap.size by omega)
     have f1:=BelW.cell p1 (show w.heap.size<W.heap.size by omega)
     have f2:=BelW.cell p2 (show w.heap.size<W.heap.size by omega)
     have f3:=BelW.cell c0 (show b<W.heap.size by omega)
     have f4:=BelW.cell c1 (show b<W.heap.size by omega)
     have f5:=BelW.cell c2 (show b<W.heap.size by omega)
     have f6:=BelW.cell d0 (show b<W.heap.size by omega)
     have f7:=BelW.cell d1 (show b<W.heap.size by omega)
     have f8:=BelW.cell d2 (show b<W.heap.size by omega)
     have f9:=BelW.cell l0 (show wr.heap.size<W.heap.size by omega)
     have f10:=BelW.cell l1 (show wr.heap.size<W.heap.size by omega)
     have f11:=BelW.cell l2 (show wr.heap.size<W.heap.size by omega)
     (refine wp_region_quiet_bel (by kernel_rfl) (by kernel_rfl) ?_;(repeat(go_big_quiet_step (first | (go_at_call 175;exact Calls.bel_of (HE.out _)))));refine wpQuiet_nil ?_;intro wq hw';obtain⟨pq,hw''⟩:=hw';have bq:=pq.h;rw[←hw''] at bq;clear hw'' pq)
     clear f0 f1 f2 f3 f4 f5 f6 f7 f8 f9 f10 f11
     go_wp2
     go_ret
     exact⟨ret_bool (FA.out F.out).symm,(HB3.out.trans (bW.mono (by omega))).trans (bq.mono (by omega))⟩
    ·simp only[e1] at hE
     have HE:=hDD hE
     clear hE
     rcases e2:decide (0≤cmpE y x) with _ | _
     ·have F:Hid (okE g (j+1)=true):=hDD (by rw[HZ.out,e1,e2];rfl)
      go_wp2_with fail
      obtain⟨W,hW⟩: ∃W,W=World.alloc wr (Obj.cells #[.int .i64 x.1, .int .i64 x.2.1, .int .i64 x.2.2] 154):=⟨_,rfl⟩
      rw[←hW]
      have bW:Below wr.heap.size wr W:=by rw[hW];exact(Below.refl _ _).alloc (Nat.le_refl _) _
      have sW:wr.heap.size<W.heap.size:=by rw[hW];simp
      replace p0:=(bW.cell (p:=⟨w.heap.size,0,none⟩) (show w.heap.size<wr.heap.size by omega)).trans p0
      replace p1:=(bW.cell (p:=⟨w.heap.size,1,none⟩) (show w.heap.size<wr.heap.size by omega)).trans p1
      replace p2:=(bW.cell (p:=⟨w.heap.size,2,none⟩) (show w.heap.size<wr.heap.size by omega)).trans p2
      replace c0:=(bW.cell (p:=⟨b,off+(j+1)*3,none⟩) (show b<wr.heap.size by omega)).trans c0
      replace c1:=(bW.cell (p:=⟨b,off+(j+1)*3+1,none⟩) (show b<wr.heap.size by omega)).trans c1
      replace c2:=(bW.cell (p:=⟨b,off+(j+1)*3+2,none⟩) (show b<wr.heap.size by omega)).trans c2
      replace d0:=(bW.cell (p:=⟨b,off+j*3,none⟩) (show b<wr.heap.size by omega)).trans d0
      replace d1:=(bW.cell (p:=⟨b,off+j*3+1,none⟩) (show b<wr.heap.size by omega)).trans d1
      replace d2:=(bW.cell (p:=⟨b,off+j*3+2,none⟩) (show b<wr.heap.size by omega)).trans d2
      have l0:W.cell? ⟨wr.heap.size,0,none⟩=some (.int .i64 x.1):=by rw[hW];simp[go_sem]
      have l1:W.cell? ⟨wr.heap.size,1,none⟩=some (.int .i64 x.2.1):=by rw[hW];simp[go_sem]
      have l2:W.cell? ⟨wr.heap.size,2,none⟩=some (.int .i64 x.2.2):=by rw[hW];simp[go_sem]
      clear hW
      have f0:=BelW.cell p0 (show w.heap.size<W.heap.size by omega)
      have f1:=BelW.cell p1 (show w.heap.size<W.heap.size by omega)
      have f2:=BelW.cell p2 (show w.heap.size<W.heap.size by omega)
      have f3:=BelW.cell c0 (show b<W.heap.size by omega)
      have f4:=BelW.cell c1 (show b<W.heap.size by omega)
      have f5:=BelW.cell c2 (show b<W.heap.size by omega)
      have f6:=BelW.cell d0 (show b<W.heap.size by omega)
      have f7:=BelW.cell d1 (show b<W.heap.size by omega)
      have f8:=BelW.cell d2 (show b<W.heap.size by omega)
      have f9:=BelW.cell l0 (show wr.heap.size<W.heap.size by omega)
      have f10:=BelW.cell l1 (show wr.heap.size<W.heap.size by omega)
      have f11:=BelW.cell l2 (show wr.heap.size<W.heap.size by omega)
      (refine wp_region_quiet_bel (by kernel_rfl) (by kernel_rfl) ?_;(repeat(go_big_quiet_step (first | (go_at_call 175;exact Calls.bel_of (HE.out _)) | (go_at_call 176;exact Calls.bel_of (implCompareEdges_any y x _)))));refine wpQuiet_nil ?_;intro wq hw';obtain⟨pq,hw''⟩:=hw';have bq:=pq.h;rw[←hw''] at bq;clear hw'' pq)
      clear f0 f1 f2 f3 f4 f5 f6 f7 f8 f9 f10 f11
      go_wp2
      go_roundw
      case rel=>exact⟨j+1+1,by omega,by go_num,ST.out F.out,(HB2.out.trans (bW.mono (by omega))).trans (bq.mono (by omega))⟩
      case measure=>simp[intOf];omega
     ·have F:Hid (okE g (j+1)=false):=hDD (by rw[HZ.out,e1,e2];rfl)
      go_wp2_with fail
      obtain⟨W,hW⟩: ∃W,W=World.alloc wr (Obj.cells #[.int .i64 x.1, .int .i64 x.2.1, .int .i64 x.2.2] 154):=⟨_,rfl⟩
      rw[←hW]
      have bW:Below wr.heap.size wr W:=by rw[hW];exact(Below.refl _ _).alloc (Nat.le_refl _) _
      have sW:wr.heap.size<W.heap.size:=by rw[hW];simp
      replace p0:=(bW.cell (p:=⟨w.heap.size,0,none⟩) (show w.heap.size<wr.heap.size by omega)).trans p0
      replace p1:=(bW.cell (p:=⟨w.heap.size,1,none⟩) (show w.heap.size<wr.heap.size by omega)).trans p1
      replace p2:=(bW.cell (p:=⟨w.heap.size,2,none⟩) (show w.heap.size<wr.heap.size by omega)).trans p2
      replace c0:=(bW.cell (p:=⟨b,off+(j+1)*3,none⟩) (show b<wr.heap.size by omega)).trans c0
      replace c1:=(bW.cell (p:=⟨b,off+(j+1)*3+1,none⟩) (show b<wr.heap.size by omega)).trans c1
      replace c2:=(bW.cell (p:=⟨b,off+(j+1)*3+2,none⟩) (show b<wr.heap.size by omega)).trans c2
      replace d0:=(bW.cell (p:=⟨b,off+j*3,none⟩) (show b<wr.heap.size by omega)).trans d0
      replace d1:=(bW.cell (p:=⟨b,off+j*3+1,none⟩) (show b<wr.heap.size by omega)).trans d1
      replace d2:=(bW.cell (p:=⟨b,off+j*3+2,none⟩) (show b<wr.heap.size by omega)).trans d2
      have l0:W.cell? ⟨wr.heap.size,0,none⟩=some (.int .i64 x.1):=by rw[hW];simp[go_sem]
      have l1:W.cell? ⟨wr.heap.size,1,none⟩=some (.int .i64 x.2.1):=by rw[hW];simp[go_sem]
      have l2:W.cell? ⟨wr.heap.size,2,none⟩=some (.int .i64 x.2.2):=by rw[hW];simp[go_sem]
      clear hW
      have f0:=BelW.cell p0 (show w.heap.size<W.heap.size by omega)
      have f1:=BelW.cell p1 (show w.heap.size<W.heap.size by omega)
      have f2:=BelW.cell p2 (show w.heap.size<W.heap.size by omega)
      have f3:=BelW.cell c0 (show b<W.heap.size by omega)
      have f4:=BelW.cell c1 (show b<W.heap.size by omega)
      have f5:=BelW.cell c2 (show b<W.heap.size by omega)
      have f6:=BelW.cell d0 (show b<W.heap.size by omega)
      have f7:=BelW.cell d1 (show b<W.heap.size by omega)
      have f8:=BelW.cell d2 (show b<W.heap.size by omega)
      have f9:=BelW.cell l0 (show wr.heap.size<W.heap.size by omega)
      have f10:=BelW.cell l1 (show wr.heap.size<W.heap.size by omega)
      have f11:=BelW.cell l2 (show wr.heap.size<W.heap.size by omega)
      (refine wp_region_quiet_bel (by kernel_rfl) (by kernel_rfl) ?_;(repeat(go_big_quiet_step (first | (go_at_call 175;exact Calls.bel_of (HE.out _)) | (go_at_call 176;exact Calls.bel_of (implCompareEdges_any y x _)))));refine wpQuiet_nil ?_;intro wq hw';obtain⟨pq,hw''⟩:=hw';have bq:=pq.h;rw[←hw''] at bq;clear hw'' pq)
      clear f0 f1 f2 f3 f4 f5 f6 f7 f8 f9 f10 f11
      go_wp2
      go_ret
      exact⟨ret_bool (FA.out F.out).symm,(HB3.out.trans (bW.mono (by omega))).trans (bq.mono (by omega))⟩
   ·obtain rfl:k=0:=by omega
    have HZ:=hDD (okE_zero hlt)
    generalize g.2.2[0]=x at c0 c1 c2 HZ
    simp only[Nat.zero_mul,Nat.add_zero] at c0 c1 c2
    have hE:=fun w=>accepts_any g.1 g.2.1 (some ⟨b,off,none⟩) g.2.2.length cap x w
    rcases e1:edgeOk g.1 g.2.1 x with _ | _
    ·have F:Hid (okE g 0=false):=hDD (by rw[HZ.out,e1])
     simp only[e1] at hE
     have HE:=hDD hE
     clear hE
     go_wp2_with fail
     obtain⟨W,hW⟩: ∃W,W=World.alloc wr (Obj.cells #[.int .i64 x.1, .int .i64 x.2.1, .int .i64 x.2.2] 154):=⟨_,rfl⟩
     rw[←hW]
     have bW:Below wr.heap.size wr W:=by rw[hW];exact(Below.refl _ _).alloc (Nat.le_refl _) _
     have sW:wr.heap.size<W.heap.size:=by rw[hW];simp
     replace p0:=(bW.cell (p:=⟨w.heap.size,0,none⟩) (show w.heap.size<wr.heap.size by omega)).trans p0
     replace p1:=(bW.cell (p:=⟨w.heap.size,1,none⟩) (show w.heap.size<wr.heap.size by omega)).trans p1
     replace p2:=(bW.cell (p:=⟨w.heap.size,2,none⟩) (show w.heap.size<wr.heap.size by omega)).trans p2
     replace c0:=(bW.cell (p:=⟨b,off,none⟩) (show b<wr.heap.size by omega)).trans c0
     replace c1:=(bW.cell (p:=⟨b,off+1,none⟩) (show b<wr.heap.size by omega)).trans c1
     replace c2:=(bW.cell (p:=⟨b,off+2,none⟩) (show b<wr.heap.size by omega)).trans c2
     have l0:W.cell? ⟨wr.heap.size,0,none⟩=some (.int .i64 x.1):=by rw[hW];simp[go_sem]
     have l1:W.cell? ⟨wr.heap.size,1,none⟩=some (.int .i64 x.2.1):=by rw[hW];simp[go_sem]
     have l2:W.cell? ⟨wr.heap.size,2,none⟩=some (.int .i64 x.2.2):=by rw[hW];simp[go_sem]
     clear hW
     have f0:=BelW.cell p0 (show w.heap.size<W.heap.size by omega)
     have f1:=BelW.cell p1 (show w.heap.size<W.heap.size by omega)
     have f2:=BelW.cell p2 (show w.heap.size<W.heap.size by omega)
     have f3:=BelW.cell c0 (show b<W.heap.size by omega)
     have f4:=BelW.cell c1 (show b<W.heap.size by omega)
     have f5:=BelW.cell c2 (show b<W.heap.size by omega)
     have f6:=BelW.cell l0 (show wr.heap.size<W.heap.size by omega)
     have f7:=BelW.cell l1 (show wr.heap.size<W.heap.size by omega)
     have f8:=BelW.cell l2 (show wr.heap.size<W.heap.size by omega)
     (refine wp_region_quiet_bel (by kernel_rfl) (by kernel_rfl) ?_;(repeat(go_big_quiet_step (first | (go_at_call 175;exact Calls.bel_of (HE.out _)))));refine wpQuiet_nil ?_;intro wq hw';obtain⟨pq,hw''⟩:=hw';have bq:=pq.h;rw[←hw''] at bq;clear hw'' pq)
     clear f0 f1 f2 f3 f4 f5 f6 f7 f8
     go_wp2
     go_ret
     exact⟨ret_bool (FA.out F.out).symm,(HB3.out.trans (bW.mono (by omega))).trans (bq.mono (by omega))⟩
    ·have F:Hid (okE g 0=true):=hDD (by rw[HZ.out,e1])
     simp only[e1] at hE
     have HE:=hDD hE
     clear hE
     go_wp2_with fail
     obtain⟨W,hW⟩: ∃W,W=World.alloc wr (Obj.cells #[.int .i64 x.1, .int .i64 x.2.1, .int .i64 x.2.2] 154):=⟨_,rfl⟩
     rw[←hW]
     have bW:Below wr.heap.size wr W:=by rw[hW];exact(Below.refl _ _).alloc (Nat.le_refl _) _
     have sW:wr.heap.size<W.heap.size:=by rw[hW];simp
     replace p0:=(bW.cell (p:=⟨w.heap.size,0,none⟩) (show w.heap.size<wr.heap.size by omega)).trans p0
     replace p1:=(bW.cell (p:=⟨w.heap.size,1,none⟩) (show w.heap.size<wr.heap.size by omega)).trans p1
     replace p2:=(bW.cell (p:=⟨w.heap.size,2,none⟩) (show w.heap.size<wr.heap.size by omega)).trans p2
     replace c0:=(bW.cell (p:=⟨b,off,none⟩) (show b<wr.heap.size by omega)).trans c0
     replace c1:=(bW.cell (p:=⟨b,off+1,none⟩) (show b<wr.heap.size by omega)).trans c1
     replace c2:=(bW.cell (p:=⟨b,off+2,none⟩) (show b<wr.heap.size by omega)).trans c2
     have l0:W.cell? ⟨wr.heap.size,0,none⟩=some (.int .i64 x.1):=by rw[hW];simp[go_sem]
     have l1:W.cell? ⟨wr.heap.size,1,none⟩=some (.int .i64 x.2.1):=by rw[hW];simp[go_sem]
     have l2:W.cell? ⟨wr.heap.size,2,none⟩=some (.int .i64 x.2.2):=by rw[hW];simp[go_sem]
     clear hW
     have f0:=BelW.cell p0 (show w.heap.size<W.heap.size by omega)
     have f1:=BelW.cell p1 (show w.heap.size<W.heap.size by omega)
     have f2:=BelW.cell p2 (show w.heap.size<W.heap.size by omega)
     have f3:=BelW.cell c0 (show b<W.heap.size by omega)
     have f4:=BelW.cell c1 (show b<W.heap.size by omega)
     have f5:=BelW.cell c2 (show b<W.heap.size by omega)
     have f6:=BelW.cell l0 (show wr.heap.size<W.heap.size by omega)
     have f7:=BelW.cell l1 (show wr.heap.size<W.heap.size by omega)
     have f8:=BelW.cell l2 (show wr.heap.size<W.heap.size by omega)
     (refine wp_region_quiet_bel (by kernel_rfl) (by kernel_rfl) ?_;(repeat(go_big_quiet_step (first | (go_at_call 175;exact Calls.bel_of (HE.out _)))));refine wpQuiet_nil ?_;intro wq hw';obtain⟨pq,hw''⟩:=hw';have bq:=pq.h;rw[←hw''] at bq;clear hw'' pq)
     clear f0 f1 f2 f3 f4 f5 f6 f7 f8
     go_wp2
     go_roundw
     case rel=>exact⟨1,by omega,by go_num,ST.out F.out,(HB2.out.trans (bW.mono (by omega))).trans (bq.mono (by omega))⟩
     case measure=>simp[intOf];omega
  ·obtain rfl:k=g.2.2.length:=by omega
   have F:=hDD (grB_eq HA.out)
   clear hall hbel
   go_wp2
   go_ret
   exact⟨ret_bool (by rw[F.out,t1,t2,decide_eq_true (by omega)];rfl),HB3.out⟩
end Go.Proofs.YtlgcflpaekbopaaGreat
namespace Go.Proofs.YtlgcflpaekbopaaGreat
set_option maxRecDepth 20000
set_option linter.unusedVariables false
set_option linter.unusedSimpArgs false
open Go.RowKit
def clash (a b:EdD):Bool:=(a.2.1==b.2.1)&&((a.1==b.1)||(a.2.2==b.2.2))
theorem clash_comm (a b:EdD):clash a b=clash b a:=by
 have h: ∀x y:Int,(x==y)=(y==x):=fun x y=>by rw[Bool.eq_iff_iff];simp;constructor<;>(intro h;exact h.symm)
 unfold clash
 rw[h a.2.1,h a.1,h a.2.2]
def Fol (es:List EdD):Prop:=es.Pairwise fun a b=>clash a b=false
instance (es:List EdD):Decidable (Fol es):=by unfold Fol;infer_instance
def foldB (g:GrD):Bool:=grB g&&decide (Fol g.2.2)
theorem fol_of {es:List EdD} (h: ∀i (hi:i<es.length),∀k (hk:k<i),clash es[i] (es[k]'(by omega))=false):Fol es:=by
 unfold Fol
 rw[List.pairwise_iff_getElem]
 intro i j hi hj hij
 rw[clash_comm]
 exact h j hj i hij
theorem foldB_true {g:GrD} (h:grB g=true) (hf: ∀i (hi:i<g.2.2.length),∀k (hk:k<i),clash g.2.2[i] (g.2.2[k]'(by omega))=false):foldB g=true:=by
 unfold foldB
 rw[h,decide_eq_true (fol_of hf)]
 rfl
theorem foldB_no {g:GrD} (h:grB g=false):foldB g=false:=by
 unfold foldB
 rw[h]
 rfl
theorem foldB_clash {g:GrD} {i k:Nat} (hi:i<g.2.2.length) (hk:k<i) (h:clash g.2.2[i] (g.2.2[k]'(by omega))=true):foldB g=false:=by
 unfold foldB
 rw[decide_eq_false,Bool.and_false]
 intro hf
 unfold Fol at hf
 rw[List.pairwise_iff_getElem] at hf
 have:=hf k i (by omega) hi hk
 rw[clash_comm,h] at this
 cases this
theorem foldB_parts {g:GrD} (h:foldB g=true):grB g=true∧Fol g.2.2:=by
 unfold foldB at h
 simpa using h
set_option maxHeartbeats 2000000 in
theorem implIsFolded_any (v:Value) (g:GrD) (w:World) (h:ArgG w v g):
  Calls Tryz.prog 130 #[v] w fun e w'=>e= .returned (.bool (foldB g))∧Below w.heap.size w w':=by
 have HG:=hDD h
 obtain⟨s,rfl,_,_,ha⟩:=h
 have H:=hDD ha
 obtain⟨A,cap,rfl,hcap,hm,hn0,_⟩:=ha
 unfold maxLen at hm
 have bx:Below w.heap.size w (w.alloc (Obj.cells #[Value.int IntKind.i64 g.1,Value.int IntKind.i64 g.2.1, .slice A g.2.2.length cap] 82)):=(by repeat(first | exact Below.refl _ _ | (refine Below.setCell ?_ (by first | omega | (simp<;>omega)) _) | (refine bel_drewN ?_ _) | (refine Below.drew ?_) | (refine Below.alloc ?_ (by first | omega | (simp<;>omega)) _)))
 have kx:(w.alloc (Obj.cells #[Value.int IntKind.i64 g.1,Value.int IntKind.i64 g.2.1, .slice A g.2.2.length cap] 82)).cell? ⟨w.heap.size,2,none⟩=some (.slice A g.2.2.length cap):=by simp[go_sem]
 have sx:w.heap.size<(w.alloc (Obj.cells #[Value.int IntKind.i64 g.1,Value.int IntKind.i64 g.2.1, .slice A g.2.2.length cap] 82)).heap.size:=by simp
 have BX:=hDD bx
 have KX:=hDD kx
 clear bx kx
 go_enter Tryz.func130,Tryz.ntmps130
 go_wp2_with fail
 refine(implIsGraph_any _ g _ (HG.out.below BX.out)).mono ?_
 rintro e w1 ⟨rfl,b1⟩
 have HB:=hDD (BX.out.trans (b1.mono BX.out.size))
 have k2:=(b1.cell (p:=⟨w.heap.size,2,none⟩) sx).trans KX.out
 have hs0:w.heap.size<w1.heap.size:=by have:=b1.size;omega
 have K2:=hDD k2
 clear b1 sx
 rcases e0:grB g with _ | _
 ·go_wp2
  go_ret
  exact⟨ret_bool (foldB_no e0).symm,HB.out⟩
 go_wp2
 clear k2
 go_loopw [13] (fun i wo=> ∃k:Nat,k≤g.2.2.length∧i= .int .i64 k∧(∀i (hi:i<g.2.2.length),i<k→ ∀j (hj:j<g.2.2.length),i<j→clash g.2.2[j] g.2.2[i]=false)∧Below w1.heap.size w1 wo) (fun i _=>g.2.2.length-(intOf i).toNat)
 case atStart=>exact⟨0,Nat.zero_le _,rfl,fun i hi h=>absurd h (by omega),Below.refl _ _⟩
 case round=>
  obtain⟨k,hk,rfl,hall,hbel⟩:=hrel
  obtain⟨wo,rfl⟩: ∃wo:World,wo=wr:=⟨_,rfl⟩
  have HA:=hDD hall
  have HB2:=hDD hbel
  have HB3:=hDD (HB.out.trans (hbel.mono HB.out.size))
  have hsz:=hbel.size
  have p2:=(hbel.cell (p:=⟨w.heap.size,2,none⟩) hs0).trans K2.out
  have hws:w.heap.size<wo.heap.size:=by omega
  clear hall hbel
  by_cases hlt:k<g.2.2.length
  ·obtain⟨b,off,rfl,hbl,c0,c1,c2,_⟩:=(H.out.below HB3.out).at hlt
   have j1:((k:Int)+1)≤(g.2.2.length:Int):=by omega
   have j0:(0:Int)≤(k:Int)+1:=by omega
   have j2:((k:Int)+1)≤(cap:Int):=by omega
   have CUT:=hDD (H.out.cut (k:=k+1) (by omega))
   generalize hx:g.2.2[k]=x at c0 c1 c2
   have HX:=hDD hx
   clear hx
   have hwr0:w.heap.size<wo.heap.size:=hws
   by_cases hcx:cap=k+1
   ·have hend:g.2.2.length=k+1:=by omega
    go_wp2
    refine wp_loop_rounds 1 ?_
    rw[rounds_succ]
    have hz0:g.2.2.length-(k+1)=0:=by omega
    go_wp2
    go_roundw
    case rel=>exact⟨k+1,by omega,by go_num,fun i hi him j hj hij=>by
      rcases Nat.lt_or_eq_of_le (Nat.le_of_lt_succ him) with h | rfl
      ·exact HA.out i hi h j hj hij
      ·omega,HB2.out.alloc (by omega) _⟩
    case measure=>simp[intOf];omega
   ·have cu:=CUT.out
    rw[if_neg hcx] at cu
    simp only[Option.map_some,Addr.add_lit] at cu
    have CU:=hDD cu
    clear cu
    obtain⟨N,hN⟩: ∃N,N=g.2.2.length-(k+1):=⟨_,rfl⟩
    rw[←hN] at CU
    have hN2:(N:Int)=(g.2.2.length:Int)-((k:Int)+1):=by omega
    have hN3:k+1+N=g.2.2.length:=by omega
    go_wp2
    have hq:Below wo.heap.size wo (wo.alloc (Obj.cells #[Value.int IntKind.i64 x.1,Value.int IntKind.i64 x.2.1,Value.int IntKind.i64 x.2.2] 154)):=(Below.refl _ _).alloc (Nat.le_refl _) _
    have l0:(wo.alloc (Obj.cells #[Value.int IntKind.i64 x.1,Value.int IntKind.i64 x.2.1,Value.int IntKind.i64 x.2.2] 154)).cell? ⟨wo.heap.size,0,none⟩=some (.int .i64 x.1):=by simp[go_sem]
    have l1:(wo.alloc (Obj.cells #[Value.int IntKind.i64 x.1,Value.int IntKind.i64 x.2.1,Value.int IntKind.i64 x.2.2] 154)).cell? ⟨wo.heap.size,1,none⟩=some (.int .i64 x.2.1):=by simp[go_sem]
    have l2:(wo.alloc (Obj.cells #[Value.int IntKind.i64 x.1,Value.int IntKind.i64 x.2.1,Value.int IntKind.i64 x.2.2] 154)).cell? ⟨wo.heap.size,2,none⟩=some (.int .i64 x.2.2):=by simp[go_sem]
    have sq:wo.heap.size<(wo.alloc (Obj.cells #[Value.int IntKind.i64 x.1,Value.int IntKind.i64 x.2.1,Value.int IntKind.i64 x.2.2] 154)).heap.size:=by simp
    generalize wo.alloc (Obj.cells #[Value.int IntKind.i64 x.1,Value.int IntKind.i64 x.2.1,Value.int IntKind.i64 x.2.2] 154)=wq at hq l0 l1 l2 sq⊢
    have HQ:=hDD hq
    have L0:=hDD l0
    have L1:=hDD l1
    have L2:=hDD l2
    have HQ3:=hDD (HB3.out.trans (hq.mono (by omega)))
    have HQ2:=hDD (HB2.out.trans (hq.mono (by omega)))
    clear hq l0 l1 l2
    go_loopw [24] (fun j wr=> ∃m:Nat,m≤N∧j= .int .i64 m∧(∀j (hj:j<g.2.2.length),k<j→j<k+1+m→clash g.2.2[j] x=false)∧Below wq.heap.size wq wr) (fun j _=>N-(intOf j).toNat)
    case atStart=>exact⟨0,Nat.zero_le _,rfl,fun j hj h1 h2=>absurd h2 (by omega),Below.refl _ _⟩
    case round=>
     obtain⟨m,hm1,rfl,hin,hbi⟩:=hrel
     have HI:=hDD hin
     have HBI:=hDD hbi
     have szi:=hbi.size
     have l0:=(hbi.cell (p:=⟨wo.heap.size,0,none⟩) sq).trans L0.out
     have l1:=(hbi.cell (p:=⟨wo.heap.size,1,none⟩) sq).trans L1.out
     have l2:=(hbi.cell (p:=⟨wo.heap.size,2,none⟩) sq).trans L2.out
     have HB6:=hDD (HQ3.out.trans (hbi.mono (by omega)))
     have hwr:wo.heap.size<wr.heap.size:=by omega
     clear hin hbi
     by_cases hlt2:m<N
     ·have hgm:(g.2.2.drop (k+1))[m]'(by simp;omega)=g.2.2[k+1+m]'(by omega):=by rw[List.getElem_drop]
      obtain⟨b2,off2,hA2,hbl2,d0,d1,d2,_⟩:=(CU.out.below HB6.out).at (k:=m) (by simp;omega)
      rw[hgm] at d0 d1 d2
      obtain⟨rfl,rfl⟩:b=b2∧off+(k+1)*3=off2:=by simpa using hA2
      have CL:Hid (clash (g.2.2[k+1+m]'(by omega)) x=true→foldB g=false):=hDD (fun h=>foldB_clash (i:=k+1+m) (k:=k) (by omega) (by omega) (by rw[HX.out];exact h))
      have CN:Hid (clash (g.2.2[k+1+m]'(by omega)) x=false→ ∀j (hj:j<g.2.2.length),k<j→j<k+1+(m+1)→clash g.2.2[j] x=false):=hDD fun F j hj hkj hjm=>by
       by_cases e:j=k+1+m
       ·subst e;exact F
       ·exact HI.out j hj hkj (by omega)
      clear hA2 hgm
      generalize g.2.2[k+1+m]'(by omega)=y at*
      have hC:Hid (clash y x=((x.2.1==y.2.1)&&((x.1==y.1)||(x.2.2==y.2.2)))):=hDD (by rw[clash_comm];rfl)
      rcases t1:(x.2.1==y.2.1) with _ | _
      ·have F:=hDD (CN.out (by rw[hC.out,t1];rfl))
       go_wp2
       go_roundw
       case rel=>exact⟨m+1,by omega,by go_num,F.out,HBI.out.alloc (by omega) _⟩
       case measure=>simp[intOf];omega
      rcases t2:(x.1==y.1) with _ | _
      ·rcases t3:(x.2.2==y.2.2) with _ | _
       ·have F:=hDD (CN.out (by rw[hC.out,t1,t2,t3];rfl))
        go_wp2
        go_roundw
        case rel=>exact⟨m+1,by omega,by go_num,F.out,HBI.out.alloc (by omega) _⟩
        case measure=>simp[intOf];omega
       ·have F:=hDD (CL.out (by rw[hC.out,t1,t2,t3];rfl))
        go_wp2
        go_ret
        exact⟨ret_bool F.out.symm,HB6.out.alloc (by omega) _⟩
      ·have F:=hDD (CL.out (by rw[hC.out,t1,t2];rfl))
       go_wp2
       go_ret
       exact⟨ret_bool F.out.symm,HB6.out.alloc (by omega) _⟩
     ·obtain rfl:m=N:=by omega
      go_wp2
      go_roundw
      case rel=>exact⟨k+1,by omega,by go_num,fun i hi him j hj hij=>by
       rcases Nat.lt_or_eq_of_le (Nat.le_of_lt_succ him) with h | rfl
       ·exact HA.out i hi h j hj hij
       ·have:=HI.out j hj hij (by omega)
        rw[HX.out]
        exact this,HQ2.out.trans (HBI.out.mono (by omega))⟩
      case measure=>simp[intOf];omega
  ·obtain rfl:k=g.2.2.length:=by omega
   have F:Hid (foldB g=true):=hDD (foldB_true e0 fun i hi j hj=>HA.out j (by omega) (by omega) i hi hj)
   go_wp2
   go_ret
   exact⟨ret_bool F.out.symm,HB3.out⟩
end Go.Proofs.YtlgcflpaekbopaaGreat
namespace Go.Proofs.YtlgcflpaekbopaaGreat
set_option maxRecDepth 20000
set_option linter.unusedVariables false
set_option linter.unusedSimpArgs false
open Go.RowKit
def lettersL:Nat→List Int
 | 0=> []
 | n+1=>lettersL n++ [((n:Nat):Int)+1,-(((n:Nat):Int)+1)]
theorem lettersL_len (n:Nat):(lettersL n).length=2*n:=by
 induction n with
 | zero=>rfl
 | succ n ih=>simp[lettersL,ih];omega
theorem lettersL_mem {n:Nat} {x:Int} (h:x∈lettersL n):(1≤x∧x≤n)∨(1≤ -x∧ -x≤n):=by
 induction n with
 | zero=>cases h
 | succ n ih=>
   simp only[lettersL,List.mem_append,List.mem_cons,List.not_mem_nil,or_false] at h
   rcases h with h | h | h
   ·have:=ih h;omega
   ·omega
   ·omega
set_option maxHeartbeats 1000000 in
theorem l5Letters_any (n:Nat) (w:World) (hn:n≤1073741824):
  Calls Tryz.prog 82 #[.int .i64 n] w fun e w'=> ∃r,e= .returned r∧OwI w' w.heap.size r (lettersL n)∧Below w.heap.size w w':=by
 go_enter Tryz.func82,Tryz.ntmps82
 go_wp2
 go_loopw [3,4] (fun out i wr=> ∃k:Nat,k≤n∧i= .int .i64 (k+1)∧OwI wr w.heap.size out (lettersL k)∧Below w.heap.size w wr)
  (fun _ i _=>n+1-(intOf i).toNat)
 case atStart=>exact⟨0,Nat.zero_le _,rfl,OwI_lit _ [] I64s_nil (by simp) (Nat.le_refl _),(Below.refl _ _).alloc (Nat.le_refl _) _⟩
 case round=>
  obtain⟨k,hk,rfl,hown,hbel⟩:=hrel
  have hsz:=hbel.size
  have hal:=lettersL_len k
  by_cases hlt:k<n
  ·have HS:Hid (lettersL (k+1)=lettersL k++ [(k:Int)+1,-((k:Int)+1)]):=hDD rfl
   generalize lettersL k=acc at hown HS hal
   have HO:=hDD hown
   obtain⟨A1,cap1,rfl,hcap1,hm1,_,_⟩:=hown.form
   clear hown
   have HX:Hid (I64 ((k:Int)+1)):=hDD ⟨by omega,by omega⟩
   have HY:Hid (I64 (-((k:Int)+1))):=hDD ⟨by omega,by omega⟩
   go_wp2_with (first | ((at_builtin;refine push_int rfl (.tmp 11) (.tmp 13) rfl _ _ _ (OwI.alloc HO.out _) rfl _ _ rfl (cell_new1 _ _ _) HX.out (by first | omega | (simp<;>omega)) (by first | omega | (simp<;>omega)) ?_;intro v1 wv1 o1 g1 p1);have hz1:=g1.size;simp at hz1) | (at_builtin;refine push_int rfl (.tmp 15) (.tmp 18) rfl _ _ _ (OwI.alloc o1 _) rfl _ _ rfl (cell_new1 _ _ _) HY.out (by first | omega | (simp<;>omega)) (by first | omega | (simp<;>omega)) ?_;intro v2 wv2 o2 g2 p2))
   go_roundw
   case rel=>
    have hb1:=bel_push hbel hsz HO.out.1 (Nat.le_refl _) g1
    exact⟨k+1,by omega,by go_num,by rw[HS.out];simpa using o2,bel_push hb1 hb1.size o1.1 (Nat.le_refl _) g2⟩
   case measure=>simp[intOf];omega
  ·obtain rfl:k=n:=by omega
   go_wp2
   go_ret
   exact⟨_,rfl,hown,hbel⟩
set_option maxHeartbeats 1000000 in
theorem letters_any (n:Nat) (w:World) (hn:n≤1073741824):
  Calls Tryz.prog 81 #[.int .i64 n] w fun e w'=> ∃r,e= .returned r∧OwI w' w.heap.size r (lettersL n)∧Below w.heap.size w w':=by
 go_enter Tryz.func81,Tryz.ntmps81
 go_wp2
 go_loopw [3,4] (fun out i wr=> ∃k:Nat,k≤n∧i= .int .i64 (k+1)∧OwI wr w.heap.size out (lettersL k)∧Below w.heap.size w wr)
  (fun _ i _=>n+1-(intOf i).toNat)
 case atStart=>exact⟨0,Nat.zero_le _,rfl,OwI_lit _ [] I64s_nil (by simp) (Nat.le_refl _),(Below.refl _ _).alloc (Nat.le_refl _) _⟩
 case round=>
  obtain⟨k,hk,rfl,hown,hbel⟩:=hrel
  have hsz:=hbel.size
  have hal:=lettersL_len k
  by_cases hlt:k<n
  ·have HS:Hid (lettersL (k+1)=lettersL k++ [(k:Int)+1,-((k:Int)+1)]):=hDD rfl
   generalize lettersL k=acc at hown HS hal
   have HO:=hDD hown
   obtain⟨A1,cap1,rfl,hcap1,hm1,_,_⟩:=hown.form
   clear hown
   have HX:Hid (I64s [(k:Int)+1,-((k:Int)+1)]):=hDD (fun x hx=>by simp at hx;unfold I64;omega)
   have HL:Hid (RdI (wr.alloc (.cells #[.int .i64 ((k:Int)+1), .int .i64 (-((k:Int)+1))] 3)) (.slice (some ⟨wr.heap.size,0,none⟩) 2 2) [(k:Int)+1,-((k:Int)+1)]):=
    hDD (OwI_lit wr _ HX.out (by simp) (Nat.le_refl _)).rd
   go_wp2_with (at_builtin;refine append_ints rfl (.tmp 11) (.tmp 15) rfl w.heap.size _ _ (HO.out.alloc _) rfl _ _ HL.out rfl (by simp;omega) (by first | omega | (simp;omega)) ?_;intro v2 w2 o2 g2 p2)
   go_roundw
   case rel=>exact⟨k+1,by omega,by go_num,by rw[HS.out];exact o2,bel_push hbel hsz HO.out.1 (Nat.le_refl _) g2⟩
   case measure=>simp[intOf];omega
  ·obtain rfl:k=n:=by omega
   go_wp2
   go_ret
   exact⟨_,rfl,hown,hbel⟩
end Go.Proofs.YtlgcflpaekbopaaGreat
namespace Go.Proofs.YtlgcflpaekbopaaGreat
set_option maxRecDepth 20000
set_option linter.unusedVariables false
set_option linter.unusedSimpArgs false
open Go.RowKit
inductive Conn (es:List EdD) (v:Int):Int→Prop
 | base:Conn es v v
 | fwd (e:EdD) (he:e∈es) (h:Conn es v e.1):Conn es v e.2.2
 | back (e:EdD) (he:e∈es) (h:Conn es v e.2.2):Conn es v e.1
def stepR (o:List Int) (e:EdD):List Int:=
 if e.2.2∈(if e.1∈o then insF cmpI o e.2.2 else o) then insF cmpI (if e.1∈o then insF cmpI o e.2.2 else o) e.1 else(if e.1∈o then insF cmpI o e.2.2 else o)
theorem insF_mem {xs:List Int} {x y:Int}:y∈insF cmpI xs x↔y=x∨y∈xs:=by rw[insF_eq];exact insR_mem x xs cmpI_ord y
theorem stepR_mem {o:List Int} {e:EdD} {x:Int}:x∈stepR o e↔x∈o∨((e.1∈o∨e.2.2∈o)∧(x=e.1∨x=e.2.2)):=by
 unfold stepR
 by_cases h1:e.1∈o
 ·simp only[h1,if_true]
  have h2:e.2.2∈insF cmpI o e.2.2:=insF_mem.2 (.inl rfl)
  rw[if_pos h2,insF_mem,insF_mem]
  constructor
  ·rintro(h | h | h)
   ·exact .inr ⟨.inl trivial, .inl h⟩
   ·exact .inr ⟨.inl trivial, .inr h⟩
   ·exact .inl h
  ·rintro(h | ⟨_,h | h⟩)
   ·exact .inr (.inr h)
   ·exact .inl h
   ·exact .inr (.inl h)
 ·simp only[h1,if_false]
  by_cases h2:e.2.2∈o
  ·rw[if_pos h2,insF_mem]
   constructor
   ·rintro(h | h)
    ·exact .inr ⟨.inr h2, .inl h⟩
    ·exact .inl h
   ·rintro(h | ⟨_,h | h⟩)
    ·exact .inr h
    ·exact .inl h
    ·exact .inr (by rw[h];exact h2)
  ·rw[if_neg h2]
   constructor
   ·exact .inl
   ·rintro(h | ⟨h | h,_⟩)
    ·exact h
    ·exact absurd h (by simp)
    ·exact absurd h h2
def passR (es:List EdD) (o:List Int):List Int:=es.foldl stepR o
theorem passR_mono {es:List EdD} {o:List Int} {x:Int} (h:x∈o):x∈passR es o:=by
 unfold passR
 induction es generalizing o with
 | nil=>exact h
 | cons e es ih=>exact ih (stepR_mem.2 (.inl h))
theorem passR_both {es:List EdD} {o:List Int} {e:EdD} (he:e∈es) (h:e.1∈o∨e.2.2∈o):e.1∈passR es o∧e.2.2∈passR es o:=by
 unfold passR
 induction es generalizing o with
 | nil=>cases he
 | cons d es ih=>
   rcases List.mem_cons.1 he with rfl | he
   ·exact⟨passR_mono (es:=es) (o:=stepR o e) (stepR_mem.2 (.inr ⟨h, .inl rfl⟩)),passR_mono (es:=es) (o:=stepR o e) (stepR_mem.2 (.inr ⟨h, .inr rfl⟩))⟩
   ·refine ih he ?_
    rcases h with h | h
    ·exact .inl (stepR_mem.2 (.inl h))
    ·exact .inr (stepR_mem.2 (.inl h))
theorem passR_sound {es es':List EdD} {v:Int} {o:List Int} (hsub: ∀e∈es',e∈es) (h: ∀x∈o,Conn es v x): ∀x∈passR es' o,Conn es v x:=by
 unfold passR
 induction es' generalizing o with
 | nil=>exact h
 | cons e es' ih=>
   refine ih (fun d hd=>hsub d (by simp[hd])) fun x hx=> ?_
   have he:=hsub e (by simp)
   rcases stepR_mem.1 hx with hx | ⟨h1 | h1,rfl | rfl⟩
   ·exact h x hx
   ·exact h _ h1
   ·exact .fwd e he (h _ h1)
   ·exact .back e he (h _ h1)
   ·exact h _ h1
def Clo (es:List EdD) (o:List Int):Prop:= ∀e∈es,(e.1∈o↔e.2.2∈o)
theorem passR_clo {es:List EdD} {o:List Int} (h:Clo es o): ∀x,x∈passR es o↔x∈o:=by
 have key: ∀es':List EdD,(∀e∈es',e∈es)→ ∀o',(∀x,x∈o'↔x∈o)→ ∀x,x∈es'.foldl stepR o'↔x∈o:=by
  intro es'
  induction es' with
  | nil=>intro _ o' ho;exact ho
  | cons e es' ih=>
    intro hsub o' ho
    refine ih (fun d hd=>hsub d (by simp[hd])) _ fun x=> ?_
    rw[stepR_mem,ho,ho,ho]
    have:=h e (hsub e (by simp))
    constructor
    ·rintro(hx | ⟨h1 | h1,rfl | rfl⟩)
     ·exact hx
     ·exact h1
     ·exact this.1 h1
     ·exact this.2 h1
     ·exact h1
    ·exact .inl
 exact key es (fun _ h=>h) o fun _=>Iff.rfl
def phi (es:List EdD) (o:List Int):Nat:=(es.filter fun e=>decide (e.1∈o∧e.2.2∈o)).length
theorem filter_lt {α:Type} {p q:α→Bool} {l:List α} (hpq: ∀x,p x=true→q x=true) {a:α} (ha:a∈l) (hq:q a=true) (hp:p a=false):(l.filter p).length<(l.filter q).length:=by
 have le: ∀l:List α,(l.filter p).length≤(l.filter q).length:=by
  intro l
  induction l with
  | nil=>simp
  | cons b l ih=>
    rw[List.filter_cons,List.filter_cons]
    split
    ·rename_i h
     rw[if_pos (hpq b h)]
     simp;exact ih
    ·split
     ·simp;omega
     ·exact ih
 induction l with
 | nil=>cases ha
 | cons b l ih=>
   rw[List.filter_cons,List.filter_cons]
   rcases List.mem_cons.1 ha with rfl | ha
   ·rw[if_neg (by simp[hp]),if_pos hq]
    have:=le l
    simp;omega
   ·have:=ih ha
    split
    ·rename_i h
     rw[if_pos (hpq b h)]
     simp;exact this
    ·split
     ·simp;omega
     ·exact this
theorem phi_lt {es:List EdD} {o:List Int} (h: ¬Clo es o):phi es o<phi es (passR es o):=by
 unfold Clo at h
 have: ∃e,e∈es∧ ¬(e.1∈o↔e.2.2∈o):=by
  apply Classical.byContradiction
  intro hn
  exact h fun e he=>Classical.byContradiction fun hne=>hn ⟨e,he,hne⟩
 obtain⟨e,he,hne⟩:=this
 have hor:e.1∈o∨e.2.2∈o:=by
  apply Classical.byContradiction
  intro hn
  exact hne ⟨fun h=>absurd (.inl h) hn,fun h=>absurd (.inr h) hn⟩
 refine filter_lt (fun d hd=> ?_) he ?_ ?_
 ·simp only[decide_eq_true_eq] at hd⊢
  exact⟨passR_mono hd.1,passR_mono hd.2⟩
 ·simp only[decide_eq_true_eq]
  exact passR_both he hor
 ·rw[decide_eq_false_iff_not]
  exact fun hh=>hne ⟨fun _=>hh.2,fun _=>hh.1⟩
def iterR (es:List EdD) (v:Int):Nat→List Int
 | 0=> [v]
 | i+1=>passR es (iterR es v i)
theorem iterR_clo (es:List EdD) (v:Int) (i:Nat):Clo es (iterR es v i)∨i≤phi es (iterR es v i):=by
 induction i with
 | zero=>exact .inr (Nat.zero_le _)
 | succ i ih=>
   by_cases h:Clo es (iterR es v i)
   ·left
    intro e he
    show e.1∈passR es _↔e.2.2∈passR es _
    rw[passR_clo h,passR_clo h]
    exact h e he
   ·right
    have h1:=phi_lt h
    rcases ih with ih | ih
    ·exact absurd ih h
    ·show i+1≤phi es (passR es (iterR es v i))
     omega
def reachL (es:List EdD) (v:Int):List Int:=iterR es v (es.length+1)
theorem reachL_mem (es:List EdD) (v x:Int):x∈reachL es v↔Conn es v x:=by
 have hclo:Clo es (reachL es v):=by
  rcases iterR_clo es v (es.length+1) with h | h
  ·exact h
  ·have:phi es (iterR es v (es.length+1))≤es.length:=List.length_filter_le _ _
   omega
 have hv: ∀i,v∈iterR es v i:=by
  intro i
  induction i with
  | zero=>simp[iterR]
  | succ i ih=>exact passR_mono ih
 have hs: ∀i,∀x∈iterR es v i,Conn es v x:=by
  intro i
  induction i with
  | zero=>intro x hx;simp[iterR] at hx;subst hx;exact .base
  | succ i ih=>exact passR_sound (fun _ h=>h) ih
 refine⟨hs _ x,fun h=> ?_⟩
 induction h with
 | base=>exact hv _
 | fwd e he _ ih=>exact(hclo e he).1 ih
 | back e he _ ih=>exact(hclo e he).2 ih
theorem conn_of_closed {es:List EdD} {v:Int} {S:Int→Prop} (hv:S v) (hc: ∀e∈es,(S e.1↔S e.2.2)) {x:Int} (h:Conn es v x):S x:=by
 induction h with
 | base=>exact hv
 | fwd e he _ ih=>exact(hc e he).1 ih
 | back e he _ ih=>exact(hc e he).2 ih
theorem hasB_iff {l:List Int} {x:Int}:hasB l x=true↔x∈l:=by
 unfold hasB
 rw[List.any_eq_true]
 constructor
 ·rintro⟨y,hy,h⟩
  have:y=x:=by simpa using h
  rw[←this];exact hy
 ·intro h
  exact⟨x,h,by simp⟩
theorem hasB_not {l:List Int} {x:Int} (h:hasB l x=false):x∉l:=fun hm=>by
 rw[hasB_iff.2 hm] at h
 cases h
theorem mt_clash {v x y y':Int} {e e':EdD} (h:mt v x e=some y) (h':mt v x e'=some y'):clash e e'=true:=by
 unfold mt at h h'
 by_cases hp:0<x
 ·rw[if_pos hp] at h h'
  split at h
  ·rename_i a
   split at h'
   ·rename_i b
    unfold clash
    simp[a.1,a.2,b.1,b.2]
   ·cases h'
  ·cases h
 ·rw[if_neg hp] at h h'
  by_cases hn:x<0
  ·rw[if_pos hn] at h h'
   split at h
   ·rename_i a
    split at h'
    ·rename_i b
     unfold clash
     simp[a.1,a.2,b.1,b.2]
    ·cases h'
   ·cases h
  ·rw[if_neg hn] at h;cases h
theorem steps_one {es:List EdD} (h:Fol es) (v x:Int):(stepsL es v x).length≤1:=by
 unfold stepsL
 unfold Fol at h
 induction es with
 | nil=>simp
 | cons e es ih=>
   have p:=List.pairwise_cons.1 h
   rw[List.filterMap_cons]
   cases hm:mt v x e with
   | none=>exact ih p.2
   | some y=>
     have:es.filterMap (mt v x)= []:=by
      rw[List.filterMap_eq_nil_iff]
      intro e' he'
      cases hm':mt v x e' with
      | none=>rfl
      | some y'=>
        have:=mt_clash hm hm'
        rw[p.1 e' he'] at this
        cases this
     simp[this]
theorem edge_of_gr {g:GrD} (h:grB g=true) {e:EdD} (he:e∈g.2.2):(0≤e.1∧e.1<g.2.1)∧(1≤e.2.1∧e.2.1≤g.1)∧(0≤e.2.2∧e.2.2<g.2.1):=by
 obtain⟨h1,h2,_,h4⟩:=grB_parts h
 obtain⟨k,hk,rfl⟩:=List.getElem_of_mem he
 have:=h4 k hk
 have ho:edgeOk g.1 g.2.1 g.2.2[k]=true:=by
  rcases Nat.eq_zero_or_pos k with rfl | h0
  ·rw[okE_zero hk] at this;exact this
  ·rw[okE_pos h0 hk,Bool.and_eq_true] at this;exact this.1
 unfold edgeOk at ho
 rw[IntWalk.wrap64_in (g.2.1-1) ⟨by omega,by omega⟩] at ho
 simp only[Bool.and_eq_true,inB_iff] at ho
 omega
theorem nextV_range {g:GrD} (h:grB g=true) (v x:Int):nextV g.2.2 v x= -1∨(0≤nextV g.2.2 v x∧nextV g.2.2 v x<g.2.1):=by
 unfold nextV stepsL
 cases hs:g.2.2.filterMap (mt v x) with
 | nil=>exact .inl rfl
 | cons y l=>
   right
   have hy:y∈g.2.2.filterMap (mt v x):=by rw[hs];simp
   obtain⟨e,he,hm⟩:=List.mem_filterMap.1 hy
   obtain⟨a,_,b⟩:=edge_of_gr h he
   show 0≤y∧y<g.2.1
   unfold mt at hm
   split at hm
   ·split at hm
    ·injection hm with hm;subst hm;exact b
    ·cases hm
   ·split at hm
    ·split at hm
     ·injection hm with hm;subst hm;exact a
     ·cases hm
    ·cases hm
theorem let_of_gr {g:GrD} (h:grB g=true): ∀e∈g.2.2,1≤e.2.1:=fun _ he=>(edge_of_gr h he).2.1.1
def cstep (es:List EdD) (u:Int) (o:List Int) (x:Int):List Int:=
 if 0≤nextV es u x then(if hasB o (nextV es u x) then o else o++ [nextV es u x]) else o
def canF (es:List EdD) (ls:List Int):Nat→Nat→List Int→List Int
 | 0,_,o=>o
 | f+1,i,o=>match o[i]? with
   | none=>o
   | some u=>canF es ls f (i+1) (ls.foldl (cstep es u) o)
def canO (g:GrD):List Int:=canF g.2.2 (lettersL g.1.toNat) 41 0 [0]
def OrdOk (n:Int) (o:List Int):Prop:=o.Nodup∧(∀y∈o,0≤y∧y<n)∧o[0]? =some 0
theorem nodup_len: ∀(n:Nat) (o:List Int),o.Nodup→(∀y∈o,0≤y∧y<n)→o.length≤n
 | 0,[],_,_=>Nat.le_refl _
 | 0,y::o,_,h=>by have:=h y (by simp);omega
 | n+1,o,hd,h=>by
   by_cases hm:(n:Int)∈o
   ·have h1:=List.length_erase_of_mem hm
    have h2:=nodup_len n (o.erase n) (hd.erase _) fun y hy=>by
     have hy':=(hd.mem_erase_iff).1 hy
     have:=h y hy'.2
     have:y≠(n:Int):=hy'.1
     omega
    have:0<o.length:=List.length_pos_of_mem hm
    omega
   ·have:=nodup_len n o hd fun y hy=>by
     have:=h y hy
     have:y≠(n:Int):=fun e=>hm (e▸hy)
     omega
    omega
def OrdN (n:Int) (o:List Int):Prop:=o.Nodup∧(∀y∈o,0≤y∧y<n)∧1≤o.length
theorem OrdOk.toN {n:Int} {o:List Int} (h:OrdOk n o):OrdN n o:=by
 refine⟨h.1,h.2.1,?_⟩
 have:=h.2.2
 cases o with
 | nil=>cases this
 | cons _ _=>simp
theorem OrdOk.len {n:Int} {o:List Int} (h:OrdOk n o) (hn:n≤40) (hn0:0≤n):o.length≤40:=by
 have:=nodup_len n.toNat o h.1 fun y hy=>by have:=h.2.1 y hy;omega
 omega
theorem cstep_ok {g:GrD} (hg:grB g=true) {u:Int} {o:List Int} (x:Int) (h:OrdOk g.2.1 o):OrdOk g.2.1 (cstep g.2.2 u o x):=by
 unfold cstep
 split
 ·rename_i h0
  split
  ·exact h
  ·rename_i hb
   have hb':nextV g.2.2 u x∉o:=hasB_not (by simpa using hb)
   refine⟨List.nodup_append.2 ⟨h.1,by simp,fun a ha b hb e=> ?_⟩,fun y hy=> ?_,?_⟩
   ·simp at hb
    subst hb e
    exact hb' ha
   ·rcases List.mem_append.1 hy with hy | hy
    ·exact h.2.1 y hy
    ·simp at hy
     subst hy
     rcases nextV_range hg u x with e | e
     ·omega
     ·exact e
   ·have:0<o.length:=by
     have:=h.2.2
     cases o with
     | nil=>cases this
     | cons _ _=>simp
    rw[List.getElem?_append_left this]
    exact h.2.2
 ·exact h
theorem cfold_ok {g:GrD} (hg:grB g=true) {u:Int} (ls:List Int) {o:List Int} (h:OrdOk g.2.1 o):OrdOk g.2.1 (ls.foldl (cstep g.2.2 u) o):=by
 induction ls generalizing o with
 | nil=>exact h
 | cons x ls ih=>exact ih (cstep_ok hg x h)
theorem cfold_prefix (es:List EdD) (u:Int) (ls:List Int) (o:List Int) (i:Nat) (y:Int) (h:o[i]? =some y):(ls.foldl (cstep es u) o)[i]? =some y:=by
 induction ls generalizing o with
 | nil=>exact h
 | cons x ls ih=>
   refine ih _ ?_
   unfold cstep
   split
   ·split
    ·exact h
    ·rw[List.getElem?_append_left (List.getElem?_eq_some_iff.1 h).1];exact h
   ·exact h
theorem cfold_succ (es:List EdD) (u:Int) (ls o:List Int) (k:Nat) (h:k<ls.length):(ls.take (k+1)).foldl (cstep es u) o=cstep es u ((ls.take k).foldl (cstep es u) o) ls[k]:=by
 rw[List.take_succ_eq_append_getElem h,List.foldl_append]
 rfl
theorem OrdOk.one {n:Int} (h:1≤n):OrdOk n [0]:=⟨by simp,fun y hy=>by simp at hy;omega,rfl⟩
theorem canF_end (es:List EdD) (ls:List Int) (f:Nat) (o:List Int):canF es ls f o.length o=o:=by
 cases f with
 | zero=>rfl
 | succ f=>unfold canF;rw[List.getElem?_eq_none (Nat.le_refl _)]
theorem canF_step (es:List EdD) (ls:List Int) (f i:Nat) (o:List Int) (h:i<o.length):canF es ls (f+1) i o=canF es ls f (i+1) (ls.foldl (cstep es o[i]) o):=by
 rw[canF,List.getElem?_eq_getElem h]
theorem canF_ok {g:GrD} (hg:grB g=true) (ls:List Int) (f i:Nat) {o:List Int} (h:OrdOk g.2.1 o):OrdOk g.2.1 (canF g.2.2 ls f i o):=by
 induction f generalizing i o with
 | zero=>exact h
 | succ f ih=>
   unfold canF
   split
   ·exact h
   ·exact ih _ (cfold_ok hg ls h)
theorem canO_ok {g:GrD} (hg:grB g=true):OrdOk g.2.1 (canO g):=canF_ok hg _ _ _ (OrdOk.one (grB_parts hg).2.1.1)
end Go.Proofs.YtlgcflpaekbopaaGreat
namespace Go.Proofs.YtlgcflpaekbopaaGreat
set_option maxRecDepth 20000
set_option linter.unusedVariables false
set_option linter.unusedSimpArgs false
open Go.RowKit
def walkF (es:List EdD):Int→List Int→Int
 | v,[]=>v
 | v,x::w=>if nextV es v x<0 then-1 else walkF es (nextV es v x) w
end Go.Proofs.YtlgcflpaekbopaaGreat
