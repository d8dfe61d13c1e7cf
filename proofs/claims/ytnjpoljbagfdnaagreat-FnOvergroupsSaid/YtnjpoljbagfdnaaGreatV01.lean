/- Parts of the proof: Base, Law, Num, OwnF, Draw, Gr, Cmp, GrA, Ord, QuiC, GrG, GrH, GrB, Has. -/
import Derived.Test.YtnjpoljbagfdnaaGreatProg
import Derived.WalkKit
import Derived.WalkSpells
import Derived.WalkLawsBesides
import Derived.Lib.Hide
import Derived.Maps.AppendAt
import Derived.Deep.AppendLies
import Derived.RegionTactic
import Derived.Deep.QuietTactic
import Derived.BigQuiet
import Derived.Deep.RegionHeld3
import Derived.Outline
import Derived.Laws.StructEq
namespace Go.Proofs.YtnjpoljbagfdnaaGreat
open Go.RowKit
theorem hDD {P : Prop} (h : P) : Hid P := Lib.hid h
end Go.Proofs.YtnjpoljbagfdnaaGreat
namespace Go.Proofs.YtnjpoljbagfdnaaGreat
set_option maxRecDepth 20000
set_option linter.unusedVariables false
set_option linter.unusedSimpArgs false
open Go.RowKit
def I64 (n:Int):Prop:= -9223372036854775808≤n∧n≤9223372036854775807
abbrev I64s (xs:List Int):Prop:= ∀x∈xs,I64 x
abbrev ints (xs:List Int):List Value:=xs.map (Value.int .i64)
theorem ints_length (xs:List Int):(ints xs).length=xs.length:=by simp[ints]
theorem ints_get (xs:List Int) (i:Nat) (h:i<xs.length):(ints xs)[i]'(by simpa[ints] using h)= .int .i64 xs[i]:=by simp[ints]
def RdV (t:TypeId) (size:Nat) (w:World) (v:Value) (n:Nat) (cs:List Value):Prop:=
 cs.length=n*size∧ ∃A cap,v= .slice A n cap∧n≤cap∧cap≤maxLen∧(A=none→cap=0)∧
  (0<n→ ∃b off cur fr,A=some ⟨b,off,none⟩∧w.heap[b]? =some (.cells cur t fr)∧ ∀i (hi:i<cs.length),cur[off+i]? =some cs[i])
def RdI (w:World) (v:Value) (xs:List Int):Prop:=RdV 3 1 w v xs.length (ints xs)∧I64s xs
def OwI (w:World) (base:Nat) (v:Value) (xs:List Int):Prop:=w.ownsRow base 3 1 v xs.length (ints xs)∧I64s xs
def RdII (w:World) (v:Value) (L:List (List Int)):Prop:=
 ∃vs:List Value,vs.length=L.length∧RdV 37 1 w v L.length vs∧ ∀i (h:i<L.length) (h':i<vs.length),RdI w vs[i] L[i]
def ArgI (w:World) (v:Value) (xs:List Int):Prop:=
 ∃A cap,v= .slice A xs.length cap∧xs.length≤cap∧cap≤maxLen∧I64s xs∧
  (0<xs.length→ ∃b off,A=some ⟨b,off,none⟩∧ ∀i (hi:i<xs.length),w.cell? ⟨b,off+i,none⟩=some (.int .i64 xs[i]))
theorem int_info:(Tryz.prog.info? 3).map (fun i=>(i.zero,i.size,i.bytes))=some (some (.int .i64 0),1,8):=by kernel_rfl
section
variable {t:TypeId} {size:Nat} {w w':World} {v:Value} {n:Nat} {cs:List Value} {xs:List Int} {base:Nat}
theorem lt_of_heap {b:Nat} {o:Obj} (h:w.heap[b]? =some o):b<w.heap.size:=by
 rcases Nat.lt_or_ge b w.heap.size with h' | h'
 ·exact h'
 ·rw[Array.getElem?_eq_none h'] at h;cases h
theorem RdV.mono (h:RdV t size w v n cs) (hk: ∀b,v.ownBlock=some b→b<w.heap.size→w'.heap[b]? =w.heap[b]?):RdV t size w' v n cs:=by
 obtain⟨hl,A,cap,hv,hc,hm,hn,hb⟩:=h
 refine⟨hl,A,cap,hv,hc,hm,hn,fun h0=> ?_⟩
 obtain⟨b,off,cur,fr,hA,hh,hx⟩:=hb h0
 exact⟨b,off,cur,fr,hA,by rw[hk b (by rw[hv,hA];rfl) (lt_of_heap hh)];exact hh,hx⟩
theorem RdV.below (h:RdV t size w v n cs) (hb:Below w.heap.size w w'):RdV t size w' v n cs:=h.mono fun b _ hlt=>hb.block b hlt
theorem RdV.alloc (h:RdV t size w v n cs) (o:Obj):RdV t size (w.alloc o) v n cs:=h.mono fun b _ hlt=>Below.heap_alloc w o b hlt
theorem RdV.grown (h:RdV t size w v n cs) {row:Option Nat} (hg:w.grownBy w' row) (hne: ∀b,v.ownBlock=some b→row=some b→False):RdV t size w' v n cs:=
 h.mono fun b hv hlt=>hg.block b hlt (fun e=>hne b hv e.symm)
theorem RdV.of_own (h:w.ownsRow base t size v n cs):RdV t size w v n cs:=by
 refine⟨h.1,?_⟩
 rcases h.2 with ⟨rfl,rfl⟩ | ⟨g,cap,cur,rfl,hg,hh,hnc,hcm,hcs,htake⟩
 ·exact⟨none,0,rfl,Nat.le_refl _,by simp[maxLen],fun _=>rfl,fun h=>absurd h (by simp)⟩
 ·refine⟨_,cap,rfl,hnc,hcm,(fun h=>by cases h),fun _=>⟨g,0,cur,_,rfl,hh,fun i hi=> ?_⟩⟩
  have hi':i<n*size:=by rw[←h.1];exact hi
  have:(cur.toList.take (n*size))[i]? =cs[i]? :=by rw[htake]
  rw[List.getElem?_take,if_pos hi'] at this
  simpa[hi] using this
theorem RdV.cell (h:RdV t size w v n cs): ∃A cap,v= .slice A n cap∧n≤cap∧cap≤maxLen∧(A=none→cap=0)∧
  (0<n→ ∃b off,A=some ⟨b,off,none⟩∧b<w.heap.size∧ ∀i (hi:i<cs.length),w.cell? ⟨b,off+i,none⟩=some cs[i]):=by
 obtain⟨hl,A,cap,hv,hc,hm,hn,hb⟩:=h
 refine⟨A,cap,hv,hc,hm,hn,fun h0=> ?_⟩
 obtain⟨b,off,cur,fr,hA,hh,hx⟩:=hb h0
 exact⟨b,off,hA,lt_of_heap hh,fun i hi=>by rw[cell_of_row w b (off+i) cur _ fr hh];exact hx i hi⟩
theorem OwI.set {g cap:Nat} (h:OwI w base (.slice (some ⟨g,0,none⟩) n cap) xs) (j:Nat) (z:Int) (hz:I64 z):
  OwI (w.setCell ⟨g,j,none⟩ (.int .i64 z)) base (.slice (some ⟨g,0,none⟩) n cap) (xs.set j z)∧w.grownBy (w.setCell ⟨g,j,none⟩ (.int .i64 z)) (some g):=by
 have hn:n=xs.length:=by
  rcases h.1.2 with ⟨hv,_⟩ | ⟨g',cap',cur,hv,_⟩
  ·cases hv
  ·injection hv
 subst hn
 obtain⟨h1,h2⟩:=h.1.stored j (.int .i64 z)
 refine⟨⟨?_,fun y hy=> ?_⟩,h2⟩
 ·rw[List.length_set]
  simpa[ints,List.map_set] using h1
 ·rcases List.mem_or_eq_of_mem_set hy with hy | rfl
  ·exact h.2 y hy
  ·exact hz
theorem OwI.cellAt {g cap:Nat} (h:OwI w base (.slice (some ⟨g,0,none⟩) n cap) xs) (j:Nat) (hj:j<xs.length):w.cell? ⟨g,j,none⟩=some (.int .i64 xs[j]):=by
 have hn:n=xs.length:=by
  rcases h.1.2 with ⟨hv,_⟩ | ⟨g',cap',cur,hv,_⟩
  ·cases hv
  ·injection hv
 subst hn
 rw[h.1.cellAt j (by omega)]
 simp[ints,hj]
theorem OwI.free {g cap:Nat} (h:OwI w base (.slice (some ⟨g,0,none⟩) n cap) xs) (j:Nat):w.frozen? ⟨g,j,none⟩=false:=by
 have hn:n=xs.length:=by
  rcases h.1.2 with ⟨hv,_⟩ | ⟨g',cap',cur,hv,_⟩
  ·cases hv
  ·injection hv
 subst hn
 exact h.1.frozenAt j
theorem RdV.cut (h:RdV t 1 w v n cs) {k cap:Nat} {A:Option Addr} (hv:v= .slice A n cap) (hk:k≤n):
  RdV t 1 w (.slice (if cap=k then A else A.map (·.add k)) (n-k) (cap-k)) (n-k) (cs.drop k):=by
 obtain⟨hl,A',cap',hv',hc,hm,hn,hb⟩:=h
 rw[hv'] at hv
 obtain⟨rfl,-,rfl⟩:A'=A∧True∧cap'=cap:=by simpa using hv
 refine⟨by simp[hl],_,_,rfl,by omega,by omega,?_,fun h0=> ?_⟩
 ·split
  ·omega
  ·intro h;cases A' with
   | none=>have:=hn rfl;omega
   | some a=>cases h
 ·obtain⟨b,off,cur,fr,rfl,hh,hx⟩:=hb (by omega)
  rw[if_neg (by omega)]
  refine⟨b,off+k,cur,fr,by simp[Addr.add_lit],hh,fun i hi=> ?_⟩
  rw[List.getElem_drop,Nat.add_assoc]
  exact hx _ _
theorem RdV.head (h:RdV t 1 w v n cs) {k cap:Nat} {A:Option Addr} (hv:v= .slice A n cap) (hk:k≤n):RdV t 1 w (.slice A k cap) k (cs.take k):=by
 obtain⟨hl,A',cap',hv',hc,hm,hn,hb⟩:=h
 rw[hv'] at hv
 obtain⟨rfl,-,rfl⟩:A'=A∧True∧cap'=cap:=by simpa using hv
 refine⟨by simp[hl];omega,_,_,rfl,by omega,hm,hn,fun h0=> ?_⟩
 obtain⟨b,off,cur,fr,rfl,hh,hx⟩:=hb (by omega)
 refine⟨b,off,cur,fr,rfl,hh,fun i hi=> ?_⟩
 rw[List.getElem_take]
 exact hx _ _
theorem RdI.arg (h:RdI w v xs):ArgI w v xs:=by
 obtain⟨A,cap,hv,hc,hm,_,hb⟩:=h.1.cell
 refine⟨A,cap,hv,hc,hm,h.2,fun h0=> ?_⟩
 obtain⟨b,off,hA,_,hx⟩:=hb h0
 refine⟨b,off,hA,fun i hi=> ?_⟩
 rw[hx i (by rw[ints_length];exact hi),ints_get]
theorem RdI.at {A:Option Addr} {m cap:Nat} (h:RdI w (.slice A m cap) xs) (h0:0<xs.length):
  ∃b off,A=some ⟨b,off,none⟩∧b<w.heap.size∧ ∀i (hi:i<xs.length),w.cell? ⟨b,off+i,none⟩=some (.int .i64 xs[i]):=by
 obtain⟨A',cap',hv,hc,hm,_,hb⟩:=h.1.cell
 obtain⟨b,off,hA,hlt,hx⟩:=hb h0
 injection hv with hv
 refine⟨b,off,hv.trans hA,hlt,fun i hi=> ?_⟩
 rw[hx i (by rw[ints_length];exact hi),ints_get]
theorem RdI.below (h:RdI w v xs) (hb:Below w.heap.size w w'):RdI w' v xs:=⟨h.1.below hb,h.2⟩
theorem RdI.drewN (h:RdI w v xs) (n:Nat):RdI (w.drewN n) v xs:=h
theorem RdI.drew (h:RdI w v xs):RdI w.drew v xs:=h
theorem RdI.alloc (h:RdI w v xs) (o:Obj):RdI (w.alloc o) v xs:=⟨h.1.alloc o,h.2⟩
theorem RdI.grown (h:RdI w v xs) {row:Option Nat} (hg:w.grownBy w' row) (hne: ∀b,v.ownBlock=some b→row=some b→False):RdI w' v xs:=⟨h.1.grown hg hne,h.2⟩
theorem RdI.cut (h:RdI w v xs) {k cap:Nat} {A:Option Addr} (hv:v= .slice A xs.length cap) (hk:k≤xs.length):
  RdI w (.slice (if cap=k then A else A.map (·.add k)) (xs.length-k) (cap-k)) (xs.drop k):=by
 refine⟨?_,fun x hx=>h.2 x (List.mem_of_mem_drop hx)⟩
 have:=h.1.cut hv hk
 simpa[ints] using this
theorem RdI.head (h:RdI w v xs) {k cap:Nat} {A:Option Addr} (hv:v= .slice A xs.length cap) (hk:k≤xs.length):RdI w (.slice A k cap) (xs.take k):=by
 refine⟨?_,fun x hx=>h.2 x (List.mem_of_mem_take hx)⟩
 have:=h.1.head hv hk
 simpa[ints,Nat.min_eq_left hk] using this
theorem RdII.below {L:List (List Int)} (h:RdII w v L) (hb:Below w.heap.size w w'):RdII w' v L:=by
 obtain⟨vs,h1,h2,h3⟩:=h
 exact⟨vs,h1,h2.below hb,fun i hi hi'=>(h3 i hi hi').below hb⟩
theorem RdII.drewN {L:List (List Int)} (h:RdII w v L) (k:Nat):RdII (w.drewN k) v L:=h
theorem RdII.form {L:List (List Int)} (h:RdII w v L): ∃A cap,v= .slice A L.length cap∧L.length≤cap∧cap≤maxLen∧(A=none→cap=0):=by
 obtain⟨vs,h1,h2,h3⟩:=h
 obtain⟨A,cap,hv,hc,hm,hn,_⟩:=h2.cell
 exact⟨A,cap,hv,hc,hm,hn⟩
theorem RdII.at {A:Option Addr} {m cap:Nat} {L:List (List Int)} (h:RdII w (.slice A m cap) L) {k:Nat} (hk:k<L.length):
  ∃b off A1 cap1,A=some ⟨b,off,none⟩∧b<w.heap.size∧w.cell? ⟨b,off+k,none⟩=some (.slice A1 L[k].length cap1)∧L[k].length≤cap1∧cap1≤maxLen∧RdI w (.slice A1 L[k].length cap1) L[k]:=by
 obtain⟨vs,h1,h2,h3⟩:=h
 obtain⟨A',cap',hv,hc,hm,_,hb⟩:=h2.cell
 obtain⟨b,off,hA,hlt,hx⟩:=hb (by omega)
 injection hv with hv
 have hr:=h3 k hk (by omega)
 obtain⟨A1,cap1,hv1,hc1,hm1,_⟩:=hr.1.cell
 refine⟨b,off,A1,cap1,hv.trans hA,hlt,?_,hc1,hm1,?_⟩
 ·rw[hx k (by omega),hv1]
 ·rw[←hv1];exact hr
theorem OwI.rd (h:OwI w base v xs):RdI w v xs:=⟨RdV.of_own h.1,h.2⟩
theorem OwI.arg (h:OwI w base v xs):ArgI w v xs:=h.rd.arg
theorem OwI.mono {base':Nat} (h:OwI w base v xs) (hb:base'≤base):OwI w base' v xs:=by
 refine⟨⟨h.1.1,?_⟩,h.2⟩
 rcases h.1.2 with h0 | ⟨g,cap,cur,hv,hg,r⟩
 ·exact .inl h0
 ·exact .inr ⟨g,cap,cur,hv,Nat.le_trans hb hg,r⟩
theorem ownsRow_below {e:TypeId} {sz:Nat} (h:w.ownsRow base e sz v n cs) (hb:Below w.heap.size w w'):w'.ownsRow base e sz v n cs:=by
 refine⟨h.1,?_⟩
 rcases h.2 with h0 | ⟨g,cap,cur,hv,hg,hh,r⟩
 ·exact .inl h0
 ·exact .inr ⟨g,cap,cur,hv,hg,by rw[hb.block g (lt_of_heap hh)];exact hh,r⟩
theorem OwI.drew (h:OwI w base v xs):OwI w.drew base v xs:=h
theorem OwI.far (h:OwI w base v xs) {p:Addr} (hp:p.block<base) (u:Value):OwI (w.setCell p u) base v xs:=⟨ownsRow_setCell_below h.1 hp u,h.2⟩
theorem OwI.below (h:OwI w base v xs) (hb:Below w.heap.size w w'):OwI w' base v xs:=⟨ownsRow_below h.1 hb,h.2⟩
theorem OwI.drewN (h:OwI w base v xs) (k:Nat):OwI (w.drewN k) base v xs:=h
theorem OwI.kept {row:Option Nat} (h:OwI w base v xs) (hg:w.grownBy w' row) (hne:v.ownBlock=none∨v.ownBlock≠row):OwI w' base v xs:=⟨h.1.kept hg hne,h.2⟩
theorem owns_form {e:TypeId} {sz:Nat} (h:w.ownsRow base e sz v n cs): ∃A cap,v= .slice A n cap∧n≤cap∧cap≤maxLen∧(A=none→cap=0)∧(0<n→ ∃g,A=some ⟨g,0,none⟩∧base≤g∧g<w.heap.size):=by
 rcases h.2 with ⟨rfl,rfl⟩ | ⟨g,cap,cur,rfl,hg,hh,hnc,hcm,_⟩
 ·exact⟨none,0,rfl,Nat.le_refl _,by simp[maxLen],fun _=>rfl,fun h=>absurd h (by simp)⟩
 ·exact⟨_,cap,rfl,hnc,hcm,(fun h=>by cases h),fun _=>⟨g,rfl,hg,lt_of_heap hh⟩⟩
theorem owns_head {e:TypeId} {sz:Nat} (h:w.ownsRow base e sz v n cs) {A:Option Addr} {cap k:Nat} (hv:v= .slice A n cap) (hk:k≤n):w.ownsRow base e sz (.slice A k cap) k (cs.take (k*sz)):=by
 refine⟨by rw[List.length_take,h.1];exact Nat.min_eq_left (Nat.mul_le_mul_right _ hk),?_⟩
 rcases h.2 with ⟨hv',rfl⟩ | ⟨g,cap',cur,hv',hg,hh,hnc,hcm,hcs,htake⟩
 ·rw[hv'] at hv
  obtain⟨rfl,-,rfl⟩:none=A∧True∧0=cap:=by simpa using hv
  exact .inl ⟨by obtain rfl:k=0:=by omega
                 rfl,by omega⟩
 ·rw[hv'] at hv
  obtain⟨rfl,-,rfl⟩:some ⟨g,0,none⟩=A∧True∧cap'=cap:=by simpa using hv
  refine .inr ⟨g,_,cur,rfl,hg,hh,by omega,hcm,hcs,?_⟩
  rw[←htake,List.take_take,Nat.min_eq_left (Nat.mul_le_mul_right _ hk)]
theorem bel_drewN {B:Nat} {a:World} (h:Below B a w) (k:Nat):Below B a (w.drewN k):=⟨h.os,h.tape,h.output,h.size,h.block⟩
end
theorem quiet_add_left {P:Program} {f:FuncId} {args:Array Value} {w:World} {a n:Nat} {v:Value}
  (h:Calls P f args (w.drewN (a+n)) fun e w'=>e= .returned v∧w.drewN (a+n)=w'):
  Calls P f args (w.drewN (a+n)) fun e w''=>e= .returned v∧ ∃m,w''=w.drewN (a+m):=
 h.mono fun _ _ ⟨he,hm⟩=>⟨he,n,hm.symm⟩
theorem I64s_nil:I64s []:=fun _ h=>by cases h
theorem OwI_lit (w:World) (xs:List Int) (hx:I64s xs) (hl:xs.length≤1099511627776) {base:Nat} (hb:base≤w.heap.size):OwI (w.alloc (.cells (ints xs).toArray 3)) base (.slice (some ⟨w.heap.size,0,none⟩) xs.length xs.length) xs:=
 ⟨by have:=World.ownsRow_lit (e:=3) (size:=1) w (ints xs).toArray xs.length hb (by unfold maxLen;omega) (by simp);simpa using this,hx⟩
theorem OwI_litN (w:World) (xs:List Int) (N:Nat) (hN:w.heap.size=N) (hx:I64s xs) (hl:xs.length≤1099511627776) {base:Nat} (hb:base≤N):OwI (w.alloc (.cells (ints xs).toArray 3)) base (.slice (some ⟨N,0,none⟩) xs.length xs.length) xs:=by
 subst hN;exact OwI_lit w xs hx hl hb
theorem bcell {W w1:World} (hb:Below W.heap.size W w1):(∀b o,b<W.heap.size→w1.cell? ⟨b,o,none⟩=W.cell? ⟨b,o,none⟩)∧(∀b o,b<W.heap.size→w1.frozen? ⟨b,o,none⟩=W.frozen? ⟨b,o,none⟩):=
 ⟨fun b o h=>hb.cell (p:=⟨b,o,none⟩) h,fun b o h=>hb.frozen (p:=⟨b,o,none⟩) h⟩
theorem bcellN {N:Nat} {W w1:World} (hb:Below N W w1):(∀b o,b<N→w1.cell? ⟨b,o,none⟩=W.cell? ⟨b,o,none⟩)∧(∀b o,b<N→w1.frozen? ⟨b,o,none⟩=W.frozen? ⟨b,o,none⟩):=
 ⟨fun b o h=>hb.cell (p:=⟨b,o,none⟩) h,fun b o h=>hb.frozen (p:=⟨b,o,none⟩) h⟩
theorem ret_bool {a b:Bool} (h:a=b):Ending.returned (.bool a)= .returned (.bool b):=by rw[h]
theorem ret_int {k:IntKind} {a b:Int} (h:a=b):Ending.returned (.int k a)= .returned (.int k b):=by rw[h]
theorem take_eq_succ {α} {xs ys:List α} {k:Nat} (h:xs.take k=ys.take k) (hx:k<xs.length) (hy:k<ys.length) (he:xs[k]=ys[k]):xs.take (k+1)=ys.take (k+1):=by
 rw[List.take_succ_eq_append_getElem hx,List.take_succ_eq_append_getElem hy,h,he]
theorem cell_new1 (w:World) (u:Value) (t:TypeId):(w.alloc (.cells #[u] t)).cell? ⟨w.heap.size,0,none⟩=some u:=by
 exact cell_one_new w u t 0 u rfl
theorem OwI.alloc {w:World} {base:Nat} {v:Value} {xs:List Int} (h:OwI w base v xs) (o:Obj):OwI (w.alloc o) base v xs:=⟨h.1.alloc o,h.2⟩
theorem push_int {w:World} {ops:Array Oper} {rest:List Oper} {o:Oper} {a:Act} {Q:Exit→Act→World→Prop} (hgd:o.guard=none) (s x:Operand)
  (ho:o.op= .call {callee:= .builtin .append,args:= #[s,x],argTypes:= #[37,37]})
  (base:Nat) (v:Value) (xs:List Int) (hown:OwI w base v xs) (hs:a.eval s=v) (b:Nat) (z:Int) (hx:a.eval x= .slice (some ⟨b,0,none⟩) 1 1)
  (hc:w.cell? ⟨b,0,none⟩=some (.int .i64 z)) (hz:I64 z) (hl:xs.length≤1099511627776) (hbase:base≤w.heap.size)
  (h: ∀v' w',OwI w' base v' (xs++ [z])→w.grownBy w' v.ownBlock→(v'.ownBlock=v.ownBlock∨v'.ownBlock=some w.heap.size)→wpList Tryz.prog ops Q rest (a.put o.dst v') w'):
  wpList Tryz.prog ops Q (o::rest) a w:=by
 obtain⟨i0,hi0,hz0,hz1,hz2⟩:=info_parts int_info
 refine wpList_append_own_at _ hgd s x 37 ho base 3 i0 (.int .i64 0) 1 8 Tryz.underlying37 hi0 hz0 hz1 hz2 rfl (by decide) v xs.length (ints xs) hs hown.1 ⟨b,0,none⟩ 1 1 [.int .i64 z] hx rfl ?_ ?_ (by unfold maxLen;omega) (by omega) hbase ?_
 ·intro j u hj
  match j,hj with
  | 0,hj=>simp at hj;subst hj;simpa[Addr.add] using hc
 ·intro u hu;simp at hu;subst hu;rfl
 ·intro v' w' h1 h2 h3 h5
  exact h v' w' ⟨by simpa[ints] using h1,fun y hy=>by
   rcases List.mem_append.1 hy with hy | hy
   ·exact hown.2 y hy
   ·simp at hy;subst hy;exact hz⟩ h2 h5
theorem owI_cut {w:World} {base:Nat} {A:Option Addr} {n cap:Nat} {xs:List Int} (h:OwI w base (.slice A n cap) xs) {k:Nat} (hk:k≤xs.length):OwI w base (.slice A k cap) (xs.take k):=by
 obtain⟨A',cap',hv,_⟩:=owns_form h.1
 injection hv with h1 h2 h3
 subst h2
 refine⟨?_,fun x hx=>h.2 x (List.mem_of_mem_take hx)⟩
 have:=owns_head h.1 (k:=k) rfl hk
 simpa[ints,Nat.min_eq_left hk] using this
theorem OwI.form {w:World} {base:Nat} {v:Value} {xs:List Int} (h:OwI w base v xs): ∃A cap,v= .slice A xs.length cap∧xs.length≤cap∧cap≤maxLen∧(A=none→cap=0)∧(0<xs.length→ ∃g,A=some ⟨g,0,none⟩∧base≤g∧g<w.heap.size):=owns_form h.1
theorem wp_append_ints {w:World} {o:Oper} {a:Act} {K:Act→World→Prop} {Q:Exit→Act→World→Prop} (s x:Operand)
  (ho:o.op= .call {callee:= .builtin .append,args:= #[s,x],argTypes:= #[37,37]})
  (base:Nat) (v:Value) (xs:List Int) (hown:OwI w base v xs) (hs:a.eval s=v) (u:Value) (ys:List Int) (hr:RdI w u ys) (hx:a.eval x=u)
  (hl:xs.length+ys.length≤1099511627776) (hbase:base≤w.heap.size)
  (h: ∀v' w',OwI w' base v' (xs++ys)→w.grownBy w' v.ownBlock→(v'.ownBlock=v.ownBlock∨v'.ownBlock=some w.heap.size)→K (a.put o.dst v') w'):
  o.wp Tryz.prog a w K Q:=by
 obtain⟨i0,hi0,hz0,hz1,hz2⟩:=info_parts int_info
 obtain⟨A,cap,rfl,hc,hm,hn,hb⟩:=hr.1.cell
 rcases A with _ | ad
 ·have h0:ys= []:=List.eq_nil_of_length_eq_zero (by
   rcases Nat.eq_zero_or_pos ys.length with h0 | h0
   ·exact h0
   ·obtain⟨_,_,h,_⟩:=hb h0;cases h)
  subst h0
  obtain rfl:=hn rfl
  have hrun:=run_append_owned_none (P:=Tryz.prog) w base 37 o.type 3 i0 1 Tryz.underlying37 hi0 v xs.length (ints xs) hown.1
  unfold Oper.wp execOp
  simp only[ho,resolve,invoke,builtin,Sem.run_bind,Sem.run_pure,Result.andThen_ok,List.map_toArray,List.map_cons,List.map_nil,hs,hx,List.length_nil,hrun]
  exact h v w (by simpa using hown) (World.grownBy.refl _ _) (.inl rfl)
 ·obtain⟨v',w',hrun,h1,h2,_,h5⟩:=run_append_own_at (P:=Tryz.prog) w base 37 o.type 3 i0 (.int .i64 0) 1 8 Tryz.underlying37 hi0 hz0 hz1 hz2 rfl (by decide) v xs.length (ints xs) hown.1 ad ys.length cap (ints ys) (by simp) (by
   intro j y hj
   have hj':j<ys.length:=by simpa using (List.getElem?_eq_some_iff.1 hj).1
   obtain⟨b,off,had,_,hcl⟩:=hb (by omega)
   have had:=Option.some.inj had
   subst had
   rw[Addr.add_lit,hcl j (by simpa using hj'),←hj]
   simp[hj']) (ints_oneCell _ _) (by unfold maxLen;omega) (by omega) hbase
  unfold Oper.wp execOp
  simp only[ho,resolve,invoke,builtin,Sem.run_bind,Sem.run_pure,Result.andThen_ok,List.map_toArray,List.map_cons,List.map_nil,hs,hx,hrun]
  exact h v' w' ⟨by simpa[ints] using h1,fun y hy=>by
   rcases List.mem_append.1 hy with hy | hy
   ·exact hown.2 y hy
   ·exact hr.2 y hy⟩ h2 h5
theorem append_ints {w:World} {ops:Array Oper} {rest:List Oper} {o:Oper} {a:Act} {Q:Exit→Act→World→Prop} (hgd:o.guard=none) (s x:Operand)
  (ho:o.op= .call {callee:= .builtin .append,args:= #[s,x],argTypes:= #[37,37]})
  (base:Nat) (v:Value) (xs:List Int) (hown:OwI w base v xs) (hs:a.eval s=v) (u:Value) (ys:List Int) (hr:RdI w u ys) (hx:a.eval x=u)
  (hl:xs.length+ys.length≤1099511627776) (hbase:base≤w.heap.size)
  (h: ∀v' w',OwI w' base v' (xs++ys)→w.grownBy w' v.ownBlock→(v'.ownBlock=v.ownBlock∨v'.ownBlock=some w.heap.size)→wpList Tryz.prog ops Q rest (a.put o.dst v') w'):
  wpList Tryz.prog ops Q (o::rest) a w:=
 wpList_plain hgd fun _ hK=>wp_append_ints s x ho base v xs hown hs u ys hr hx hl hbase fun v' w' h1 h2 h3=>hK _ _ (h v' w' h1 h2 h3)
theorem step_append_ints {w:World} {ops:Array Oper} {o:Oper} {a:Act} {K:Act→World→Prop} {Q:Exit→Act→World→Prop} {E:Prop} (hgd:o.guard=none) (s x:Operand)
  (ho:o.op= .call {callee:= .builtin .append,args:= #[s,x],argTypes:= #[37,37]})
  (base:Nat) (v:Value) (xs:List Int) (hown:OwI w base v xs) (hs:a.eval s=v) (u:Value) (ys:List Int) (hr:RdI w u ys) (hx:a.eval x=u)
  (hl:xs.length+ys.length≤1099511627776) (hbase:base≤w.heap.size)
  (h: ∀v' w',OwI w' base v' (xs++ys)→w.grownBy w' v.ownBlock→(v'.ownBlock=v.ownBlock∨v'.ownBlock=some w.heap.size)→K (a.put o.dst v') w'):
  if Region.wanted o (yielded ops a.tmps)=true then Oper.wp Tryz.prog o a w K Q else E:=by
 have hw:Region.wanted o (yielded ops a.tmps)=true:=by simp[Region.wanted,hgd]
 rw[if_pos hw]
 exact wp_append_ints s x ho base v xs hown hs u ys hr hx hl hbase h
theorem ints_info:(Tryz.prog.info? 37).map (fun i=>(i.zero,i.size,i.bytes))=some (some (.slice none 0 0),1,24):=by kernel_rfl
theorem rows_lit (w:World) (vs:List Value) (hl:vs.length≤1099511627776) {base:Nat} (hb:base≤w.heap.size):(w.alloc (.cells vs.toArray 37)).ownsRow base 37 1 (.slice (some ⟨w.heap.size,0,none⟩) vs.length vs.length) vs.length vs:=by
 have:=World.ownsRow_lit (e:=37) (size:=1) w vs.toArray vs.length hb (by unfold maxLen;omega) (by simp)
 simpa using this
theorem bel_push {B base:Nat} {w0 w w1:World} {v:Value} {o:Obj} {e:TypeId} {sz n:Nat} {cs:List Value} (hb:Below B w0 w) (hB:B≤w.heap.size) (ho:w.ownsRow base e sz v n cs) (hbB:B≤base) (hg:(w.alloc o).grownBy w1 v.ownBlock):Below B w0 w1:=
 (hb.alloc hB o).grown hg (by simp;omega) fun k hk=>by have:=ho.lt k hk;omega
end Go.Proofs.YtnjpoljbagfdnaaGreat
namespace Go.Proofs.YtnjpoljbagfdnaaGreat
set_option maxRecDepth 20000
set_option linter.unusedVariables false
set_option linter.unusedSimpArgs false
open Go.RowKit
structure Tr (a b:Nat) (w w':World):Prop where
 os:w'.os=w.os
 tape:w'.tape=w.tape
 output:w'.output=w.output
 size:w.heap.size≤w'.heap.size
 block: ∀k,k<w.heap.size→ ¬(a≤k∧k<b)→w'.heap[k]? =w.heap[k]?
theorem Tr.below {w w':World} (h:Below w.heap.size w w'):Tr 0 0 w w':=⟨h.os,h.tape,h.output,h.size,fun k hk _=>h.block k hk⟩
theorem Tr.grown {w w':World} {row:Option Nat} (h:w.grownBy w' row) {a b:Nat} (hr: ∀k,row=some k→a≤k∧k<b):Tr a b w w':=
 ⟨h.os,h.tape,h.output,h.size,fun k hk hn=>h.block k hk (fun e=>hn (hr k e.symm))⟩
def Loc (O:World→Prop) (lo hi:Nat):Prop:= ∀w w':World,O w→(∀b,lo≤b→b<hi→w'.heap[b]? =w.heap[b]?)→O w'
structure Ob (O:World→Prop) (lo hi:Nat) (w:World):Prop where
 holds:O w
 loc:Loc O lo hi
 le:hi≤w.heap.size
theorem ArgI.form {w:World} {v:Value} {xs:List Int} (h:ArgI w v xs): ∃A cap,v= .slice A xs.length cap:=by
 obtain⟨A,cap,hv,_⟩:=h
 exact⟨A,cap,hv⟩
theorem Tr.trans {a b:Nat} {w w1 w2:World} (h:Tr a b w w1) (t:Tr a b w1 w2):Tr a b w w2:=
 ⟨t.os.trans h.os,t.tape.trans h.tape,t.output.trans h.output,Nat.le_trans h.size t.size,fun k hk hn=>(t.block k (Nat.lt_of_lt_of_le hk h.size) hn).trans (h.block k hk hn)⟩
theorem setCell_block (w:World) (p:Addr) (u:Value) (b:Nat) (h:b≠p.block):(w.setCell p u).heap[b]? =w.heap[b]? :=Below.heap_setCell w p u b h
theorem setCell_grown (w:World) (g j:Nat) (u:Value):w.grownBy (w.setCell ⟨g,j,none⟩ u) (some g):=
 ⟨rfl,rfl,rfl,by simp,fun b _ hb=>setCell_block w _ u b (fun e=>hb (by rw[e]))⟩
end Go.Proofs.YtnjpoljbagfdnaaGreat
namespace Go.Proofs.YtnjpoljbagfdnaaGreat
set_option maxRecDepth 20000
set_option linter.unusedVariables false
set_option linter.unusedSimpArgs false
open Go.RowKit
def inB (x a b:Int):Bool:=decide (a≤x)&&decide (x≤b)
theorem inB_iff {x a b:Int}:inB x a b=true↔a≤x∧x≤b:=by simp[inB]
def letB (r x:Int):Bool:=(x != 0)&&inB x (wrap64 (-r)) r
theorem neg64 {r:Int} (h:inB r 1 3=true):wrap64 (-r)= -r:=by
 have:=inB_iff.1 h
 exact IntWalk.wrap64_in _ ⟨by omega,by omega⟩
theorem letB_iff {r x:Int} (h:inB r 1 3=true):letB r x=true↔x≠0∧ -r≤x∧x≤r:=by
 unfold letB
 rw[neg64 h]
 simp[inB_iff]
theorem I64.neg {x:Int} (h:I64 x) (h0:x≠ -9223372036854775808):wrap64 (-x)= -x:=by
 unfold I64 at h
 exact IntWalk.wrap64_in _ ⟨by omega,by omega⟩
set_option maxHeartbeats 400000 in
theorem l1In_any (x a b:Int) (w:World):
  Calls Tryz.prog 138 #[.int .i64 x, .int .i64 a, .int .i64 b] w fun e w'=>e= .returned (.bool (inB x a b))∧w=w':=by
 go_enter Tryz.func138,Tryz.ntmps138
 go_wp2
 all_goals go_ret
 all_goals (refine⟨?_,rfl⟩;unfold inB;simp_all)
 omega
set_option maxHeartbeats 400000 in
theorem within_any (x a b:Int) (w:World):
  Calls Tryz.prog 137 #[.int .i64 x, .int .i64 a, .int .i64 b] w fun e w'=>e= .returned (.bool (inB x a b))∧w=w':=by
 go_enter Tryz.func137,Tryz.ntmps137
 go_wp2
 all_goals go_ret
 all_goals (refine⟨?_,rfl⟩;unfold inB;simp_all)
 omega
def invB (a b:Int):Bool:=(a != 0)&&(a != -9223372036854775808)&&(b== -a)
set_option maxHeartbeats 400000 in
theorem areInverse_any (a b:Int) (w:World) (ha:I64 a):
  Calls Tryz.prog 175 #[.int .i64 a, .int .i64 b] w fun e w'=>e= .returned (.bool (invB a b))∧w=w':=by
 by_cases h1:a= -9223372036854775808
 ·subst h1
  go_enter Tryz.func175,Tryz.ntmps175
  go_wp2
  all_goals go_ret
  all_goals (refine⟨?_,rfl⟩;unfold invB;simp_all)
 ·have hn:=I64.neg ha h1
  have HN:=hDD hn
  have ha1: -9223372036854775808<a:=by unfold I64 at ha;omega
  have ha2:a≤9223372036854775807:=ha.2
  clear hn ha
  go_enter Tryz.func175,Tryz.ntmps175
  go_wp2
  all_goals go_ret
  all_goals (refine⟨?_,rfl⟩;unfold invB;simp_all)
end Go.Proofs.YtnjpoljbagfdnaaGreat
namespace Go.Proofs.YtnjpoljbagfdnaaGreat
set_option maxRecDepth 20000
set_option linter.unusedVariables false
set_option linter.unusedSimpArgs false
open Go.RowKit
abbrev El (α:Type):=World→List Value→α→List Nat→Prop
def Stable {α:Type} (E:El α):Prop:= ∀w w' cs d F,E w cs d F→(∀b∈F,w'.heap[b]? =w.heap[b]?)→E w' cs d F
def OwLf {α:Type} (E:El α) (t:TypeId) (width:Nat) (w:World) (v:Value) (ds:List α) (F:List Nat):Prop:=
 ∃es:List (List Value×α×List Nat),es.map (·.2.1)=ds∧(∀e∈es,e.1.length=width∧E w e.1 e.2.1 e.2.2)∧
  w.ownsRow 0 t width v es.length (es.map (·.1)).flatten∧F=v.ownBlock.toList++(es.map (·.2.2)).flatten
theorem ownsRow_keep {w w':World} {base:Nat} {e:TypeId} {sz n:Nat} {v:Value} {cs:List Value} (h:w.ownsRow base e sz v n cs) (hb: ∀b,v.ownBlock=some b→w'.heap[b]? =w.heap[b]?):w'.ownsRow base e sz v n cs:=by
 refine⟨h.1,?_⟩
 rcases h.2 with h0 | ⟨g,cap,cur,hv,hg,hh,r⟩
 ·exact .inl h0
 ·exact .inr ⟨g,cap,cur,hv,hg,by rw[hb g (by rw[hv];rfl)];exact hh,r⟩
theorem OwLf.stable {α:Type} {E:El α} (hE:Stable E) {t:TypeId} {width:Nat} {w w':World} {v:Value} {ds:List α} {F:List Nat}
  (h:OwLf E t width w v ds F) (hb: ∀b∈F,w'.heap[b]? =w.heap[b]?):OwLf E t width w' v ds F:=by
 obtain⟨es,h1,h2,h3,rfl⟩:=h
 refine⟨es,h1,fun e he=>⟨(h2 e he).1,hE _ _ _ _ _ (h2 e he).2 fun b hbe=>hb b ?_⟩,ownsRow_keep h3 fun b hv=>hb b ?_,rfl⟩
 ·refine List.mem_append.2 (.inr (List.mem_flatten.2 ⟨e.2.2,List.mem_map.2 ⟨e,he,rfl⟩,hbe⟩))
 ·refine List.mem_append.2 (.inl ?_)
  rw[hv]
  simp
def OwnL {α:Type} (E:El α) (t:TypeId) (width:Nat) (lo hi:Nat) (w:World) (v:Value) (ds:List α):Prop:=
 ∃F,OwLf E t width w v ds F∧F.Nodup∧ ∀b∈F,lo≤b∧b<hi
section
variable {α:Type} {E:El α} {t:TypeId} {width:Nat} {w w' w1 w2:World} {v v':Value} {ds:List α} {lo hi:Nat}
theorem OwnL.keep (h:OwnL E t width lo hi w v ds) (hE:Stable E) (hb: ∀b,lo≤b→b<hi→w'.heap[b]? =w.heap[b]?):OwnL E t width lo hi w' v ds:=by
 obtain⟨F,h1,h2,h3⟩:=h
 exact⟨F,h1.stable hE fun b hbF=>hb b (h3 b hbF).1 (h3 b hbF).2,h2,h3⟩
theorem OwnL.widen (h:OwnL E t width lo hi w v ds) {lo' hi':Nat} (h1:lo'≤lo) (h2:hi≤hi'):OwnL E t width lo' hi' w v ds:=by
 obtain⟨F,a,b,c⟩:=h
 exact⟨F,a,b,fun x hx=>⟨Nat.le_trans h1 (c x hx).1,Nat.lt_of_lt_of_le (c x hx).2 h2⟩⟩
theorem OwnL.len (h:OwnL E t width lo hi w v ds): ∃A cap,v= .slice A ds.length cap∧ds.length≤cap∧cap≤maxLen∧(A=none→cap=0)∧(0<ds.length→ ∃g,A=some ⟨g,0,none⟩∧lo≤g∧g<hi):=by
 obtain⟨F,⟨es,h1,h2,h3,rfl⟩,_,hF⟩:=h
 have hl:es.length=ds.length:=by rw[←h1];simp
 rw[hl] at h3
 obtain⟨A,cap,hv,a,b,c,d⟩:=owns_form h3
 refine⟨A,cap,hv,a,b,c,fun h0=> ?_⟩
 obtain⟨g,hA,_,_⟩:=d h0
 exact⟨g,hA,hF g (by rw[hv,hA];simp[Value.ownBlock])⟩
theorem OwnL.nil (hv:w.ownsRow 0 t width v 0 []) (hb: ∀b,v.ownBlock=some b→lo≤b∧b<hi):OwnL E t width lo hi w v []:=by
 refine⟨v.ownBlock.toList,⟨[],rfl,(fun e he=>by cases he),by simpa using hv,by simp⟩,?_,fun b hb'=> ?_⟩
 ·cases v.ownBlock<;>simp
 ·exact hb b (by simpa using hb')
theorem OwnL.push (hE:Stable E) (h:OwnL E t width lo w.heap.size w v ds) (hbel:Below w.heap.size w w1) {cs:List Value} {d:α} {Fe:List Nat} (hel:E w1 cs d Fe) (hcw:cs.length=width)
  (hnd:Fe.Nodup) (hFe: ∀b∈Fe,w.heap.size≤b∧b<w1.heap.size) (hlo:lo≤w.heap.size)
  (happ: ∀es:List (List Value),w1.ownsRow 0 t width v ds.length es.flatten→w2.ownsRow 0 t width v' (ds.length+1) (es.flatten++cs)) (hg:w1.grownBy w2 v.ownBlock)
  (hat:v'.ownBlock=v.ownBlock∨v'.ownBlock=some w1.heap.size) (hlt: ∀b,v'.ownBlock=some b→b<w2.heap.size):OwnL E t width lo w2.heap.size w2 v' (ds++ [d]):=by
 obtain⟨F,⟨es,h1,h2,h3,rfl⟩,hnF,hF⟩:=h
 have hsz:=hbel.size
 have hsz2:=hg.size
 have hl:es.length=ds.length:=by rw[←h1];simp
 have hvb: ∀b,v.ownBlock=some b→lo≤b∧b<w.heap.size:=fun b hb=>hF b (by rw[hb];simp)
 have hmem: ∀e∈es,∀b∈e.2.2,b∈(es.map (·.2.2)).flatten:=fun e he b hb=>List.mem_flatten.2 ⟨e.2.2,List.mem_map.2 ⟨e,he,rfl⟩,hb⟩
 have hapart: ∀b∈(es.map (·.2.2)).flatten,some b≠v.ownBlock:=by
  intro b hb hv
  rw[←hv] at hnF
  simp at hnF
  obtain⟨h,_⟩:=hnF
  obtain⟨l,hl',hbl⟩:=List.mem_flatten.1 hb
  obtain⟨e,he,rfl⟩:=List.mem_map.1 hl'
  obtain⟨a1,a2,a3⟩:=e
  exact h a3 a1 a2 he hbl
 refine⟨v'.ownBlock.toList++((es.map (·.2.2)).flatten++Fe),⟨es++ [(cs,d,Fe)],by simp[h1],?_,?_,by simp⟩,?_,?_⟩
 ·intro e he
  rcases List.mem_append.1 he with he | he
  ·refine⟨(h2 e he).1,hE _ _ _ _ _ (h2 e he).2 fun b hb=> ?_⟩
   have hlt':=(hF b (List.mem_append.2 (.inr (hmem e he b hb)))).2
   rw[hg.block b (by omega) (hapart b (hmem e he b hb)),hbel.block b hlt']
  ·simp at he
   subst he
   refine⟨hcw,hE _ _ _ _ _ hel fun b hb=>hg.block b (hFe b hb).2 fun hv=> ?_⟩
   have:=hvb b hv.symm
   have:=hFe b hb
   omega
 ·have h3':=happ (es.map (·.1)) (by rw[hl] at h3;exact ownsRow_keep h3 fun b hb=>hbel.block b (hvb b hb).2)
  simpa[hl] using h3'
 ·have n1:((es.map (·.2.2)).flatten).Nodup:=(List.nodup_append.1 hnF).2.1
  have n2:((es.map (·.2.2)).flatten++Fe).Nodup:=by
   refine List.nodup_append.2 ⟨n1,hnd,fun a ha b hb hab=> ?_⟩
   have:=(hF a (List.mem_append.2 (.inr ha))).2
   have:=(hFe b hb).1
   omega
  refine List.nodup_append.2 ⟨?_,n2,fun a ha b hb hab=> ?_⟩
  ·cases v'.ownBlock<;>simp
  ·subst hab
   have ha':v'.ownBlock=some a:=by simpa using ha
   rcases hat with hat | hat
   ·rw[hat] at ha'
    rcases List.mem_append.1 hb with hb | hb
    ·exact hapart a hb ha'.symm
    ·have:=hvb a ha';have:=hFe a hb;omega
   ·rw[hat] at ha'
    injection ha' with ha'
    rcases List.mem_append.1 hb with hb | hb
    ·have:=(hF a (List.mem_append.2 (.inr hb))).2;omega
    ·have:=hFe a hb;omega
 ·intro b hb
  rcases List.mem_append.1 hb with hb | hb
  ·have hb':v'.ownBlock=some b:=by simpa using hb
   refine⟨?_,hlt b hb'⟩
   rcases hat with hat | hat
   ·rw[hat] at hb';exact(hvb b hb').1
   ·rw[hat] at hb';injection hb' with hb';omega
  ·rcases List.mem_append.1 hb with hb | hb
   ·have:=hF b (List.mem_append.2 (.inr hb));omega
   ·have:=hFe b hb;omega
theorem OwnL.focus {A:Option Addr} {m cap:Nat} (h:OwnL E t width lo hi w (.slice A m cap) ds) (hE:Stable E) {k:Nat} (hk:k<ds.length):
  ∃g cs Fe,A=some ⟨g,0,none⟩∧lo≤g∧g<hi∧E w cs ds[k] Fe∧cs.length=width∧(∀b∈Fe,lo≤b∧b<hi∧b≠g)∧Fe.Nodup∧(∀j (hj:j<cs.length),w.cell? ⟨g,k*width+j,none⟩=some cs[j])∧
   (∀j,w.frozen? ⟨g,j,none⟩=false)∧g<w.heap.size∧
   ∀w' cs' d',(∀pre post,pre.length=k*width→w.ownsRow 0 t width (.slice A m cap) ds.length (pre++cs++post)→w'.ownsRow 0 t width (.slice A m cap) ds.length (pre++cs'++post))→cs'.length=width→E w' cs' d' Fe→
    (∀b,b<hi→b≠g→b∉Fe→w'.heap[b]? =w.heap[b]?)→OwnL E t width lo hi w' (.slice A m cap) (ds.set k d'):=by
 obtain⟨F,⟨es,h1,h2,h3,rfl⟩,hnF,hF⟩:=h
 have hl:es.length=ds.length:=by rw[←h1];simp
 rw[hl] at h3
 obtain⟨p,x,q,rfl,hp⟩: ∃p x q,es=p++x::q∧p.length=k:=⟨es.take k,es[k],es.drop (k+1),by rw[←List.drop_eq_getElem_cons (by omega),List.take_append_drop],by simp;omega⟩
 obtain⟨A',cap',hv,_,_,_,hg⟩:=owns_form h3
 obtain⟨g,hA,hge,_⟩:=hg (by omega)
 injection hv with e1 e2 e3
 subst e1 e2 e3 hA
 obtain⟨cs,d,Fe⟩:=x
 have hgF:=hF g (by simp[Value.ownBlock])
 have hd:ds[k]=d:=by simp[←h1,←hp]
 have hx:=h2 (cs,d,Fe) (by simp)
 simp only[List.map_append,List.map_cons,List.flatten_append,List.flatten_cons,Value.ownBlock,Option.toList_some] at h3 hnF hF
 have hpl:((p.map (·.1)).flatten).length=k*width:=by
  have: ∀l:List (List Value×α×List Nat),(∀e∈l,e.1.length=width)→((l.map (·.1)).flatten).length=l.length*width:=by
   intro l hl
   induction l with
   | nil=>simp
   | cons e l ih=>
     simp only[List.map_cons,List.flatten_cons,List.length_append,List.length_cons,ih fun e he=>hl e (by simp[he]),hl e (by simp),Nat.add_mul]
     omega
  rw[this p fun e he=>(h2 e (by simp[he])).1,hp]
 have hng:=(List.nodup_append.1 hnF).2.2 g (by simp)
 have hn2:=(List.nodup_append.1 hnF).2.1
 obtain⟨np,nq,npq⟩:=List.nodup_append.1 hn2
 obtain⟨nF,nq2,nFq⟩:=List.nodup_append.1 nq
 have hlen:=h3.1
 have hx1:cs.length=width:=hx.1
 simp only[List.length_append,hpl,hx1] at hlen
 refine⟨g,cs,Fe,rfl,hgF.1,hgF.2,by rw[hd];exact hx.2,hx.1,fun b hb=> ?_,nF,fun j hj=> ?_,fun j=>h3.frozenAt j,?_,?_⟩
 ·have hb':=hF b (by simp[hb])
  exact⟨hb'.1,hb'.2,fun e=>hng b (by simp[hb]) e.symm⟩
 ·have hj':k*width+j<ds.length*width:=by omega
  rw[h3.cellAt _ hj',List.getElem?_append_right (by omega),hpl,Nat.add_sub_cancel_left,List.getElem?_append_left hj,List.getElem?_eq_getElem hj]
 ·exact(h3.lt g rfl).2
 ·intro w' cs' d' hrow hcs' hE' hoth
  have hmem: ∀e,e∈p∨e∈q→ ∀b∈e.2.2,b<hi∧b≠g∧b∉Fe:=by
   intro e he b hb
   have hbm:b∈(p.map (·.2.2)).flatten∨b∈(q.map (·.2.2)).flatten:=by
    rcases he with he | he
    ·exact .inl (List.mem_flatten.2 ⟨e.2.2,List.mem_map.2 ⟨e,he,rfl⟩,hb⟩)
    ·exact .inr (List.mem_flatten.2 ⟨e.2.2,List.mem_map.2 ⟨e,he,rfl⟩,hb⟩)
   refine⟨(hF b ?_).2,fun e'=>hng b ?_ e'.symm,fun hbF=> ?_⟩
   ·refine List.mem_append.2 (.inr ?_)
    rcases hbm with hbm | hbm
    ·exact List.mem_append.2 (.inl hbm)
    ·exact List.mem_append.2 (.inr (List.mem_append.2 (.inr hbm)))
   ·rcases hbm with hbm | hbm
    ·exact List.mem_append.2 (.inl hbm)
    ·exact List.mem_append.2 (.inr (List.mem_append.2 (.inr hbm)))
   ·rcases hbm with hbm | hbm
    ·exact npq b hbm b (List.mem_append.2 (.inl hbF)) rfl
    ·exact nFq b hbF b hbm rfl
  refine⟨g::((p.map (·.2.2)).flatten++(Fe++(q.map (·.2.2)).flatten)),⟨p++(cs',d',Fe)::q,?_,?_,?_,?_⟩,?_,?_⟩
  ·rw[←h1]
   simp only[List.map_append,List.map_cons]
   rw[List.set_append_right _ _ (by simp[hp]),List.length_map,hp,Nat.sub_self,List.set_cons_zero]
  ·intro e he
   simp only[List.mem_append,List.mem_cons] at he
   rcases he with he | rfl | he
   ·exact⟨(h2 e (by simp[he])).1,hE _ _ _ _ _ (h2 e (by simp[he])).2 fun b hb=>hoth b (hmem e (.inl he) b hb).1 (hmem e (.inl he) b hb).2.1 (hmem e (.inl he) b hb).2.2⟩
   ·exact⟨hcs',hE'⟩
   ·exact⟨(h2 e (by simp[he])).1,hE _ _ _ _ _ (h2 e (by simp[he])).2 fun b hb=>hoth b (hmem e (.inr he) b hb).1 (hmem e (.inr he) b hb).2.1 (hmem e (.inr he) b hb).2.2⟩
  ·have:=hrow (p.map (·.1)).flatten (q.map (·.1)).flatten hpl (by simpa using h3)
   simp only[List.map_append,List.map_cons,List.flatten_append,List.flatten_cons,List.length_append,List.length_cons,List.append_assoc] at this hl⊢
   rw[hl]
   exact this
  ·simp[Value.ownBlock]
  ·simpa using hnF
  ·intro b hb
   exact hF b (by simpa using hb)
theorem OwnL.lt {b:Nat} (h:OwnL E t width lo hi w v ds) (hb:v.ownBlock=some b):lo≤b∧b<hi:=by
 obtain⟨F,⟨es,h1,h2,h3,rfl⟩,hnF,hF⟩:=h
 exact hF b (by rw[hb];simp)
end
theorem push_own {α:Type} {E:El α} (hE:Stable E) {t ts:TypeId} {ti:TypeInfo} {z:Value} {width bytes lo:Nat} {w0 w:World} {v:Value} {ds:List α} {ops:Array Oper} {rest:List Oper} {o:Oper} {a:Act} {Q:Exit→Act→World→Prop} (hgd:o.guard=none) (s x:Operand)
  (ho:o.op= .call {callee:= .builtin .append,args:= #[s,x],argTypes:= #[ts,ts]})
  (ht:Tryz.prog.underlying ts=some (.slice t)) (hi:Tryz.prog.info? t=some ti) (hz:ti.zero=some z) (hsize:ti.size=width) (hby:ti.bytes=bytes) (hzs:z.cells.size=width) (hsz:0<width) (hb0:bytes≤128)
  (hown:OwnL E t width lo w0.heap.size w0 v ds) (hlo:lo≤w0.heap.size) (hbel:Below w0.heap.size w0 w) (hs:a.eval s=v) (b:Nat) (cs:List Value) (d:α) (Fe:List Nat) (hx:a.eval x= .slice (some ⟨b,0,none⟩) 1 1)
  (hel:E w cs d Fe) (hcs:cs.length=width) (hnd:Fe.Nodup) (hFe: ∀b∈Fe,w0.heap.size≤b∧b<w.heap.size) (hc: ∀j u,cs[j]? =some u→w.cell? ⟨b,j,none⟩=some u) (h1: ∀u∈cs,u.oneCell'=true) (hl:ds.length≤1073741824)
  (h: ∀v' w',OwnL E t width lo w'.heap.size w' v' (ds++ [d])→w.grownBy w' v.ownBlock→wpList Tryz.prog ops Q rest (a.put o.dst v') w'):
  wpList Tryz.prog ops Q (o::rest) a w:=by
 have hown':=hown
 obtain⟨F,⟨es,e1,e2,e3,rfl⟩,hnF,hF⟩:=hown'
 have hln:es.length=ds.length:=by rw[←e1];simp
 rw[hln] at e3
 have hrow:=ownsRow_keep e3 (w':=w) fun b hb=>hbel.block b (hown.lt hb).2
 refine wpList_append_own_at _ hgd s x ts ho 0 t ti z width bytes ht hi hz hsize hby hzs hsz v ds.length _ hs hrow ⟨b,0,none⟩ 1 1 cs hx (by omega) ?_ h1 (by unfold maxLen;omega) ?_ (Nat.zero_le _) ?_
 ·intro j u hj
  have e:(⟨b,0,none⟩:Addr).add j=⟨b,j,none⟩:=by simp[Addr.add];intro h;exact h.symm
  rw[e];exact hc j u hj
 ·calc (ds.length+1)*bytes≤1073741825*128:=Nat.mul_le_mul (by omega) hb0
   _≤140737488355328:=by decide
 ·intro v' w' h2 h3 _ h5
  refine h v' w' (OwnL.push hE hown hbel hel hcs hnd hFe hlo ?_ h3 h5 fun b hb=>(h2.lt b hb).2) h3
  intro es' he'
  obtain⟨v2,w2,q⟩: ∃v2 w2,v2=v'∧w2=w':=⟨_,_,rfl,rfl⟩
  have hflat:es'.flatten=(es.map (·.1)).flatten:=by
   rcases he'.2 with ⟨hv,hn⟩ | ⟨g,c,cur,hv,_,hh,_,_,_,hcur⟩
   ·have q1:=he'.1
    have q2:=hrow.1
    rw[hn,Nat.zero_mul] at q1 q2
    rw[List.eq_nil_of_length_eq_zero q1,List.eq_nil_of_length_eq_zero q2]
   ·rcases hrow.2 with ⟨hv',_⟩ | ⟨g',c',cur',hv',_,hh',_,_,_,hcur'⟩
    ·rw[hv] at hv';cases hv'
    ·rw[hv] at hv'
     injection hv' with q1
     injection q1 with q1
     injection q1 with q1
     subst q1
     rw[hh] at hh'
     injection hh' with q2
     injection q2 with q2
     subst q2
     rw[←hcur,←hcur']
  rw[hflat]
  exact h2
theorem RdI_new1 (w:World) (z:Int) (hz:I64 z):RdI (w.alloc (.cells #[.int .i64 z] 3)) (.slice (some ⟨w.heap.size,0,none⟩) 1 1) [z]:=
 (OwI_lit w [z] (fun x hx=>by simp at hx;subst hx;exact hz) (by simp) (Nat.le_refl _)).rd
def EI:El (List Int):=fun w cs d F=> ∃s,cs= [s]∧OwI w 0 s d∧F=s.ownBlock.toList
theorem EI.stable:Stable EI:=by
 rintro w w' cs d F ⟨s,rfl,ho,rfl⟩ hb
 exact⟨s,rfl,⟨ownsRow_keep ho.1 fun b h=>hb b (by rw[h];simp),ho.2⟩,rfl⟩
theorem EI.of {w:World} {s:Value} {xs:List Int} {base:Nat} (h:OwI w base s xs):EI w [s] xs s.ownBlock.toList:=⟨s,rfl,h.mono (Nat.zero_le _),rfl⟩
abbrev OwII (lo hi:Nat) (v:Value) (L:List (List Int)) (w:World):Prop:=OwnL EI 37 1 lo hi w v L
theorem OwII_lit (w:World) {lo:Nat} (h:lo≤w.heap.size):OwII lo (w.heap.size+1) (.slice (some ⟨w.heap.size,0,none⟩) 0 0) [] (w.alloc (.cells #[] 37)):=by
 refine OwnL.nil ?_ fun b hb=> ?_
 ·have:=World.ownsRow_lit (e:=37) (size:=1) (base:=0) w #[] 0 (Nat.zero_le _) (by unfold maxLen;omega) (by simp)
  simpa using this
 ·simp[Value.ownBlock] at hb;omega
theorem flat_ones (es:List (List Value×List Int×List Nat)) (h: ∀e∈es,e.1.length=1):((es.map (·.1)).flatten).length=es.length∧ ∀i (hi:i<es.length) (hi':i<((es.map (·.1)).flatten).length),es[i].1= [((es.map (·.1)).flatten)[i]]:=by
 induction es with
 | nil=>exact⟨rfl,fun i hi=>by simp at hi⟩
 | cons e es ih=>
   have he:=h e (by simp)
   obtain⟨x,hx⟩: ∃x,e.1= [x]:=by
    match hh:e.1 with
    | []=>rw[hh] at he;simp at he
    | [x]=>exact⟨x,rfl⟩
    | a::b::l=>rw[hh] at he;simp at he
   obtain⟨i1,i2⟩:=ih fun e' he'=>h e' (by simp[he'])
   have e3:((e::es).map (·.1)).flatten=x::(es.map (·.1)).flatten:=by simp[hx]
   refine⟨by rw[e3];simp[i1],fun i hi hi'=> ?_⟩
   match i with
   | 0=>simp[e3,hx]
   | j+1=>
     have:=i2 j (by simpa using hi) (by simp[i1];simpa using hi)
     simp only[e3,List.getElem_cons_succ]
     exact this
theorem OwII.rd {lo hi:Nat} {v:Value} {L:List (List Int)} {w:World} (h:OwII lo hi v L w):RdII w v L:=by
 obtain⟨F,⟨es,h1,h2,h3,rfl⟩,_,_⟩:=h
 have hl:es.length=L.length:=by rw[←h1];simp
 rw[hl] at h3
 obtain⟨f1,f2⟩:=flat_ones es fun e he=>(h2 e he).1
 refine⟨(es.map (·.1)).flatten,by rw[f1,hl],RdV.of_own h3,fun i hi hi'=> ?_⟩
 have hie:i<es.length:=by omega
 obtain⟨s,hs,ho,_⟩:=(h2 es[i] (by simp)).2
 have e:=f2 i hie hi'
 rw[hs] at e
 injection e with e
 rw[←e]
 have e2:es[i].2.1=L[i]:=by simp[←h1]
 rw[←e2]
 exact ho.rd
theorem push_ints {lo:Nat} {w0 w:World} {v:Value} {L:List (List Int)} {ops:Array Oper} {rest:List Oper} {o:Oper} {a:Act} {Q:Exit→Act→World→Prop} (hgd:o.guard=none) (s x:Operand)
  (ho:o.op= .call {callee:= .builtin .append,args:= #[s,x],argTypes:= #[69,69]})
  (hown:OwII lo w0.heap.size v L w0) (hlo:lo≤w0.heap.size) (hbel:Below w0.heap.size w0 w) (hs:a.eval s=v) (b:Nat) (z:Value) (d:List Int) {base:Nat} (hx:a.eval x= .slice (some ⟨b,0,none⟩) 1 1)
  (hel:OwI w base z d) (hbase:w0.heap.size≤base) (hc:w.cell? ⟨b,0,none⟩=some z) (hz:z.oneCell'=true) (hl:L.length≤1073741824)
  (h: ∀v' w',OwII lo w'.heap.size v' (L++ [d]) w'→w.grownBy w' v.ownBlock→wpList Tryz.prog ops Q rest (a.put o.dst v') w'):
  wpList Tryz.prog ops Q (o::rest) a w:=by
 obtain⟨i0,hi0,hz0,hz1,hz2⟩:=info_parts ints_info
 refine push_own EI.stable hgd s x ho Tryz.underlying69 hi0 hz0 hz1 hz2 rfl (by decide) (by decide) hown hlo hbel hs b [z] d _ hx (EI.of hel) rfl ?_ ?_ ?_ ?_ hl h
 ·cases z.ownBlock<;>simp
 ·intro k hk
  have:=hel.1.lt k (by simpa using hk)
  omega
 ·intro j u hj
  match j,hj with
  | 0,hj=>simp at hj;subst hj;exact hc
 ·intro u hu;simp at hu;subst hu;exact hz
theorem OwLf.mem {α:Type} {E:El α} {t:TypeId} {width:Nat} {w:World} {v:Value} {ds:List α} {F:List Nat} (h:OwLf E t width w v ds F) {b:Nat} (hb:v.ownBlock=some b):b∈F:=by
 obtain⟨es,h1,h2,h3,rfl⟩:=h
 rw[hb];simp
theorem wp_push_ownF {α:Type} {E:El α} (hE:Stable E) {t ts:TypeId} {ti:TypeInfo} {z:Value} {width bytes:Nat} {w0 w:World} {v:Value} {ds:List α} {F:List Nat} {o:Oper} {a:Act} {K:Act→World→Prop} {Q:Exit→Act→World→Prop} (s x:Operand)
  (ho:o.op= .call {callee:= .builtin .append,args:= #[s,x],argTypes:= #[ts,ts]})
  (ht:Tryz.prog.underlying ts=some (.slice t)) (hi:Tryz.prog.info? t=some ti) (hz:ti.zero=some z) (hsize:ti.size=width) (hby:ti.bytes=bytes) (hzs:z.cells.size=width) (hsz:0<width) (hb0:bytes≤128)
  (hown:OwLf E t width w0 v ds F) (hnF:F.Nodup) (hF: ∀b∈F,b<w0.heap.size) (hbel:Below w0.heap.size w0 w) (hs:a.eval s=v) (b:Nat) (cs:List Value) (d:α) (Fe:List Nat) (hx:a.eval x= .slice (some ⟨b,0,none⟩) 1 1)
  (hel:E w cs d Fe) (hcs:cs.length=width) (hnd:Fe.Nodup) (hFe: ∀b∈Fe,w0.heap.size≤b∧b<w.heap.size) (hc: ∀j u,cs[j]? =some u→w.cell? ⟨b,j,none⟩=some u) (h1: ∀u∈cs,u.oneCell'=true) (hl:ds.length≤1073741824)
  (h: ∀v' w' F',OwLf E t width w' v' (ds++ [d]) F'→F'.Nodup→(∀b∈F',(b∈F∨w0.heap.size≤b)∧b<w'.heap.size)→w.grownBy w' v.ownBlock→(v'.ownBlock=v.ownBlock∨v'.ownBlock=some w.heap.size)→K (a.put o.dst v') w'):
  o.wp Tryz.prog a w K Q:=by
 obtain⟨es,e1,e2,e3,rfl⟩:=hown
 have hln:es.length=ds.length:=by rw[←e1];simp
 have hvb: ∀b,v.ownBlock=some b→b<w0.heap.size:=fun b hb=>hF b (by rw[hb];simp)
 rw[hln] at e3
 have hrow:=ownsRow_keep e3 (w':=w) fun b hb=>hbel.block b (hvb b hb)
 have hcc: ∀j u,cs[j]? =some u→w.cell? ((⟨b,0,none⟩:Addr).add j)=some u:=fun j u hj=>by
  have e:(⟨b,0,none⟩:Addr).add j=⟨b,j,none⟩:=by simp[Addr.add];intro h;exact h.symm
  rw[e];exact hc j u hj
 have hroom:(ds.length+1)*bytes≤140737488355328:=by
  calc (ds.length+1)*bytes≤1073741825*128:=Nat.mul_le_mul (by omega) hb0
   _≤140737488355328:=by decide
 obtain⟨v',w',hrun,h2,hg,_,hat⟩:=run_append_own_at (P:=Tryz.prog) w 0 ts o.type t ti z width bytes ht hi hz hsize hby hzs hsz v ds.length _ hrow ⟨b,0,none⟩ 1 1 cs (by omega) hcc h1 (by unfold maxLen;omega) hroom (Nat.zero_le _)
 unfold Oper.wp execOp
 simp only[ho,resolve,invoke,builtin,Sem.run_bind,Sem.run_pure,Result.andThen_ok,List.map_toArray,List.map_cons,List.map_nil,hs,hx,hrun]
 show K (a.put o.dst v') w'
 have hsz:=hbel.size
 have hsz2:=hg.size
 have hmem: ∀e∈es,∀b∈e.2.2,b∈(es.map (·.2.2)).flatten:=fun e he b hb=>List.mem_flatten.2 ⟨e.2.2,List.mem_map.2 ⟨e,he,rfl⟩,hb⟩
 have hapart: ∀b∈(es.map (·.2.2)).flatten,some b≠v.ownBlock:=by
  intro b hb hv
  rw[←hv] at hnF
  exact(List.nodup_append.1 hnF).2.2 b (by simp) b hb rfl
 refine h v' w' (v'.ownBlock.toList++((es.map (·.2.2)).flatten++Fe)) ⟨es++ [(cs,d,Fe)],by simp[e1],?_,?_,by simp⟩ ?_ ?_ hg hat
 ·intro e he
  rcases List.mem_append.1 he with he | he
  ·refine⟨(e2 e he).1,hE _ _ _ _ _ (e2 e he).2 fun b hb=> ?_⟩
   have hlt':=hF b (List.mem_append.2 (.inr (hmem e he b hb)))
   rw[hg.block b (by omega) (hapart b (hmem e he b hb)),hbel.block b hlt']
  ·simp at he
   subst he
   refine⟨hcs,hE _ _ _ _ _ hel fun b hb=>hg.block b (hFe b hb).2 fun hv=> ?_⟩
   have:=hvb b hv.symm
   have:=hFe b hb
   omega
 ·simpa[hln] using h2
 ·have n1:((es.map (·.2.2)).flatten).Nodup:=(List.nodup_append.1 hnF).2.1
  have n2:((es.map (·.2.2)).flatten++Fe).Nodup:=by
   refine List.nodup_append.2 ⟨n1,hnd,fun a ha b hb hab=> ?_⟩
   have:=hF a (List.mem_append.2 (.inr ha))
   have:=(hFe b hb).1
   omega
  refine List.nodup_append.2 ⟨?_,n2,fun a ha b hb hab=> ?_⟩
  ·cases v'.ownBlock<;>simp
  ·subst hab
   have ha':v'.ownBlock=some a:=by simpa using ha
   rcases hat with hat | hat
   ·rw[hat] at ha'
    rcases List.mem_append.1 hb with hb | hb
    ·exact hapart a hb ha'.symm
    ·have:=hvb a ha';have:=hFe a hb;omega
   ·rw[hat] at ha'
    injection ha' with ha'
    rcases List.mem_append.1 hb with hb | hb
    ·have:=hF a (List.mem_append.2 (.inr hb));omega
    ·have:=hFe a hb;omega
 ·intro b hb
  rcases List.mem_append.1 hb with hb | hb
  ·have hb':v'.ownBlock=some b:=by simpa using hb
   refine⟨?_,(h2.lt b hb').2⟩
   rcases hat with hat | hat
   ·rw[hat] at hb';exact .inl (List.mem_append.2 (.inl (by rw[hb'];simp)))
   ·rw[hat] at hb';injection hb' with hb';exact .inr (by omega)
  ·rcases List.mem_append.1 hb with hb | hb
   ·have:=hF b (List.mem_append.2 (.inr hb));exact⟨.inl (List.mem_append.2 (.inr hb)),by omega⟩
   ·have:=hFe b hb;exact⟨.inr (by omega),by omega⟩
theorem step_push_ints {w0 w:World} {v:Value} {L:List (List Int)} {F:List Nat} {ops:Array Oper} {o:Oper} {a:Act} {K:Act→World→Prop} {Q:Exit→Act→World→Prop} {E:Prop} (hgd:o.guard=none) (s x:Operand)
  (ho:o.op= .call {callee:= .builtin .append,args:= #[s,x],argTypes:= #[69,69]})
  (hown:OwLf EI 37 1 w0 v L F) (hnF:F.Nodup) (hF: ∀b∈F,b<w0.heap.size) (hbel:Below w0.heap.size w0 w) (hs:a.eval s=v) (b:Nat) (z:Value) (d:List Int) {base:Nat} (hx:a.eval x= .slice (some ⟨b,0,none⟩) 1 1)
  (hel:OwI w base z d) (hbase:w0.heap.size≤base) (hc:w.cell? ⟨b,0,none⟩=some z) (hz:z.oneCell'=true) (hl:L.length≤1073741824)
  (h: ∀v' w' F',OwLf EI 37 1 w' v' (L++ [d]) F'→F'.Nodup→(∀b∈F',(b∈F∨w0.heap.size≤b)∧b<w'.heap.size)→w.grownBy w' v.ownBlock→(v'.ownBlock=v.ownBlock∨v'.ownBlock=some w.heap.size)→K (a.put o.dst v') w'):
  if Region.wanted o (yielded ops a.tmps)=true then Oper.wp Tryz.prog o a w K Q else E:=by
 have hw:Region.wanted o (yielded ops a.tmps)=true:=by simp[Region.wanted,hgd]
 rw[if_pos hw]
 obtain⟨i0,hi0,hz0,hz1,hz2⟩:=info_parts ints_info
 refine wp_push_ownF EI.stable s x ho Tryz.underlying69 hi0 hz0 hz1 hz2 rfl (by decide) (by decide) hown hnF hF hbel hs b [z] d _ hx (EI.of hel) rfl ?_ ?_ ?_ ?_ hl h
 ·cases z.ownBlock<;>simp
 ·intro k hk
  have:=hel.1.lt k (by simpa using hk)
  omega
 ·intro j u hj
  match j,hj with
  | 0,hj=>simp at hj;subst hj;exact hc
 ·intro u hu;simp at hu;subst hu;exact hz
theorem three_rd {w:World} {u v t:Value} {xs ys zs:List Int} (h:RdI w u xs) (h':RdI w v ys) (h'':RdI w t zs):RdII (w.alloc (.cells #[u,v,t] 37)) (.slice (some ⟨w.heap.size,0,none⟩) 3 3) [xs,ys,zs]:=by
 have hr:=World.ownsRow_lit (e:=37) (size:=1) (base:=0) w #[u,v,t] 3 (Nat.zero_le _) (by unfold maxLen;omega) (by simp)
 refine⟨[u,v,t],rfl,RdV.of_own (by simpa using hr),fun i hi hi'=> ?_⟩
 match i,hi with
 | 0,_=>exact h.alloc _
 | 1,_=>exact h'.alloc _
 | 2,_=>exact h''.alloc _
end Go.Proofs.YtnjpoljbagfdnaaGreat
namespace Go.Proofs.YtnjpoljbagfdnaaGreat
set_option maxRecDepth 20000
set_option linter.unusedVariables false
set_option linter.unusedSimpArgs false
open Go.RowKit
def ArgC (w:World) (v:Value) (cs:List Int):Prop:=
 ∃A cap,v= .slice A cs.length cap∧cs.length≤cap∧cap≤maxLen∧(∀x∈cs,0≤x∧x≤255)∧
  (0<cs.length→ ∃b off,A=some ⟨b,off,none⟩∧ ∀i (hi:i<cs.length),w.cell? ⟨b,off+i,none⟩=some (.int .u8 cs[i]))
structure Cur (p:Nat) (A:Option Addr) (cap:Nat) (cs:List Int) (w:World):Prop where
 c0:w.cell? ⟨p,0,none⟩=some (.slice A cs.length cap)
 c1: ∃i:Nat,i≤cs.length∧w.cell? ⟨p,1,none⟩=some (.int .i64 i)
 c2: ∃h:Int,w.cell? ⟨p,2,none⟩=some (.int .i64 h)
 fz: ∀j,w.frozen? ⟨p,j,none⟩=false
 lt:p<w.heap.size
 len:cs.length≤1048576
 by_: ∀x∈cs,0≤x∧x≤255
 at_:0<cs.length→ ∃b off,A=some ⟨b,off,none⟩∧b≠p∧b<w.heap.size∧ ∀i (hi:i<cs.length),w.cell? ⟨b,off+i,none⟩=some (.int .u8 cs[i])
theorem Cur.tr {p:Nat} {A:Option Addr} {cap lo hi:Nat} {cs:List Int} {w w':World} (h:Cur p A cap cs w) (ht:Tr lo hi w w') (hp: ¬(lo≤p∧p<hi)) (hA:0<cs.length→ ∀b off,A=some ⟨b,off,none⟩→ ¬(lo≤b∧b<hi)):Cur p A cap cs w':=by
 have hk:w'.heap[p]? =w.heap[p]? :=ht.block p h.lt hp
 refine⟨(World.cell?_of_block (w:=w) hk).trans h.c0,?_,?_,fun j=>(World.frozen?_of_block (w:=w) hk).trans (h.fz j),Nat.lt_of_lt_of_le h.lt ht.size,h.len,h.by_,fun h0=> ?_⟩
 ·obtain⟨i,hi,hc⟩:=h.c1
  exact⟨i,hi,(World.cell?_of_block (w:=w) hk).trans hc⟩
 ·obtain⟨i,hc⟩:=h.c2
  exact⟨i,(World.cell?_of_block (w:=w) hk).trans hc⟩
 ·obtain⟨b,off,hA',hb,hlt,hc⟩:=h.at_ h0
  exact⟨b,off,hA',hb,Nat.lt_of_lt_of_le hlt ht.size,fun i hi=>(World.cell?_of_block (w:=w) (ht.block b hlt (hA h0 b off hA'))).trans (hc i hi)⟩
theorem Cur.below {p:Nat} {A:Option Addr} {cap:Nat} {cs:List Int} {w w':World} (h:Cur p A cap cs w) (hb:Below w.heap.size w w'):Cur p A cap cs w':=
 h.tr (lo:=0) (hi:=0) (Tr.below hb) (by omega) fun _ _ _ _=>by omega
theorem Cur.new {p:Nat} {A:Option Addr} {cap:Nat} {cs:List Int} {w0 w w':World} {row:Option Nat} (h:Cur p A cap cs w) (h0:Cur p A cap cs w0) (hg:w.grownBy w' row) (hrow: ∀b,row=some b→w0.heap.size≤b):Cur p A cap cs w':=by
 have hk:w'.heap[p]? =w.heap[p]? :=hg.block p h.lt fun e=>by have:=hrow p e.symm;have:=h0.lt;omega
 refine⟨(World.cell?_of_block (w:=w) hk).trans h.c0,?_,?_,fun j=>(World.frozen?_of_block (w:=w) hk).trans (h.fz j),Nat.lt_of_lt_of_le h.lt hg.size,h.len,h.by_,fun hl=> ?_⟩
 ·obtain⟨i,hi,hc⟩:=h.c1
  exact⟨i,hi,(World.cell?_of_block (w:=w) hk).trans hc⟩
 ·obtain⟨i,hc⟩:=h.c2
  exact⟨i,(World.cell?_of_block (w:=w) hk).trans hc⟩
 ·obtain⟨b,off,hA',hb,hlt,hc⟩:=h.at_ hl
  obtain⟨b0,off0,hA0,_,hlt0,_⟩:=h0.at_ hl
  rw[hA'] at hA0
  injection hA0 with e
  injection e with e1 e2
  subst e1
  exact⟨b,off,hA',hb,Nat.lt_of_lt_of_le hlt hg.size,fun i hi=>(World.cell?_of_block (w:=w) (hg.block b hlt fun e=>by have:=hrow b e.symm;omega)).trans (hc i hi)⟩
theorem OwI.trP {p base:Nat} {w w':World} {v:Value} {xs:List Int} (h:OwI w base v xs) (ht:Tr p (p+1) w w') (hp:p<base):OwI w' base v xs:=
 ⟨ownsRow_keep h.1 fun b hb=>ht.block b (h.1.lt b hb).2 (by have:=(h.1.lt b hb).1;omega),h.2⟩
theorem Tr.grow2 {a b:Nat} {w w1 w2:World} {row:Option Nat} (h:Tr a b w w1) (hg:w1.grownBy w2 row) (hrow: ∀c,row=some c→w.heap.size≤c):Tr a b w w2:=
 ⟨hg.os.trans h.os,hg.tape.trans h.tape,hg.output.trans h.output,Nat.le_trans h.size hg.size,fun k hk hn=>(hg.block k (Nat.lt_of_lt_of_le hk h.size) fun e=>by have:=hrow k e.symm;omega).trans (h.block k hk hn)⟩
theorem Tr.bel2 {a b:Nat} {w w1 w2:World} (h:Tr a b w w1) (hb:Below w1.heap.size w1 w2):Tr a b w w2:=
 ⟨hb.os.trans h.os,hb.tape.trans h.tape,hb.output.trans h.output,Nat.le_trans h.size hb.size,fun k hk hn=>(hb.block k (Nat.lt_of_lt_of_le hk h.size)).trans (h.block k hk hn)⟩
theorem Tr.set1 {p j:Nat} {w w1:World} (h:Tr p (p+1) w w1) (v:Value):Tr p (p+1) w (w1.setCell ⟨p,j,none⟩ v):=
 h.trans (Tr.grown (setCell_grown w1 p j _) fun b hb=>by cases hb;omega)
theorem and255 (E:Int):0≤bits .and .i64 E 255∧bits .and .i64 E 255≤255:=by
 unfold bits
 have h:(BitVec.ofInt 64 E&&& BitVec.ofInt 64 255).toNat≤255:=by
  rw[BitVec.toNat_and]
  exact Nat.le_trans Nat.and_le_right (by decide)
 have e:IntKind.i64.wrap ((BitVec.ofInt 64 E&&& BitVec.ofInt 64 255).toNat:Int)=((BitVec.ofInt 64 E&&& BitVec.ofInt 64 255).toNat:Int):=by rw[IntKind.wrap_i64];omega
 show 0≤IntKind.i64.wrap ((BitVec.ofInt 64 E&&& BitVec.ofInt 64 255).toNat:Int)∧IntKind.i64.wrap ((BitVec.ofInt 64 E&&& BitVec.ofInt 64 255).toNat:Int)≤255
 rw[e]
 omega
set_option maxHeartbeats 1000000 in
theorem l1Byte_any (p:Nat) (A:Option Addr) (cap:Nat) (cs:List Int) (w:World) (h:Cur p A cap cs w):
  Calls Tryz.prog 224 #[.pointer (some ⟨p,0,none⟩)] w fun e w'=> ∃n:Int,e= .returned (.int .i64 n)∧(0≤n∧n≤255)∧Cur p A cap cs w'∧Tr p (p+1) w w':=by
 have H:=hDD h
 have c0:=h.c0
 obtain⟨i,hi,c1⟩:=h.c1
 obtain⟨x,c2⟩:=h.c2
 have fz:=h.fz
 have hlen:=h.len
 have hp:=h.lt
 have HBY:=hDD h.by_
 have HAT:=hDD h.at_
 clear h
 go_enter Tryz.func224,Tryz.ntmps224
 go_wp2
 generalize hx:wrap64 (wrap64 (x*6364136223846793005)+1442695040888963407)=x1
 clear hx
 obtain⟨W1,hW1⟩: ∃W1:World,W1=w.setCell ⟨p,2,none⟩ (.int .i64 x1):=⟨_,rfl⟩
 have d0:W1.cell? ⟨p,0,none⟩=some (.slice A cs.length cap):=by rw[hW1];simp[go_sem,c0]
 have d1:W1.cell? ⟨p,1,none⟩=some (.int .i64 i):=by rw[hW1];simp[go_sem,c1]
 have d2:W1.cell? ⟨p,2,none⟩=some (.int .i64 x1):=by rw[hW1];simp[go_sem,c2]
 have df: ∀j,W1.frozen? ⟨p,j,none⟩=false:=fun j=>by rw[hW1];simp[go_sem,fz]
 have T1:Hid (Tr p (p+1) w W1):=hDD (by rw[hW1];exact Tr.grown (setCell_grown w p 2 _) fun b hb=>by cases hb;omega)
 have hs1:W1.heap.size=w.heap.size:=by rw[hW1];simp
 have HS1:=hDD hs1
 rw[←hW1]
 have HATW:Hid (∀W',Tr p (p+1) w W'→(0<cs.length→ ∃b off,A=some ⟨b,off,none⟩∧b≠p∧b<W'.heap.size∧ ∀i (hi:i<cs.length),W'.cell? ⟨b,off+i,none⟩=some (.int .u8 cs[i]))):=hDD fun W' ht h0=>by
  obtain⟨b,off,hA,hb,hbl,hc⟩:=HAT.out h0
  exact⟨b,off,hA,hb,Nat.lt_of_lt_of_le hbl ht.size,fun i hi=>(World.cell?_of_block (w:=w) (ht.block b hbl (by omega))).trans (hc i hi)⟩
 clear hW1 c0 c1 c2 fz hs1
 go_quiet (fail)
 obtain⟨y0,y1⟩:=and255 (bits .xor .i64 (x1/8589934592) (x1/35184372088832))
 generalize bits .and .i64 (bits .xor .i64 (x1/8589934592) (x1/35184372088832)) 255=y at*
 generalize bits .xor .i64 (x1/8589934592) (x1/35184372088832)=y2 at*
 by_cases hlt:i<cs.length
 ·obtain⟨b,off,rfl,hb,hbl,hc⟩:=HAT.out (by omega)
  have hcell:W1.cell? ⟨b,off+i,none⟩=some (.int .u8 cs[i]):=(World.cell?_of_block (w:=w) (T1.out.block b hbl (by omega))).trans (hc i hlt)
  have hx:=HBY.out _ (List.getElem_mem hlt)
  have hI:(i:Int)<(cs.length:Int):=by omega
  have hi0:(0:Int)≤(i:Int):=by omega
  generalize cs[i]=z at*
  have hcv:IntKind.i64.wrap z=z:=by rw[IntKind.wrap_i64];omega
  clear hc
  go_wp2
  go_quiet (fail)
  go_wp2
  go_quiet (fail)
  obtain⟨u0,u1⟩:=and255 (y+z)
  generalize bits .and .i64 (y+z) 255=u at*
  have hwi:IntKind.i64.wrap ((i:Int)+1)=((i+1:Nat):Int):=by rw[IntKind.wrap_i64];omega
  go_wp2
  refine bodyPost_ret (v:= .int .i64 u) (by simp[results,Tryz.results224,go_sem]) rfl ⟨u,rfl,⟨u0,u1⟩,?_,?_⟩
  ·refine⟨by simp[go_sem,d0],⟨i+1,hlt,by simp[go_sem,d1]⟩,⟨x1,by simp[go_sem,d2]⟩,fun j=>by simp[go_sem,df],?_,hlen,HBY.out,HATW.out _ ?_⟩
   ·have:=HS1.out;simp;omega
   ·first | exact(T1.out.set1 _).bel2 (bel_drewN (Below.refl _ _) _) | exact(T1.out.bel2 (bel_drewN (Below.refl _ _) _)).set1 _ | exact(T1.out.set1 _).bel2 (bel_drewN (bel_drewN (Below.refl _ _) _) _) | exact(T1.out.bel2 (bel_drewN (bel_drewN (Below.refl _ _) _) _)).set1 _ | exact(T1.out.set1 _).bel2 (bel_drewN (bel_drewN (bel_drewN (Below.refl _ _) _) _) _) | exact(T1.out.bel2 (bel_drewN (bel_drewN (bel_drewN (Below.refl _ _) _) _) _)).set1 _
  ·first | exact(T1.out.set1 _).bel2 (bel_drewN (Below.refl _ _) _) | exact(T1.out.bel2 (bel_drewN (Below.refl _ _) _)).set1 _ | exact(T1.out.set1 _).bel2 (bel_drewN (bel_drewN (Below.refl _ _) _) _) | exact(T1.out.bel2 (bel_drewN (bel_drewN (Below.refl _ _) _) _)).set1 _ | exact(T1.out.set1 _).bel2 (bel_drewN (bel_drewN (bel_drewN (Below.refl _ _) _) _) _) | exact(T1.out.bel2 (bel_drewN (bel_drewN (bel_drewN (Below.refl _ _) _) _) _)).set1 _
 ·have hI: ¬(i:Int)<(cs.length:Int):=by omega
  go_wp2
  go_quiet (fail)
  go_wp2
  refine bodyPost_ret (v:= .int .i64 y) (by simp[results,Tryz.results224,go_sem]) rfl ⟨y,rfl,⟨y0,y1⟩,?_,?_⟩
  ·refine⟨by simp[go_sem,d0],⟨i,hi,by simp[go_sem,d1]⟩,⟨x1,by simp[go_sem,d2]⟩,fun j=>by simp[go_sem,df],?_,hlen,HBY.out,HATW.out _ ?_⟩
   ·have:=HS1.out;simp;omega
   ·exact T1.out.bel2 (bel_drewN (bel_drewN (Below.refl _ _) _) _)
  ·exact T1.out.bel2 (bel_drewN (bel_drewN (Below.refl _ _) _) _)
set_option maxHeartbeats 1000000 in
theorem l1Below_any (p:Nat) (A:Option Addr) (cap:Nat) (cs:List Int) (n:Int) (w:World) (h:Cur p A cap cs w) (hn0:0<n) (hn:n≤256):
  Calls Tryz.prog 184 #[.pointer (some ⟨p,0,none⟩), .int .i64 n] w fun e w'=> ∃x:Int,e= .returned (.int .i64 x)∧(0≤x∧x<n)∧Cur p A cap cs w'∧Tr p (p+1) w w':=by
 have H:=hDD h
 have h1: ¬n≤0:=by omega
 have h2: ¬n=0:=by omega
 clear h
 go_enter Tryz.func184,Tryz.ntmps184
 go_wp2_with (go_at_call 224;(with_reducible refine(l1Byte_any p A cap cs _ H.out).mono ?_);rintro e w1 ⟨y,rfl,⟨y0,y1⟩,c1,t1⟩;have C1:=hDD c1;have T1:=hDD t1;clear c1 t1)
 exact bodyPost_ret (v:= .int .i64 (y%n)) (by simp[results,Tryz.results184,go_sem]) rfl ⟨y%n,rfl,⟨Int.emod_nonneg _ h2,Int.emod_lt_of_pos _ hn0⟩,C1.out,T1.out⟩
theorem l1Once_any (p:Nat) (A:Option Addr) (cap:Nat) (cs:List Int) (n:Int) (w:World) (h:Cur p A cap cs w) (hn0:0<n) (hn:n≤256):
  Calls Tryz.prog 134 #[.pointer (some ⟨p,0,none⟩), .int .i64 n] w fun e w'=> ∃x:Bool,e= .returned (.bool x)∧Cur p A cap cs w'∧Tr p (p+1) w w':=by
 have H:=hDD h
 clear h
 go_enter Tryz.func134,Tryz.ntmps134
 go_wp2_with (go_at_call 184;(with_reducible refine(l1Below_any p A cap cs n _ H.out hn0 hn).mono ?_);rintro e w1 ⟨y,rfl,_,c1,t1⟩;have C1:=hDD c1;have T1:=hDD t1;clear c1 t1)
 exact bodyPost_ret (v:= .bool (y==0)) (by simp[results,Tryz.results134,go_sem]) rfl ⟨_,rfl,C1.out,T1.out⟩
set_option maxHeartbeats 1000000 in
theorem l1PickInt_any (p:Nat) (A:Option Addr) (cap:Nat) (cs:List Int) (v:Value) (L:List Int) (w:World) (h:Cur p A cap cs w) (hL:RdI w v L) (hv:v.ownBlock≠some p) (hn0:0<L.length) (hn:L.length≤256):
  Calls Tryz.prog 196 #[.pointer (some ⟨p,0,none⟩),v] w fun e w'=> ∃x:Int,e= .returned (.int .i64 x)∧x∈L∧Cur p A cap cs w'∧Tr p (p+1) w w':=by
 have H:=hDD h
 have HL:=hDD hL
 obtain⟨A1,c1,rfl,_⟩:=hL.arg
 have hv': ∀b off,A1=some ⟨b,off,none⟩→b≠p:=fun b off e hb=>by subst e;subst hb;exact hv rfl
 have HV:=hDD hv'
 clear h hL hv hv'
 go_enter Tryz.func196,Tryz.ntmps196
 go_wp2_with fail
 refine(l1Below_any p A cap cs L.length _ H.out (by omega) (by omega)).mono ?_
 rintro e w1 ⟨y,rfl,⟨y0,y1⟩,c1',t1⟩
 have C1:=hDD c1'
 have T1:=hDD t1
 have HR1:Hid (RdI w1 (.slice A1 L.length c1) L):=hDD ⟨HL.out.1.mono fun b hb hlt=>t1.block b hlt (by
  cases A1 with
  | none=>cases hb
  | some a=>
    obtain⟨b',o',s'⟩:=a
    have:b'=b:=by simpa[Value.ownBlock] using hb
    subst this
    obtain⟨_,_,hA,_⟩:=HL.out.at hn0
    injection hA with hA
    injection hA with _ _ hs
    subst hs
    have:=HV.out b' o' rfl
    omega),HL.out.2⟩
 clear c1' t1
 obtain⟨k,rfl⟩: ∃k:Nat,y=k:=⟨y.toNat,by omega⟩
 have hk:k<L.length:=by omega
 obtain⟨b,off,rfl,hbl,hc⟩:=HR1.out.at hn0
 have hcell:=hc k hk
 have HM:=hDD (List.getElem_mem hk)
 clear hc
 generalize L[k]=z at*
 go_wp2
 exact bodyPost_ret (v:= .int .i64 z) (by simp[results,Tryz.results196,go_sem]) rfl ⟨z,rfl,HM.out,C1.out,T1.out⟩
theorem OwI.any2 {w:World} {base:Nat} {v:Value} {xs:List Int} (h:OwI w base v xs): ∃A m cap,v= .slice A m cap:=by
 obtain⟨A,cap,hv,_⟩:=h.form
 exact⟨A,_,cap,hv⟩
theorem lt_cell {w:World} {b o:Nat} {v:Value} (h:w.cell? ⟨b,o,none⟩=some v):b<w.heap.size:=by
 rcases Nat.lt_or_ge b w.heap.size with h' | h'
 ·exact h'
 ·simp[World.cell?,Array.getElem?_eq_none h'] at h
set_option maxHeartbeats 1000000 in
theorem l1New_any (v:Value) (cs:List Int) (w:World) (h:ArgC w v cs) (hl:cs.length≤1048576):
  Calls Tryz.prog 92 #[v] w fun e w'=> ∃p A cap,e= .returned (.pointer (some ⟨p,0,none⟩))∧Cur p A cap cs w'∧w.heap.size≤p∧Below w.heap.size w w':=by
 obtain⟨A,cap,rfl,hcap,hm,hby,hat⟩:=h
 have HBY:=hDD hby
 have HAT:=hDD hat
 unfold maxLen at hm
 clear hby hat
 go_enter Tryz.func92,Tryz.ntmps92
 go_wp2
 go_loop [3,4] (fun hv i=> ∃(k:Nat) (x:Int),k≤cs.length∧i= .int .i64 k∧hv= .int .i64 x) (fun _ i=>cs.length-(intOf i).toNat)
 case atStart=>exact⟨0,_,Nat.zero_le _,rfl,rfl⟩
 case round=>
  obtain⟨k,x,hk,rfl,rfl⟩:=hrel
  by_cases hlt:k<cs.length
  ·rcases h4:decide ((k:Int)<4000) with _ | _
   ·have h4': ¬(k:Int)<4000:=of_decide_eq_false h4
    clear h4
    go_wp2
    refine bodyPost_ret (v:= .pointer (some ⟨w.heap.size,0,none⟩)) (by simp[results,Tryz.results92,go_sem]) rfl ⟨w.heap.size,rfl,⟨A,cap,?_⟩,Nat.le_refl _,(Below.refl _ _).alloc (Nat.le_refl _) _⟩
    refine⟨by simp[go_sem],⟨0,Nat.zero_le _,by simp[go_sem]⟩,⟨x,by simp[go_sem]⟩,fun j=>by simp[go_sem],by simp,hl,HBY.out,fun h0=> ?_⟩
    obtain⟨b,off,hA,hc⟩:=HAT.out h0
    have hb:b<w.heap.size:=lt_cell (hc 0 h0)
    exact⟨b,off,hA,by omega,by simp;omega,fun i hi=>(World.cell?_alloc_past _ _ _ hb).trans (hc i hi)⟩
   ·obtain⟨b,off,rfl,hc⟩:=HAT.out (by omega)
    have hcell:=hc k hlt
    have hz:=HBY.out _ (List.getElem_mem hlt)
    generalize cs[k]=z at*
    have hcv:IntKind.i64.wrap z=z:=by rw[IntKind.wrap_i64];omega
    clear hc
    go_wp2
    go_round
    case rel=>exact⟨k+1,_,by omega,by go_num,rfl⟩
    case measure=>(simp[intOf];omega)
  ·obtain rfl:k=cs.length:=by omega
   go_wp2
   refine bodyPost_ret (v:= .pointer (some ⟨w.heap.size,0,none⟩)) (by simp[results,Tryz.results92,go_sem]) rfl ⟨w.heap.size,rfl,⟨A,cap,?_⟩,Nat.le_refl _,(Below.refl _ _).alloc (Nat.le_refl _) _⟩
   refine⟨by simp[go_sem],⟨0,Nat.zero_le _,by simp[go_sem]⟩,⟨x,by simp[go_sem]⟩,fun j=>by simp[go_sem],by simp,hl,HBY.out,fun h0=> ?_⟩
   obtain⟨b,off,hA,hc⟩:=HAT.out h0
   have hb:b<w.heap.size:=lt_cell (hc 0 h0)
   exact⟨b,off,hA,by omega,by simp;omega,fun i hi=>(World.cell?_alloc_past _ _ _ hb).trans (hc i hi)⟩
end Go.Proofs.YtnjpoljbagfdnaaGreat
namespace Go.Proofs.YtnjpoljbagfdnaaGreat
set_option maxRecDepth 20000
set_option linter.unusedVariables false
set_option linter.unusedSimpArgs false
open Go.RowKit
abbrev EdD:=Int×Int×Int
abbrev GrD:=Int×Int×List EdD
def edC (e:EdD):List Value:= [.int .i64 e.1, .int .i64 e.2.1, .int .i64 e.2.2]
def edCs (es:List EdD):List Value:=(es.map edC).flatten
def E64 (e:EdD):Prop:=I64 e.1∧I64 e.2.1∧I64 e.2.2
abbrev E64s (es:List EdD):Prop:= ∀e∈es,E64 e
theorem E64s_nil:E64s []:=fun _ h=>by cases h
theorem E64s_append {a b:List EdD} (ha:E64s a) (hb:E64s b):E64s (a++b):=fun e he=>by
 rcases List.mem_append.1 he with he | he
 ·exact ha e he
 ·exact hb e he
theorem E64s_one {e:EdD} (h:E64 e):E64s [e]:=fun x hx=>by simp at hx;subst hx;exact h
theorem edCs_cons (e:EdD) (es:List EdD):edCs (e::es)=edC e++edCs es:=by simp[edCs]
theorem edCs_append (a b:List EdD):edCs (a++b)=edCs a++edCs b:=by simp[edCs]
theorem edCs_length (es:List EdD):(edCs es).length=es.length*3:=by
 induction es with
 | nil=>rfl
 | cons e es ih=>rw[edCs_cons];simp[edC,ih];omega
theorem edCs_get (es:List EdD) (k j:Nat) (hk:k<es.length) (hj:j<3):(edCs es)[k*3+j]? =(edC es[k])[j]? :=by
 induction es generalizing k with
 | nil=>cases hk
 | cons e es ih=>
   rw[edCs_cons]
   match k with
   | 0=>rw[List.getElem?_append_left (by simp[edC];omega)];simp
   | k+1=>
     rw[List.getElem?_append_right (by simp[edC];omega)]
     have:(k+1)*3+j-(edC e).length=k*3+j:=by simp[edC];omega
     rw[this,ih k (by simpa using hk)]
     rfl
theorem edCs_one {es:List EdD} {v:Value} (h:v∈edCs es):v.oneCell'=true:=by
 unfold edCs at h
 obtain⟨l,hl,hv⟩:=List.mem_flatten.1 h
 obtain⟨e,_,rfl⟩:=List.mem_map.1 hl
 simp[edC] at hv
 rcases hv with rfl | rfl | rfl<;>rfl
def ArgE (w:World) (v:Value) (es:List EdD):Prop:=
 ∃A cap,v= .slice A es.length cap∧es.length≤cap∧cap≤maxLen∧(A=none→cap=0)∧E64s es∧
  (0<es.length→ ∃b off,A=some ⟨b,off,none⟩∧b<w.heap.size∧ ∀k (hk:k<es.length),w.cell? ⟨b,off+k*3,none⟩=some (.int .i64 es[k].1)∧w.cell? ⟨b,off+k*3+1,none⟩=some (.int .i64 es[k].2.1)∧w.cell? ⟨b,off+k*3+2,none⟩=some (.int .i64 es[k].2.2))
def OwE (w:World) (base:Nat) (v:Value) (es:List EdD):Prop:=w.ownsRow base 97 3 v es.length (edCs es)∧E64s es
def ArgG (w:World) (v:Value) (g:GrD):Prop:= ∃s,v= .agg #[.int .i64 g.1, .int .i64 g.2.1,s]∧I64 g.1∧I64 g.2.1∧ArgE w s g.2.2
def OwG (w:World) (base:Nat) (v:Value) (g:GrD):Prop:= ∃s,v= .agg #[.int .i64 g.1, .int .i64 g.2.1,s]∧I64 g.1∧I64 g.2.1∧OwE w base s g.2.2
section
variable {w w':World} {v:Value} {es:List EdD} {g:GrD} {base:Nat}
theorem ArgE.below (h:ArgE w v es) (hb:Below w.heap.size w w'):ArgE w' v es:=by
 obtain⟨A,cap,hv,hc,hm,hn,hr,hx⟩:=h
 refine⟨A,cap,hv,hc,hm,hn,hr,fun h0=> ?_⟩
 obtain⟨b,off,hA,hlt,hx⟩:=hx h0
 have:=hb.size
 refine⟨b,off,hA,by omega,fun k hk=> ?_⟩
 obtain⟨h1,h2,h3⟩:=hx k hk
 exact⟨(hb.cell (p:=⟨b,_,none⟩) hlt).trans h1,(hb.cell (p:=⟨b,_,none⟩) hlt).trans h2,(hb.cell (p:=⟨b,_,none⟩) hlt).trans h3⟩
theorem ArgE.drew (h:ArgE w v es):ArgE w.drew v es:=h
theorem ArgE.alloc (h:ArgE w v es) (o:Obj):ArgE (w.alloc o) v es:=h.below ((Below.refl _ _).alloc (Nat.le_refl _) _)
theorem ArgE.form (h:ArgE w v es): ∃A cap,v= .slice A es.length cap:=by
 obtain⟨A,cap,hv,_⟩:=h
 exact⟨A,cap,hv⟩
theorem ArgE.at {A:Option Addr} {m cap:Nat} (h:ArgE w (.slice A m cap) es) {k:Nat} (hk:k<es.length):
  ∃b off,A=some ⟨b,off,none⟩∧b<w.heap.size∧w.cell? ⟨b,off+k*3,none⟩=some (.int .i64 es[k].1)∧w.cell? ⟨b,off+k*3+1,none⟩=some (.int .i64 es[k].2.1)∧w.cell? ⟨b,off+k*3+2,none⟩=some (.int .i64 es[k].2.2)∧E64 es[k]:=by
 obtain⟨A',cap',hv,hc,hm,hn,hr,hx⟩:=h
 obtain⟨b,off,hA,hlt,hx⟩:=hx (by omega)
 injection hv with e1 e2 e3
 obtain⟨h1,h2,h3⟩:=hx k hk
 exact⟨b,off,e1.trans hA,hlt,h1,h2,h3,hr _ (by simp)⟩
theorem OwE.arg (h:OwE w base v es):ArgE w v es:=by
 obtain⟨ho,hr⟩:=h
 obtain⟨A,cap,hv,hc,hm,hn,hx⟩:=owns_form ho
 refine⟨A,cap,hv,hc,hm,hn,hr,fun h0=> ?_⟩
 obtain⟨g,hA,hg1,hg2⟩:=hx h0
 subst hv hA
 refine⟨g,0,rfl,hg2,fun k hk=> ?_⟩
 have c:=fun j (hj:j<3)=>ho.cellAt (k*3+j) (by omega)
 have c0:=c 0 (by omega);have c1:=c 1 (by omega);have c2:=c 2 (by omega)
 rw[edCs_get es k _ hk (by omega)] at c0 c1 c2
 simp only[edC,List.getElem?_cons_zero,List.getElem?_cons_succ,Nat.add_zero] at c0 c1 c2
 simp only[Nat.zero_add]
 exact⟨c0,c1,c2⟩
theorem OwE.mono {base':Nat} (h:OwE w base v es) (hb:base'≤base):OwE w base' v es:=by
 refine⟨⟨h.1.1,?_⟩,h.2⟩
 rcases h.1.2 with h0 | ⟨g,cap,cur,hv,hg,r⟩
 ·exact .inl h0
 ·exact .inr ⟨g,cap,cur,hv,Nat.le_trans hb hg,r⟩
theorem OwE.below (h:OwE w base v es) (hb:Below w.heap.size w w'):OwE w' base v es:=⟨ownsRow_below h.1 hb,h.2⟩
theorem OwE.drewN (h:OwE w base v es) (k:Nat):OwE (w.drewN k) base v es:=h
theorem OwE.drew (h:OwE w base v es):OwE w.drew base v es:=h
theorem OwE.alloc (h:OwE w base v es) (o:Obj):OwE (w.alloc o) base v es:=⟨h.1.alloc o,h.2⟩
theorem OwE.far (h:OwE w base v es) {p:Addr} (hp:p.block<base) (u:Value):OwE (w.setCell p u) base v es:=⟨ownsRow_setCell_below h.1 hp u,h.2⟩
theorem OwE.form (h:OwE w base v es): ∃A cap,v= .slice A es.length cap∧es.length≤cap∧cap≤maxLen∧(A=none→cap=0)∧(0<es.length→ ∃g,A=some ⟨g,0,none⟩∧base≤g∧g<w.heap.size):=owns_form h.1
theorem OwE.keep (h:OwE w base v es) (hb: ∀b,v.ownBlock=some b→w'.heap[b]? =w.heap[b]?):OwE w' base v es:=by
 refine⟨⟨h.1.1,?_⟩,h.2⟩
 rcases h.1.2 with h0 | ⟨g,cap,cur,hv,hg,hh,r⟩
 ·exact .inl h0
 ·exact .inr ⟨g,cap,cur,hv,hg,by rw[hb g (by rw[hv];rfl)];exact hh,r⟩
theorem OwE.nil:OwE w base (.slice none 0 0) []:=⟨⟨rfl, .inl ⟨rfl,rfl⟩⟩,E64s_nil⟩
theorem OwE_lit (w:World) {base:Nat} (hb:base≤w.heap.size):OwE (w.alloc (.cells #[] 97)) base (.slice (some ⟨w.heap.size,0,none⟩) 0 0) []:=
 ⟨by have:=World.ownsRow_lit (e:=97) (size:=3) (base:=base) w #[] 0 hb (by unfold maxLen;omega) (by simp);simpa[edCs] using this,E64s_nil⟩
theorem ArgE.cut {A:Option Addr} {m cap k:Nat} (h:ArgE w (.slice A m cap) es) (hk:k≤es.length):ArgE w (.slice (if cap=k then A else A.map (·.add (k*3))) (es.length-k) (cap-k)) (es.drop k):=by
 obtain⟨A',cap',hv,hc,hm,hn,hr,hx⟩:=h
 injection hv with e1 e2 e3
 subst e1 e2 e3
 refine⟨_,_,by rw[List.length_drop],by simp;omega,by omega,?_,fun x hx=>hr x (List.mem_of_mem_drop hx),fun h0=> ?_⟩
 ·split
  ·intro _;omega
  ·intro hA
   cases A with
   | none=>have:=hn rfl;omega
   | some a=>cases hA
 ·simp at h0
  obtain⟨b,off,rfl,hlt,hx⟩:=hx (by omega)
  rw[if_neg (by omega)]
  refine⟨b,off+k*3,by simp[Addr.add_lit],hlt,fun j hj=> ?_⟩
  simp only[List.length_drop] at hj
  have:=hx (k+j) (by omega)
  rw[List.getElem_drop]
  have e:off+k*3+j*3=off+(k+j)*3:=by omega
  rw[e]
  exact this
theorem ArgG.below (h:ArgG w v g) (hb:Below w.heap.size w w'):ArgG w' v g:=by
 obtain⟨s,hv,h1,h2,ha⟩:=h
 exact⟨s,hv,h1,h2,ha.below hb⟩
theorem OwG.arg (h:OwG w base v g):ArgG w v g:=by
 obtain⟨s,hv,h1,h2,ha⟩:=h
 exact⟨s,hv,h1,h2,ha.arg⟩
end
theorem ArgG.inner {w:World} {g:GrD} {a b s:Value} (h:ArgG w (.agg #[a,b,s]) g): ∃A cap,s= .slice A g.2.2.length cap∧ArgE w (.slice A g.2.2.length cap) g.2.2∧I64 g.1∧I64 g.2.1:=by
 obtain⟨s',hv,h1,h2,ha⟩:=h
 obtain rfl:s=s':=by injection hv with e;simp at e;exact e.2.2
 obtain⟨A,cap,rfl⟩:=ha.form
 exact⟨A,cap,rfl,ha,h1,h2⟩
theorem edge_info:(Tryz.prog.info? 97).map (fun i=>(i.zero,i.size,i.bytes))=some (some (.agg #[.int .i64 0, .int .i64 0, .int .i64 0]),3,24):=by kernel_rfl
theorem edCs_set (es:List EdD) (k:Nat) (hk:k<es.length) (x y z:Int):(((edCs es).set (k*3) (.int .i64 x)).set (k*3+1) (.int .i64 y)).set (k*3+2) (.int .i64 z)=edCs (es.set k (x,y,z)):=by
 induction es generalizing k with
 | nil=>cases hk
 | cons e es ih=>
   match k with
   | 0=>simp[edCs_cons,edC]
   | k+1=>
     have h3:(edC e).length=3:=rfl
     rw[List.set_cons_succ,edCs_cons,edCs_cons,←ih k (by simpa using hk)]
     rw[List.set_append_right _ _ (by rw[h3];omega),List.set_append_right _ _ (by rw[h3];omega),List.set_append_right _ _ (by rw[h3];omega),h3]
     congr 2
     ·congr 1
      ·congr 1;omega
      ·omega
     ·omega
theorem OwE.set {w:World} {base n g cap:Nat} {es:List EdD} (h:OwE w base (.slice (some ⟨g,0,none⟩) n cap) es) (k:Nat) (hk:k<es.length) {x y z:Int} (hx:I64 x) (hy:I64 y) (hz:I64 z):
  OwE (((w.setCell ⟨g,k*3,none⟩ (.int .i64 x)).setCell ⟨g,k*3+1,none⟩ (.int .i64 y)).setCell ⟨g,k*3+2,none⟩ (.int .i64 z)) base (.slice (some ⟨g,0,none⟩) n cap) (es.set k (x,y,z))∧
  w.grownBy (((w.setCell ⟨g,k*3,none⟩ (.int .i64 x)).setCell ⟨g,k*3+1,none⟩ (.int .i64 y)).setCell ⟨g,k*3+2,none⟩ (.int .i64 z)) (some g):=by
 have hn:n=es.length:=by
  rcases h.1.2 with ⟨hv,_⟩ | ⟨g',cap',cur,hv,_⟩
  ·cases hv
  ·injection hv
 subst hn
 obtain⟨h1,g1⟩:=h.1.stored (k*3) (.int .i64 x)
 obtain⟨h2,g2⟩:=h1.stored (k*3+1) (.int .i64 y)
 obtain⟨h3,g3⟩:=h2.stored (k*3+2) (.int .i64 z)
 refine⟨⟨?_,fun e he=> ?_⟩,(g1.trans g2).trans g3⟩
 ·rw[edCs_set es k hk] at h3
  rw[List.length_set]
  exact h3
 ·rcases List.mem_or_eq_of_mem_set he with he | rfl
  ·exact h.2 e he
  ·exact⟨hx,hy,hz⟩
theorem OwE.cellAt {w:World} {base n g cap:Nat} {es:List EdD} (h:OwE w base (.slice (some ⟨g,0,none⟩) n cap) es) (k:Nat) (hk:k<es.length):
  w.cell? ⟨g,k*3,none⟩=some (.int .i64 es[k].1)∧w.cell? ⟨g,k*3+1,none⟩=some (.int .i64 es[k].2.1)∧w.cell? ⟨g,k*3+2,none⟩=some (.int .i64 es[k].2.2):=by
 obtain⟨b,off,hA,_,c0,c1,c2,_⟩:=h.arg.at hk
 injection hA with e
 injection e with e1 e2
 subst e1 e2
 rw[Nat.zero_add] at c0 c1 c2
 exact⟨c0,c1,c2⟩
theorem OwE.free {w:World} {base n g cap:Nat} {es:List EdD} (h:OwE w base (.slice (some ⟨g,0,none⟩) n cap) es) (j:Nat):w.frozen? ⟨g,j,none⟩=false:=by
 have hn:n=es.length:=by
  rcases h.1.2 with ⟨hv,_⟩ | ⟨g',cap',cur,hv,_⟩
  ·cases hv
  ·injection hv
 subst hn
 exact h.1.frozenAt j
end Go.Proofs.YtnjpoljbagfdnaaGreat
namespace Go.Proofs.YtnjpoljbagfdnaaGreat
set_option maxRecDepth 20000
set_option linter.unusedVariables false
set_option linter.unusedSimpArgs false
open Go.RowKit
def cmpI (a b:Int):Int:=if a<b then-1 else if b<a then 1 else 0
def rk (x:Int):Int:=if x<0 then wrap64 (wrap64 (-2*x)-1) else wrap64 (wrap64 (2*x)-2)
set_option maxHeartbeats 400000 in
theorem compareInts_any (a b:Int) (w:World):
  Calls Tryz.prog 237 #[.int .i64 a, .int .i64 b] w fun e w'=>e= .returned (.int .i64 (cmpI a b))∧w=w':=by
 rcases Int.lt_trichotomy a b with h | h | h
 ·go_enter Tryz.func237,Tryz.ntmps237
  go_wp2
  go_ret
  exact⟨ret_int (by unfold cmpI;rw[if_pos h]),rfl⟩
 ·subst h
  go_enter Tryz.func237,Tryz.ntmps237
  go_wp2
  go_ret
  exact⟨ret_int (by unfold cmpI;simp),rfl⟩
 ·have h': ¬a<b:=by omega
  go_enter Tryz.func237,Tryz.ntmps237
  go_wp2
  go_ret
  exact⟨ret_int (by unfold cmpI;rw[if_neg (by omega),if_pos h]),rfl⟩
end Go.Proofs.YtnjpoljbagfdnaaGreat
namespace Go.Proofs.YtnjpoljbagfdnaaGreat
set_option maxRecDepth 20000
set_option linter.unusedVariables false
set_option linter.unusedSimpArgs false
open Go.RowKit
def edV (e:EdD):Value:= .agg #[.int .i64 e.1, .int .i64 e.2.1, .int .i64 e.2.2]
theorem edge_eqIn (a b:EdD) (w:World):(Op.equalIn 10000 97 (edV a) (edV b)).run Tryz.prog w= .ok (decide (a=b)) w:=by
 have u3:=Tryz.underlying3
 have a3:=Tryz.isAgg3
 have z3:=Tryz.sizeOf3
 have hS:Tryz.prog.underlying 97=some (.struct (Tryz.prog.fieldsOf 97)):=by kernel_rfl
 have hp:Tryz.prog.stoodInHeld 97=false:=by kernel_rfl
 obtain⟨x,y,z⟩:=a
 obtain⟨x',y',z'⟩:=b
 simp only[edV]
 rw[show(10000:Nat)=9999+1 from rfl,run_equalIn_agg w 9999 97 _ _ hS hp]
 simp only[Program.fieldsOf,Tryz.underlying97]
 go_simp
 by_cases h1:x=x'<;>by_cases h2:y=y'<;>by_cases h3:z=z'<;>simp[h1,h2,h3]
theorem edge_neq (a b:EdD) (w:World):(binOp .neq 97 (edV a) (edV b)).run Tryz.prog w= .ok (.bool (!decide (a=b))) w:=by
 have:=edge_eqIn a b w
 unfold edV at this⊢
 rw[run_neq_struct,this]
 rfl
theorem edge_eql (a b:EdD) (w:World):(binOp .eql 97 (edV a) (edV b)).run Tryz.prog w= .ok (.bool (decide (a=b))) w:=by
 have:=edge_eqIn a b w
 unfold edV at this⊢
 rw[run_eql_struct,this]
 rfl
theorem edge_guard:Tryz.prog.eqGuardType Tryz.prog.depth 97=false:=by kernel_rfl
set_option maxHeartbeats 1000000 in
theorem specEqualGraphs_any (v u:Value) (d d':GrD) (w:World) (h:ArgG w v d) (h':ArgG w u d'):
  Calls Tryz.prog 47 #[v,u] w fun e w'=>e= .returned (.bool (decide (d=d')))∧Below w.heap.size w w':=by
 obtain⟨s,rfl,_,_,ha⟩:=h
 obtain⟨s',rfl,_,_,ha'⟩:=h'
 obtain⟨x,y,es⟩:=d
 obtain⟨x',y',es'⟩:=d'
 have H:=hDD ha
 have H':=hDD ha'
 obtain⟨A,cap,rfl,hcap,hm,_⟩:=ha
 obtain⟨A',cap',rfl,hcap',hm',_⟩:=ha'
 unfold maxLen at hm hm'
 rcases e1:(x != x') with _ | _
 ·rcases e2:(y != y') with _ | _
  ·by_cases hne:es.length=es'.length
   ·have F:Hid (decide ((x,y,es)=(x',y',es'))=decide (es=es')):=hDD (by simp at e1 e2;simp[e1,e2])
    have hd:((es.length:Int) != (es'.length:Int))=false:=by simp[hne]
    have HNE:=hDD hne
    clear hne
    go_enter Tryz.func47,Tryz.ntmps47
    go_wp2
    have hb:Below w.heap.size w ((w.alloc (Obj.cells #[Value.int IntKind.i64 x,Value.int IntKind.i64 y, .slice A es.length cap] 26)).alloc (Obj.cells #[Value.int IntKind.i64 x',Value.int IntKind.i64 y', .slice A' es'.length cap'] 26)):=(by repeat(first | exact Below.refl _ _ | (refine Below.setCell ?_ (by first | omega | (simp<;>omega)) _) | (refine bel_drewN ?_ _) | (refine Below.drew ?_) | (refine Below.alloc ?_ (by first | omega | (simp<;>omega)) _)))
    have q0:((w.alloc (Obj.cells #[Value.int IntKind.i64 x,Value.int IntKind.i64 y, .slice A es.length cap] 26)).alloc (Obj.cells #[Value.int IntKind.i64 x',Value.int IntKind.i64 y', .slice A' es'.length cap'] 26)).cell? ⟨w.heap.size,2,none⟩=some (.slice A es.length cap):=by simp[go_sem]
    have q1:((w.alloc (Obj.cells #[Value.int IntKind.i64 x,Value.int IntKind.i64 y, .slice A es.length cap] 26)).alloc (Obj.cells #[Value.int IntKind.i64 x',Value.int IntKind.i64 y', .slice A' es'.length cap'] 26)).cell? ⟨w.heap.size+1,2,none⟩=some (.slice A' es'.length cap'):=by simp[go_sem]
    generalize (w.alloc (Obj.cells #[Value.int IntKind.i64 x,Value.int IntKind.i64 y, .slice A es.length cap] 26)).alloc (Obj.cells #[Value.int IntKind.i64 x',Value.int IntKind.i64 y', .slice A' es'.length cap'] 26)=w2 at hb q0 q1⊢
    have HB:=hDD hb
    clear hb
    go_loopw [5] (fun i wr=> ∃k:Nat,k≤es.length∧i= .int .i64 k∧es.take k=es'.take k∧ ∃n,wr=w2.drewN n) (fun i _=>es.length-(intOf i).toNat)
    case atStart=>exact⟨0,Nat.zero_le _,rfl,by simp,0,rfl⟩
    case round=>
     obtain⟨k,hk,rfl,heq,n,rfl⟩:=hrel
     have HEQ:=hDD heq
     clear heq
     by_cases hlt:k<es.length
     ·have hlt':k<es'.length:=by have:=HNE.out;omega
      obtain⟨g,off,rfl,hg,c0,c1,c2,_⟩:=(H.out.below HB.out).at hlt
      obtain⟨g',off',rfl,hg',c0',c1',c2',_⟩:=(H'.out.below HB.out).at hlt'
      have HQ:Hid (es.take (k+1)=es'.take (k+1)↔es[k]=es'[k]):=hDD ⟨fun e=>by
       have:=congrArg (fun l=>l[k]?) e
       simpa[hlt,hlt'] using this,fun e=>take_eq_succ HEQ.out hlt hlt' e⟩
      have HN:Hid (es[k]≠es'[k]→es≠es'):=hDD (fun e1 e2=>by subst e2;exact e1 rfl)
      generalize es[k]=d at*
      generalize es'[k]=d' at*
      have hneq:=fun w=>edge_neq d d' w
      have hgd:=edge_guard
      unfold edV at hneq
      rcases e3:decide (d=d') with _ | _
      ·rw[e3] at hneq
       go_wp2
       go_quiet (fail)
       go_wp2
       go_ret
       exact⟨ret_bool (by rw[F.out];symm;rw[decide_eq_false_iff_not];exact HN.out (by simpa using e3)),bel_drewN (bel_drewN HB.out _) _⟩
      ·rw[e3] at hneq
       go_wp2
       go_quiet (fail)
       go_wp2
       go_roundw
       case rel=>exact⟨k+1,by omega,by go_num,HQ.out.2 (by simpa using e3),_,rfl⟩
       case measure=>simp[intOf];omega
     ·obtain rfl:k=es.length:=by omega
      go_wp2
      go_ret
      refine⟨ret_bool ?_,bel_drewN HB.out _⟩
      have h1:=HEQ.out
      rw[List.take_length,HNE.out,List.take_length] at h1
      rw[F.out]
      simp[h1]
   ·have hd:((es.length:Int) != (es'.length:Int))=true:=by simp;omega
    go_enter Tryz.func47,Tryz.ntmps47
    go_wp2
    go_ret
    have F:es≠es':=fun e=>hne (by rw[e])
    exact⟨ret_bool (by simp[F]),(by repeat(first | exact Below.refl _ _ | (refine Below.setCell ?_ (by first | omega | (simp<;>omega)) _) | (refine bel_drewN ?_ _) | (refine Below.drew ?_) | (refine Below.alloc ?_ (by first | omega | (simp<;>omega)) _)))⟩
  ·go_enter Tryz.func47,Tryz.ntmps47
   go_wp2
   go_ret
   exact⟨ret_bool (by simp at e2;simp[e2]),(by repeat(first | exact Below.refl _ _ | (refine Below.setCell ?_ (by first | omega | (simp<;>omega)) _) | (refine bel_drewN ?_ _) | (refine Below.drew ?_) | (refine Below.alloc ?_ (by first | omega | (simp<;>omega)) _)))⟩
 ·go_enter Tryz.func47,Tryz.ntmps47
  go_wp2
  go_ret
  exact⟨ret_bool (by simp at e1;simp[e1]),(by repeat(first | exact Below.refl _ _ | (refine Below.setCell ?_ (by first | omega | (simp<;>omega)) _) | (refine bel_drewN ?_ _) | (refine Below.drew ?_) | (refine Below.alloc ?_ (by first | omega | (simp<;>omega)) _)))⟩
set_option maxHeartbeats 1000000 in
theorem slicesEqualE_any (v u:Value) (es es':List EdD) (w:World) (h:ArgE w v es) (h':ArgE w u es'):
  Calls Tryz.prog 193 #[v,u] w fun e w'=>e= .returned (.bool (decide (es=es')))∧ ∃n,w'=w.drewN n:=by
 have H:=hDD h
 have H':=hDD h'
 obtain⟨A,cap,rfl,hcap,hm,_⟩:=h
 obtain⟨A',cap',rfl,hcap',hm',_⟩:=h'
 unfold maxLen at hm hm'
 by_cases hne:es.length=es'.length
 ·have hd:((es.length:Int) != (es'.length:Int))=false:=by simp[hne]
  have HNE:=hDD hne
  clear hne
  go_enter Tryz.func193,Tryz.ntmps193
  go_wp2
  go_loopw [13] (fun i wr=> ∃k:Nat,k≤es.length∧i= .int .i64 k∧es.take k=es'.take k∧ ∃n,wr=w.drewN n) (fun i _=>es.length-(intOf i).toNat)
  case atStart=>exact⟨0,Nat.zero_le _,rfl,by simp,0,rfl⟩
  case round=>
   obtain⟨k,hk,rfl,heq,n,rfl⟩:=hrel
   have HEQ:=hDD heq
   clear heq
   by_cases hlt:k<es.length
   ·have hlt':k<es'.length:=by have:=HNE.out;omega
    obtain⟨g,off,rfl,hg,c0,c1,c2,_⟩:=H.out.at hlt
    obtain⟨g',off',rfl,hg',c0',c1',c2',_⟩:=H'.out.at hlt'
    have HQ:Hid (es.take (k+1)=es'.take (k+1)↔es[k]=es'[k]):=hDD ⟨fun e=>by
     have:=congrArg (fun l=>l[k]?) e
     simpa[hlt,hlt'] using this,fun e=>take_eq_succ HEQ.out hlt hlt' e⟩
    have HN:Hid (es[k]≠es'[k]→es≠es'):=hDD (fun e1 e2=>by subst e2;exact e1 rfl)
    generalize es[k]=d at*
    generalize es'[k]=d' at*
    have hneq:=fun w=>edge_neq d d' w
    have hgd:=edge_guard
    unfold edV at hneq
    rcases e3:decide (d=d') with _ | _
    ·rw[e3] at hneq
     go_wp2
     go_quiet (fail)
     go_wp2
     go_ret
     exact⟨ret_bool (by symm;rw[decide_eq_false_iff_not];exact HN.out (by simpa using e3)),_,World.drewN_drewN _ _ _⟩
    ·rw[e3] at hneq
     go_wp2
     go_quiet (fail)
     go_wp2
     go_roundw
     case rel=>exact⟨k+1,by omega,by go_num,HQ.out.2 (by simpa using e3),_,rfl⟩
     case measure=>simp[intOf];omega
   ·obtain rfl:k=es.length:=by omega
    go_wp2
    go_ret
    refine⟨ret_bool ?_,n,rfl⟩
    have h1:=HEQ.out
    rw[List.take_length,HNE.out,List.take_length] at h1
    simp[h1]
 ·have hd:((es.length:Int) != (es'.length:Int))=true:=by simp;omega
  go_enter Tryz.func193,Tryz.ntmps193
  go_wp2
  go_ret
  exact⟨ret_bool (by symm;rw[decide_eq_false_iff_not];rintro rfl;exact hne rfl),0,rfl⟩
set_option maxHeartbeats 1000000 in
theorem implEqualGraphs_any (v u:Value) (d d':GrD) (w:World) (h:ArgG w v d) (h':ArgG w u d'):
  Calls Tryz.prog 127 #[v,u] w fun e w'=>e= .returned (.bool (decide (d=d')))∧Below w.heap.size w w':=by
 obtain⟨s,rfl,_,_,ha⟩:=h
 obtain⟨s',rfl,_,_,ha'⟩:=h'
 obtain⟨x,y,es⟩:=d
 obtain⟨x',y',es'⟩:=d'
 have H:=hDD ha
 have H':=hDD ha'
 clear ha ha'
 rcases e1:(x==x') with _ | _
 ·go_enter Tryz.func127,Tryz.ntmps127
  go_wp2
  go_ret
  exact⟨ret_bool (by simp at e1;simp[e1]),(by repeat(first | exact Below.refl _ _ | (refine Below.setCell ?_ (by first | omega | (simp<;>omega)) _) | (refine bel_drewN ?_ _) | (refine Below.drew ?_) | (refine Below.alloc ?_ (by first | omega | (simp<;>omega)) _)))⟩
 ·rcases e2:(y==y') with _ | _
  ·go_enter Tryz.func127,Tryz.ntmps127
   go_wp2
   go_ret
   exact⟨ret_bool (by simp at e2;simp[e2]),(by repeat(first | exact Below.refl _ _ | (refine Below.setCell ?_ (by first | omega | (simp<;>omega)) _) | (refine bel_drewN ?_ _) | (refine Below.drew ?_) | (refine Below.alloc ?_ (by first | omega | (simp<;>omega)) _)))⟩
  ·have F:Hid (decide ((x,y,es)=(x',y',es'))=decide (es=es')):=hDD (by simp at e1 e2;simp[e1,e2])
   go_enter Tryz.func127,Tryz.ntmps127
   go_wp2_with fail
   have hb:Below w.heap.size w ((w.alloc (Obj.cells #[Value.int IntKind.i64 x,Value.int IntKind.i64 y,s] 26)).alloc (Obj.cells #[Value.int IntKind.i64 x',Value.int IntKind.i64 y',s'] 26)):=(by repeat(first | exact Below.refl _ _ | (refine Below.setCell ?_ (by first | omega | (simp<;>omega)) _) | (refine bel_drewN ?_ _) | (refine Below.drew ?_) | (refine Below.alloc ?_ (by first | omega | (simp<;>omega)) _)))
   refine(slicesEqualE_any _ _ es es' _ (H.out.below hb) (H'.out.below hb)).mono ?_
   rintro e w1 ⟨rfl,n,rfl⟩
   have HB:=hDD hb
   clear hb
   go_wp2
   go_ret
   exact⟨ret_bool F.out.symm,bel_drewN HB.out _⟩
def cmpE (a b:EdD):Int:=if cmpI a.1 b.1≠0 then cmpI a.1 b.1 else if cmpI a.2.1 b.2.1≠0 then cmpI a.2.1 b.2.1 else cmpI a.2.2 b.2.2
theorem cmpI_zero {a b:Int}:cmpI a b=0↔a=b:=by
 unfold cmpI;split
 ·constructor
  ·intro h;cases h
  ·omega
 ·split
  ·constructor
   ·intro h;cases h
   ·omega
  ·constructor
   ·omega
   ·intro _;rfl
def nth3 (x y z:Int):Nat→Int
 | 0=>x
 | 1=>y
 | _=>z
theorem cmpE_first (x y z x' y' z':Int) (k:Nat) (hk:k<3) (h: ∀j,j<k→nth3 x y z j=nth3 x' y' z' j):(nth3 x y z k<nth3 x' y' z' k→cmpE (x,y,z) (x',y',z')= -1)∧(nth3 x' y' z' k<nth3 x y z k→cmpE (x,y,z) (x',y',z')=1):=by
 match k,hk with
 | 0,_=>
   simp only[nth3]
   refine⟨fun h=> ?_,fun h=> ?_⟩
   ·have:cmpI x x'= -1:=by unfold cmpI;rw[if_pos h]
    simp[cmpE,this]
   ·have:cmpI x x'=1:=by unfold cmpI;rw[if_neg (by omega),if_pos h]
    simp[cmpE,this]
 | 1,_=>
   have h0:x=x':=h 0 (by omega)
   simp only[nth3]
   refine⟨fun h=> ?_,fun h=> ?_⟩
   ·have:cmpI y y'= -1:=by unfold cmpI;rw[if_pos h]
    simp[cmpE,this,cmpI_zero.2 h0]
   ·have:cmpI y y'=1:=by unfold cmpI;rw[if_neg (by omega),if_pos h]
    simp[cmpE,this,cmpI_zero.2 h0]
 | 2,_=>
   have h0:x=x':=h 0 (by omega)
   have h1:y=y':=h 1 (by omega)
   simp only[nth3]
   refine⟨fun h=> ?_,fun h=> ?_⟩
   ·have:cmpI z z'= -1:=by unfold cmpI;rw[if_pos h]
    simp[cmpE,this,cmpI_zero.2 h0,cmpI_zero.2 h1]
   ·have:cmpI z z'=1:=by unfold cmpI;rw[if_neg (by omega),if_pos h]
    simp[cmpE,this,cmpI_zero.2 h0,cmpI_zero.2 h1]
theorem cmpE_same (x y z x' y' z':Int) (h: ∀j,j<3→nth3 x y z j=nth3 x' y' z' j):cmpE (x,y,z) (x',y',z')=0:=by
 have h0:x=x':=h 0 (by omega)
 have h1:y=y':=h 1 (by omega)
 have h2:z=z':=h 2 (by omega)
 simp[cmpE,cmpI_zero.2 h0,cmpI_zero.2 h1,cmpI_zero.2 h2]
def edgeOk (r n:Int) (e:EdD):Bool:=inB e.1 0 (wrap64 (n-1))&&inB e.2.2 0 (wrap64 (n-1))&&inB e.2.1 1 r
def okE (g:GrD) (k:Nat):Bool:=match g.2.2[k]? with
 | none=>true
 | some e=>edgeOk g.1 g.2.1 e&&(match k with
   | 0=>true
   | j+1=>match g.2.2[j]? with
     | none=>true
     | some d=>decide (cmpE d e<0))
def grB (g:GrD):Bool:=inB g.1 1 3&&inB g.2.1 1 40&&decide (g.2.2.length≤120)&&(List.range g.2.2.length).all (okE g)
theorem grB_false {g:GrD} (k:Nat) (hk:k<g.2.2.length) (h:okE g k=false):grB g=false:=by
 unfold grB
 have:(List.range g.2.2.length).all (okE g)=false:=by
  rw[List.all_eq_false]
  exact⟨k,List.mem_range.2 hk,by simp[h]⟩
 rw[this,Bool.and_false]
theorem grB_eq {g:GrD} (h: ∀k,k<g.2.2.length→okE g k=true):grB g=(inB g.1 1 3&&inB g.2.1 1 40&&decide (g.2.2.length≤120)):=by
 unfold grB
 have:(List.range g.2.2.length).all (okE g)=true:=by
  rw[List.all_eq_true]
  intro k hk
  exact h k (List.mem_range.1 hk)
 rw[this,Bool.and_true]
theorem okE_zero {g:GrD} (h:0<g.2.2.length):okE g 0=edgeOk g.1 g.2.1 g.2.2[0]:=by
 unfold okE
 rw[List.getElem?_eq_getElem h]
 simp
theorem okE_pos {g:GrD} {k:Nat} (h0:0<k) (h:k<g.2.2.length):okE g k=(edgeOk g.1 g.2.1 g.2.2[k]&& !decide (0≤cmpE g.2.2[k-1] g.2.2[k])):=by
 obtain⟨j,rfl⟩: ∃j,k=j+1:=⟨k-1,by omega⟩
 unfold okE
 rw[List.getElem?_eq_getElem h]
 show(edgeOk g.1 g.2.1 _&&(match g.2.2[j]? with | none=>true | some d=>decide (cmpE d g.2.2[j+1]<0)))=_
 rw[List.getElem?_eq_getElem (show j<g.2.2.length by omega)]
 simp only[Nat.add_sub_cancel]
 congr 1
 rw[Bool.eq_iff_iff]
 simp
theorem grB_parts {g:GrD} (h:grB g=true):(1≤g.1∧g.1≤3)∧(1≤g.2.1∧g.2.1≤40)∧g.2.2.length≤120∧ ∀k,k<g.2.2.length→okE g k=true:=by
 unfold grB at h
 simp only[Bool.and_eq_true,decide_eq_true_eq,List.all_eq_true,List.mem_range] at h
 obtain⟨⟨⟨h1,h2⟩,h3⟩,h4⟩:=h
 exact⟨inB_iff.1 h1,inB_iff.1 h2,h3,h4⟩
set_option maxHeartbeats 1000000 in
theorem specCompareEdges_any (a b:EdD) (w:World):
  Calls Tryz.prog 212 #[edV a,edV b] w fun e w'=>e= .returned (.int .i64 (cmpE a b))∧Below w.heap.size w w':=by
 obtain⟨x,y,z⟩:=a
 obtain⟨x',y',z'⟩:=b
 obtain⟨R,hR⟩: ∃R,R=cmpE (x,y,z) (x',y',z'):=⟨_,rfl⟩
 rw[←hR]
 have HR:=hDD hR
 clear hR
 unfold edV
 go_enter Tryz.func212,Tryz.ntmps212
 go_wp2
 have hb:Below w.heap.size w ((((w.alloc (Obj.cells #[Value.int IntKind.i64 x,Value.int IntKind.i64 y,Value.int IntKind.i64 z] 97)).alloc (Obj.cells #[Value.int IntKind.i64 x',Value.int IntKind.i64 y',Value.int IntKind.i64 z'] 97)).alloc (Obj.cells #[Value.int IntKind.i64 x,Value.int IntKind.i64 y,Value.int IntKind.i64 z] 3)).alloc (Obj.cells #[Value.int IntKind.i64 x',Value.int IntKind.i64 y',Value.int IntKind.i64 z'] 3)):=(by repeat(first | exact Below.refl _ _ | (refine Below.setCell ?_ (by first | omega | (simp<;>omega)) _) | (refine bel_drewN ?_ _) | (refine Below.drew ?_) | (refine Below.alloc ?_ (by first | omega | (simp<;>omega)) _)))
 have hc: ∀j,j<3→((((w.alloc (Obj.cells #[Value.int IntKind.i64 x,Value.int IntKind.i64 y,Value.int IntKind.i64 z] 97)).alloc (Obj.cells #[Value.int IntKind.i64 x',Value.int IntKind.i64 y',Value.int IntKind.i64 z'] 97)).alloc (Obj.cells #[Value.int IntKind.i64 x,Value.int IntKind.i64 y,Value.int IntKind.i64 z] 3)).alloc (Obj.cells #[Value.int IntKind.i64 x',Value.int IntKind.i64 y',Value.int IntKind.i64 z'] 3)).cell? ⟨w.heap.size+1+1,j,none⟩=some (.int .i64 (nth3 x y z j))∧
   ((((w.alloc (Obj.cells #[Value.int IntKind.i64 x,Value.int IntKind.i64 y,Value.int IntKind.i64 z] 97)).alloc (Obj.cells #[Value.int IntKind.i64 x',Value.int IntKind.i64 y',Value.int IntKind.i64 z'] 97)).alloc (Obj.cells #[Value.int IntKind.i64 x,Value.int IntKind.i64 y,Value.int IntKind.i64 z] 3)).alloc (Obj.cells #[Value.int IntKind.i64 x',Value.int IntKind.i64 y',Value.int IntKind.i64 z'] 3)).cell? ⟨w.heap.size+1+1+1,j,none⟩=some (.int .i64 (nth3 x' y' z' j)):=by
  intro j hj
  match j,hj with
  | 0,_=>simp[go_sem,nth3]
  | 1,_=>simp[go_sem,nth3]
  | 2,_=>simp[go_sem,nth3]
 generalize ((((w.alloc (Obj.cells #[Value.int IntKind.i64 x,Value.int IntKind.i64 y,Value.int IntKind.i64 z] 97)).alloc (Obj.cells #[Value.int IntKind.i64 x',Value.int IntKind.i64 y',Value.int IntKind.i64 z'] 97)).alloc (Obj.cells #[Value.int IntKind.i64 x,Value.int IntKind.i64 y,Value.int IntKind.i64 z] 3)).alloc (Obj.cells #[Value.int IntKind.i64 x',Value.int IntKind.i64 y',Value.int IntKind.i64 z'] 3))=w4 at hb hc⊢
 have HC:=hDD hc
 have HB:=hDD hb
 clear hc hb
 go_loopw [7] (fun i wr=> ∃k:Nat,k≤3∧i= .int .i64 k∧(∀j,j<k→nth3 x y z j=nth3 x' y' z' j)∧ ∃n,wr=w4.drewN n) (fun i _=>3-(intOf i).toNat)
 case atStart=>exact⟨0,Nat.zero_le _,rfl,fun j hj=>absurd hj (by omega),0,rfl⟩
 case round=>
  obtain⟨k,hk,rfl,heq,n,rfl⟩:=hrel
  have HEQ:=hDD heq
  clear heq
  by_cases hlt:k<3
  ·obtain⟨c0,c1⟩:=HC.out k hlt
   have HL:=hDD (cmpE_first x y z x' y' z' k hlt HEQ.out)
   have HN:Hid (nth3 x y z k=nth3 x' y' z' k→ ∀j,j<k+1→nth3 x y z j=nth3 x' y' z' j):=hDD fun F j hj=>by
    rcases Nat.lt_or_eq_of_le (Nat.le_of_lt_succ hj) with hj | rfl
    ·exact HEQ.out j hj
    ·exact F
   generalize nth3 x y z k=p at*
   generalize nth3 x' y' z' k=q at*
   by_cases h1:p<q
   ·go_wp2
    go_quiet (fail)
    go_wp2
    go_ret
    exact⟨ret_int (by rw[HR.out,HL.out.1 h1]),bel_drewN (bel_drewN HB.out _) _⟩
   ·by_cases h2:q<p
    ·go_wp2
     go_quiet (fail)
     go_wp2
     go_quiet (fail)
     go_wp2
     go_ret
     exact⟨ret_int (by rw[HR.out,HL.out.2 h2]),bel_drewN (bel_drewN (bel_drewN HB.out _) _) _⟩
    ·go_wp2
     go_quiet (fail)
     go_wp2
     go_quiet (fail)
     go_wp2
     go_roundw
     case rel=>exact⟨k+1,by omega,by go_num,HN.out (by omega),_,rfl⟩
     case measure=>simp[intOf];omega
  ·obtain rfl:k=3:=by omega
   have F:Hid (R=0):=hDD (by rw[HR.out];exact cmpE_same x y z x' y' z' HEQ.out)
   go_wp2
   go_ret
   exact⟨ret_int F.out.symm,bel_drewN HB.out _⟩
set_option maxHeartbeats 1000000 in
theorem implCompareEdges_any (a b:EdD) (w:World):
  Calls Tryz.prog 218 #[edV a,edV b] w fun e w'=>e= .returned (.int .i64 (cmpE a b))∧Below w.heap.size w w':=by
 obtain⟨x,y,z⟩:=a
 obtain⟨x',y',z'⟩:=b
 unfold edV
 rcases e1:(cmpI x x' != 0) with _ | _
 ·rcases e2:(cmpI y y' != 0) with _ | _
  ·have F:Hid (cmpE (x,y,z) (x',y',z')=cmpI z z'):=hDD (by simp at e1 e2;simp[cmpE,e1,e2])
   go_enter Tryz.func218,Tryz.ntmps218
   go_wp2_with (go_at_call 237;refine(compareInts_any _ _ _).mono ?_;rintro e w' ⟨rfl,rfl⟩)
   go_ret
   exact⟨ret_int F.out.symm,(by repeat(first | exact Below.refl _ _ | (refine Below.setCell ?_ (by first | omega | (simp<;>omega)) _) | (refine bel_drewN ?_ _) | (refine Below.drew ?_) | (refine Below.alloc ?_ (by first | omega | (simp<;>omega)) _)))⟩
  ·have F:Hid (cmpE (x,y,z) (x',y',z')=cmpI y y'):=hDD (by simp at e1 e2;simp[cmpE,e1,e2])
   go_enter Tryz.func218,Tryz.ntmps218
   go_wp2_with (go_at_call 237;refine(compareInts_any _ _ _).mono ?_;rintro e w' ⟨rfl,rfl⟩)
   go_ret
   exact⟨ret_int F.out.symm,(by repeat(first | exact Below.refl _ _ | (refine Below.setCell ?_ (by first | omega | (simp<;>omega)) _) | (refine bel_drewN ?_ _) | (refine Below.drew ?_) | (refine Below.alloc ?_ (by first | omega | (simp<;>omega)) _)))⟩
 ·have F:Hid (cmpE (x,y,z) (x',y',z')=cmpI x x'):=hDD (by simp at e1;simp[cmpE,e1])
  go_enter Tryz.func218,Tryz.ntmps218
  go_wp2_with (go_at_call 237;refine(compareInts_any _ _ _).mono ?_;rintro e w' ⟨rfl,rfl⟩)
  go_ret
  exact⟨ret_int F.out.symm,(by repeat(first | exact Below.refl _ _ | (refine Below.setCell ?_ (by first | omega | (simp<;>omega)) _) | (refine bel_drewN ?_ _) | (refine Below.drew ?_) | (refine Below.alloc ?_ (by first | omega | (simp<;>omega)) _)))⟩
set_option maxHeartbeats 1000000 in
theorem l4Edge_any (r n:Int) (A:Option Addr) (m cap:Nat) (e:EdD) (w:World):
  Calls Tryz.prog 229 #[.agg #[.int .i64 r, .int .i64 n, .slice A m cap],edV e] w fun e' w'=>e'= .returned (.bool (edgeOk r n e))∧Below w.heap.size w w':=by
 obtain⟨x,y,z⟩:=e
 unfold edV
 rcases e1:inB x 0 (wrap64 (n-1)) with _ | _
 ·go_enter Tryz.func229,Tryz.ntmps229
  go_wp2_with (go_at_call 138;refine(l1In_any _ _ _ _).mono ?_;rintro e w' ⟨rfl,rfl⟩)
  go_ret
  exact⟨ret_bool (by simp[edgeOk,e1]),(by repeat(first | exact Below.refl _ _ | (refine Below.setCell ?_ (by first | omega | (simp<;>omega)) _) | (refine bel_drewN ?_ _) | (refine Below.drew ?_) | (refine Below.alloc ?_ (by first | omega | (simp<;>omega)) _)))⟩
 ·rcases e2:inB z 0 (wrap64 (n-1)) with _ | _
  ·go_enter Tryz.func229,Tryz.ntmps229
   go_wp2_with (go_at_call 138;refine(l1In_any _ _ _ _).mono ?_;rintro e w' ⟨rfl,rfl⟩)
   go_ret
   exact⟨ret_bool (by simp[edgeOk,e1,e2]),(by repeat(first | exact Below.refl _ _ | (refine Below.setCell ?_ (by first | omega | (simp<;>omega)) _) | (refine bel_drewN ?_ _) | (refine Below.drew ?_) | (refine Below.alloc ?_ (by first | omega | (simp<;>omega)) _)))⟩
  ·go_enter Tryz.func229,Tryz.ntmps229
   go_wp2_with (go_at_call 138;refine(l1In_any _ _ _ _).mono ?_;rintro e w' ⟨rfl,rfl⟩)
   go_ret
   exact⟨ret_bool (by simp[edgeOk,e1,e2]),(by repeat(first | exact Below.refl _ _ | (refine Below.setCell ?_ (by first | omega | (simp<;>omega)) _) | (refine bel_drewN ?_ _) | (refine Below.drew ?_) | (refine Below.alloc ?_ (by first | omega | (simp<;>omega)) _)))⟩
set_option maxHeartbeats 1000000 in
theorem grHas_any (r n:Int) (A:Option Addr) (m cap:Nat) (x:Int) (w:World):
  Calls Tryz.prog 159 #[.agg #[.int .i64 r, .int .i64 n, .slice A m cap], .int .i64 x] w fun e' w'=>e'= .returned (.bool (inB x 0 (wrap64 (n-1))))∧Below w.heap.size w w':=by
 go_enter Tryz.func159,Tryz.ntmps159
 go_wp2_with (go_at_call 137;refine(within_any _ _ _ _).mono ?_;rintro e w' ⟨rfl,rfl⟩)
 go_ret
 exact⟨rfl,(by repeat(first | exact Below.refl _ _ | (refine Below.setCell ?_ (by first | omega | (simp<;>omega)) _) | (refine bel_drewN ?_ _) | (refine Below.drew ?_) | (refine Below.alloc ?_ (by first | omega | (simp<;>omega)) _)))⟩
set_option maxHeartbeats 1000000 in
theorem accepts_any (r n:Int) (A:Option Addr) (m cap:Nat) (e:EdD) (w:World):
  Calls Tryz.prog 227 #[.agg #[.int .i64 r, .int .i64 n, .slice A m cap],edV e] w fun e' w'=>e'= .returned (.bool (edgeOk r n e))∧Below w.heap.size w w':=by
 obtain⟨x,y,z⟩:=e
 unfold edV
 rcases e1:inB x 0 (wrap64 (n-1)) with _ | _
 ·go_enter Tryz.func227,Tryz.ntmps227
  go_wp2_with fail
  refine(grHas_any _ _ _ _ _ _ _).mono ?_
  rintro e w1 ⟨rfl,b1⟩
  have B1:=hDD b1
  obtain⟨hc,hf⟩:=bcell b1
  have hz:=b1.size
  simp at hz
  clear b1
  rw[e1]
  go_wp2
  go_ret
  exact⟨ret_bool (by simp[edgeOk,e1]),(by repeat(first | exact Below.refl _ _ | (refine Below.setCell ?_ (by first | omega | (simp<;>omega)) _) | (refine bel_drewN ?_ _) | (refine Below.drew ?_) | (refine Below.alloc ?_ (by first | omega | (simp<;>omega)) _) | (refine Below.trans ?_ (Below.mono (Hid.out B1) (by first | omega | (simp<;>omega))))))⟩
 ·go_enter Tryz.func227,Tryz.ntmps227
  go_wp2_with fail
  refine(grHas_any _ _ _ _ _ _ _).mono ?_
  rintro e w1 ⟨rfl,b1⟩
  have B1:=hDD b1
  obtain⟨hc,hf⟩:=bcell b1
  have hz:=b1.size
  simp at hz
  clear b1
  rw[e1]
  go_wp2_with fail
  refine(grHas_any _ _ _ _ _ _ _).mono ?_
  rintro e w2 ⟨rfl,b2⟩
  have B2:=hDD b2
  obtain⟨hc2,hf2⟩:=bcell b2
  have hz2:=b2.size
  have k0:w2.cell? ⟨w.heap.size,0,none⟩=some (.int .i64 r):=by rw[hc2 _ _ (by omega),hc _ _ (by simp;omega)];simp[go_sem]
  have k1:w2.cell? ⟨w.heap.size+1,1,none⟩=some (.int .i64 y):=by rw[hc2 _ _ (by omega),hc _ _ (by simp)];simp[go_sem]
  clear b2 hc hf hc2 hf2
  rcases e2:inB z 0 (wrap64 (n-1)) with _ | _
  ·go_wp2
   go_ret
   exact⟨ret_bool (by simp[edgeOk,e1,e2]),(by repeat(first | exact Below.refl _ _ | (refine Below.setCell ?_ (by first | omega | (simp<;>omega)) _) | (refine bel_drewN ?_ _) | (refine Below.drew ?_) | (refine Below.alloc ?_ (by first | omega | (simp<;>omega)) _) | (refine Below.trans ?_ (Below.mono (Hid.out B2) (by first | omega | (simp<;>omega)))) | (refine Below.trans ?_ (Below.mono (Hid.out B1) (by first | omega | (simp<;>omega))))))⟩
  ·go_wp2_with fail
   refine(within_any _ _ _ _).mono ?_
   rintro e w' ⟨rfl,rfl⟩
   rcases e3:inB y 1 r with _ | _
   ·go_wp2
    go_ret
    exact⟨ret_bool (by simp[edgeOk,e1,e2,e3]),(by repeat(first | exact Below.refl _ _ | (refine Below.setCell ?_ (by first | omega | (simp<;>omega)) _) | (refine bel_drewN ?_ _) | (refine Below.drew ?_) | (refine Below.alloc ?_ (by first | omega | (simp<;>omega)) _) | (refine Below.trans ?_ (Below.mono (Hid.out B2) (by first | omega | (simp<;>omega)))) | (refine Below.trans ?_ (Below.mono (Hid.out B1) (by first | omega | (simp<;>omega))))))⟩
   ·go_wp2
    go_ret
    exact⟨ret_bool (by simp[edgeOk,e1,e2,e3]),(by repeat(first | exact Below.refl _ _ | (refine Below.setCell ?_ (by first | omega | (simp<;>omega)) _) | (refine bel_drewN ?_ _) | (refine Below.drew ?_) | (refine Below.alloc ?_ (by first | omega | (simp<;>omega)) _) | (refine Below.trans ?_ (Below.mono (Hid.out B2) (by first | omega | (simp<;>omega)))) | (refine Below.trans ?_ (Below.mono (Hid.out B1) (by first | omega | (simp<;>omega))))))⟩
end Go.Proofs.YtnjpoljbagfdnaaGreat
namespace Go.Proofs.YtnjpoljbagfdnaaGreat
set_option maxRecDepth 20000
set_option linter.unusedVariables false
set_option linter.unusedSimpArgs false
structure TOrd {α:Type} (c:α→α→Int):Prop where
 zero: ∀ {a b},c a b=0↔a=b
 anti: ∀ {a b},c a b<0↔0<c b a
 trans: ∀ {a b d},c a b<0→c b d<0→c a d<0
theorem cmpI_neg {a b:Int}:cmpI a b<0↔a<b:=by
 unfold cmpI;split
 ·simp[*]
 ·split<;>omega
theorem cmpI_pos {a b:Int}:0<cmpI a b↔b<a:=by
 unfold cmpI;split
 ·omega
 ·split<;>omega
theorem cmpI_ord:TOrd cmpI:=⟨cmpI_zero,by intro a b;rw[cmpI_neg,cmpI_pos],by intro a b d h1 h2;rw[cmpI_neg] at*;omega⟩
theorem cmpE_neg {a b:EdD}:cmpE a b<0↔a.1<b.1∨(a.1=b.1∧(a.2.1<b.2.1∨(a.2.1=b.2.1∧a.2.2<b.2.2))):=by
 unfold cmpE
 split
 ·rename_i h
  have h':a.1≠b.1:=fun e=>h (cmpI_zero.2 e)
  rw[cmpI_neg];omega
 ·rename_i h
  have h':a.1=b.1:=cmpI_zero.1 (by simpa using h)
  split
  ·rename_i h2
   have h2':a.2.1≠b.2.1:=fun e=>h2 (cmpI_zero.2 e)
   rw[cmpI_neg];omega
  ·rename_i h2
   have h2':a.2.1=b.2.1:=cmpI_zero.1 (by simpa using h2)
   rw[cmpI_neg];omega
theorem cmpE_pos {a b:EdD}:0<cmpE a b↔b.1<a.1∨(a.1=b.1∧(b.2.1<a.2.1∨(a.2.1=b.2.1∧b.2.2<a.2.2))):=by
 unfold cmpE
 split
 ·rename_i h
  have h':a.1≠b.1:=fun e=>h (cmpI_zero.2 e)
  rw[cmpI_pos];omega
 ·rename_i h
  have h':a.1=b.1:=cmpI_zero.1 (by simpa using h)
  split
  ·rename_i h2
   have h2':a.2.1≠b.2.1:=fun e=>h2 (cmpI_zero.2 e)
   rw[cmpI_pos];omega
  ·rename_i h2
   have h2':a.2.1=b.2.1:=cmpI_zero.1 (by simpa using h2)
   rw[cmpI_pos];omega
theorem cmpE_zero {a b:EdD}:cmpE a b=0↔a=b:=by
 obtain⟨x,y,z⟩:=a
 obtain⟨x',y',z'⟩:=b
 have h1:= @cmpE_neg (x,y,z) (x',y',z')
 have h2:= @cmpE_pos (x,y,z) (x',y',z')
 simp only at h1 h2
 constructor
 ·intro h
  have n1: ¬cmpE (x,y,z) (x',y',z')<0:=by omega
  have n2: ¬0<cmpE (x,y,z) (x',y',z'):=by omega
  rw[h1] at n1
  rw[h2] at n2
  have e1:x=x':=by omega
  have e2:y=y':=by omega
  have e3:z=z':=by omega
  rw[e1,e2,e3]
 ·intro h
  injection h with e1 h
  injection h with e2 e3
  have n1: ¬cmpE (x,y,z) (x',y',z')<0:=by rw[h1];omega
  have n2: ¬0<cmpE (x,y,z) (x',y',z'):=by rw[h2];omega
  omega
theorem cmpE_ord:TOrd cmpE:=⟨cmpE_zero,by intro a b;rw[cmpE_neg,cmpE_pos];omega,by intro a b d h1 h2;rw[cmpE_neg] at*;omega⟩
section
variable {α:Type} {c:α→α→Int}
def Srt (c:α→α→Int) (l:List α):Prop:=l.Pairwise fun a b=>c a b<0
theorem TOrd.irrefl (h:TOrd c) (a:α): ¬c a a<0:=by
 have:=(h.zero (a:=a) (b:=a)).2 rfl
 omega
theorem Srt.ext (h:TOrd c): ∀ {l l':List α},Srt c l→Srt c l'→(∀x,x∈l↔x∈l')→l=l'
 | [],[],_,_,_=>rfl
 | [],b::l',_,_,hm=>absurd ((hm b).2 (by simp)) (by simp)
 | a::l,[],_,_,hm=>absurd ((hm a).1 (by simp)) (by simp)
 | a::l,b::l',h1,h2,hm=>by
   have p1:=List.pairwise_cons.1 h1
   have p2:=List.pairwise_cons.1 h2
   have e:a=b:=by
    have ha:=(hm a).1 (by simp)
    have hb:=(hm b).2 (by simp)
    rcases List.mem_cons.1 ha with e | ha
    ·exact e
    ·rcases List.mem_cons.1 hb with e | hb
     ·exact e.symm
     ·exact absurd (h.trans (p1.1 b hb) (p2.1 a ha)) (h.irrefl a)
   subst e
   congr 1
   refine Srt.ext h p1.2 p2.2 fun x=>⟨fun hx=> ?_,fun hx=> ?_⟩
   ·rcases List.mem_cons.1 ((hm x).1 (by simp[hx])) with rfl | h'
    ·exact absurd (p1.1 x hx) (h.irrefl x)
    ·exact h'
   ·rcases List.mem_cons.1 ((hm x).2 (by simp[hx])) with rfl | h'
    ·exact absurd (p2.1 x hx) (h.irrefl x)
    ·exact h'
def insS (c:α→α→Int) (x:α) (s:List α×Bool) (y:α):List α×Bool:=
 if c x y=0 then(s.1++ [y],true) else if c x y<0∧s.2=false then(s.1++ [x,y],true) else(s.1++ [y],s.2)
def insF (c:α→α→Int) (l:List α) (x:α):List α:=if(l.foldl (insS c x) ([],false)).2 then(l.foldl (insS c x) ([],false)).1 else(l.foldl (insS c x) ([],false)).1++ [x]
def insR (c:α→α→Int) (x:α):List α→List α
 | []=> [x]
 | y::l=>if c x y=0 then y::l else if c x y<0 then x::y::l else y::insR c x l
theorem insS_true (x:α) (l acc:List α):l.foldl (insS c x) (acc,true)=(acc++l,true):=by
 induction l generalizing acc with
 | nil=>simp
 | cons y l ih=>
   rw[List.foldl_cons]
   have:insS c x (acc,true) y=(acc++ [y],true):=by unfold insS;split<;>simp
   rw[this,ih]
   simp
theorem insF_eq (l:List α) (x:α):insF c l x=insR c x l:=by
 have key: ∀l acc:List α,(if(l.foldl (insS c x) (acc,false)).2 then(l.foldl (insS c x) (acc,false)).1 else(l.foldl (insS c x) (acc,false)).1++ [x])=acc++insR c x l:=by
  intro l
  induction l with
  | nil=>intro acc;simp[insR]
  | cons y l ih=>
    intro acc
    rw[List.foldl_cons]
    by_cases h0:c x y=0
    ·have:insS c x (acc,false) y=(acc++ [y],true):=by unfold insS;rw[if_pos h0]
     rw[this,insS_true]
     simp[insR,h0]
    ·by_cases h1:c x y<0
     ·have:insS c x (acc,false) y=(acc++ [x,y],true):=by unfold insS;rw[if_neg h0,if_pos ⟨h1,rfl⟩]
      rw[this,insS_true]
      simp[insR,h0,h1]
     ·have:insS c x (acc,false) y=(acc++ [y],false):=by unfold insS;rw[if_neg h0,if_neg (fun h=>h1 h.1)]
      rw[this,ih]
      simp[insR,h0,h1]
 simpa[insF] using key l []
theorem insR_mem (x:α) (l:List α) (h:TOrd c) (y:α):y∈insR c x l↔y=x∨y∈l:=by
 induction l with
 | nil=>simp[insR]
 | cons a l ih=>
   unfold insR
   split
   ·rename_i h0
    have:=h.zero.1 h0
    subst this
    simp
   ·split
    ·simp
    ·simp only[List.mem_cons,ih]
     constructor
     ·rintro(e | e | e)
      ·exact .inr (.inl e)
      ·exact .inl e
      ·exact .inr (.inr e)
     ·rintro(e | e | e)
      ·exact .inr (.inl e)
      ·exact .inl e
      ·exact .inr (.inr e)
theorem insR_srt (h:TOrd c) (x:α) (l:List α) (hl:Srt c l):Srt c (insR c x l):=by
 induction l with
 | nil=>simp[insR,Srt]
 | cons a l ih=>
   have p:=List.pairwise_cons.1 hl
   unfold insR
   split
   ·exact hl
   ·rename_i h0
    split
    ·rename_i h1
     refine List.pairwise_cons.2 ⟨fun y hy=> ?_,hl⟩
     rcases List.mem_cons.1 hy with rfl | hy
     ·exact h1
     ·exact h.trans h1 (p.1 y hy)
    ·rename_i h1
     refine List.pairwise_cons.2 ⟨fun y hy=> ?_,ih p.2⟩
     rcases(insR_mem x l h y).1 hy with rfl | hy
     ·have:=(h.anti (a:=a) (b:=y)).2 (by omega)
      exact this
     ·exact p.1 y hy
theorem insF_len (l:List α) (x:α):(insF c l x).length≤l.length+1:=by
 rw[insF_eq]
 induction l with
 | nil=>simp[insR]
 | cons a l ih=>
   unfold insR
   split
   ·simp
   ·split
    ·simp
    ·simp only[List.length_cons];omega
def srt (c:α→α→Int) (L:List α):List α:=L.foldl (insF c) []
theorem srt_spec (h:TOrd c) (L:List α):Srt c (srt c L)∧ ∀x,x∈srt c L↔x∈L:=by
 have key: ∀L acc:List α,Srt c acc→Srt c (L.foldl (insF c) acc)∧ ∀x,x∈L.foldl (insF c) acc↔x∈acc∨x∈L:=by
  intro L
  induction L with
  | nil=>intro acc hs;exact⟨hs,fun x=>by simp⟩
  | cons y L ih=>
    intro acc hs
    rw[List.foldl_cons]
    obtain⟨h1,h2⟩:=ih (insF c acc y) (by rw[insF_eq];exact insR_srt h y acc hs)
    refine⟨h1,fun x=> ?_⟩
    rw[h2,insF_eq,insR_mem y acc h]
    simp only[List.mem_cons]
    constructor
    ·rintro((e | e) | e)
     ·exact .inr (.inl e)
     ·exact .inl e
     ·exact .inr (.inr e)
    ·rintro(e | e | e)
     ·exact .inl (.inr e)
     ·exact .inl (.inl e)
     ·exact .inr e
 obtain⟨h1,h2⟩:=key L [] List.Pairwise.nil
 exact⟨h1,fun x=>by simpa[srt] using h2 x⟩
theorem srt_eq (h:TOrd c) {L l:List α} (hs:Srt c l) (hm: ∀x,x∈l↔x∈L):l=srt c L:=
 Srt.ext h hs (srt_spec h L).1 fun x=>by rw[hm,(srt_spec h L).2]
theorem srt_len (L:List α):(srt c L).length≤L.length:=by
 have key: ∀L acc:List α,(L.foldl (insF c) acc).length≤acc.length+L.length:=by
  intro L
  induction L with
  | nil=>intro acc;simp
  | cons y L ih=>
    intro acc
    have h1:=ih (insF c acc y)
    have h2:=insF_len (c:=c) acc y
    simp only[List.foldl_cons,List.length_cons]
    omega
 simpa[srt] using key L []
end
end Go.Proofs.YtnjpoljbagfdnaaGreat
namespace Go.Proofs.YtnjpoljbagfdnaaGreat
set_option maxRecDepth 20000
set_option linter.unusedVariables false
set_option linter.unusedSimpArgs false
open Go.RowKit
structure BelW (w:World) where
 W:World
 h:Below w.heap.size w W
instance (w:World):Inhabited (BelW w):=⟨⟨w,Below.refl _ _⟩⟩
theorem wp_region_quiet_bel {P:Program} {id:Nat} {Q:Exit→Act→World→Prop} {a:Act} {w:World} {l:List Oper} (hm:P.follows .mixedOrders=true) (hB:Region.lexB .any l.toArray=true)
  (h:wpQuiet P l.toArray (fun w'=> ∃p:BelW w,w'=p.W) (fun a'=> ∀w',(∃p:BelW w,w'=p.W)→Q .normal a' w') l a):(Code.region id l.toArray true).wp P Q a w:=
 wp_region_quiet (C:=fun w'=> ∃p:BelW w,w'=p.W) hm hB ⟨⟨w.drew,(Below.refl _ _).drew⟩,rfl⟩ (by simpa using h)
theorem Calls.bel_of {P:Program} {f:FuncId} {args:Array Value} {w:World} {p:BelW w} {v:Value}
  (h:Calls P f args p.W fun e w'=>e= .returned v∧Below p.W.heap.size p.W w'):Calls P f args p.W fun e w''=>e= .returned v∧ ∃q:BelW w,w''=q.W:=
 h.mono fun _ w' ⟨he,hb⟩=>⟨he,⟨w',p.h.trans (hb.mono p.h.size)⟩,rfl⟩
theorem Calls.bel_same {P:Program} {f:FuncId} {args:Array Value} {w:World} {p:BelW w} {v:Value}
  (h:Calls P f args p.W fun e w'=>e= .returned v∧p.W=w'):Calls P f args p.W fun e w''=>e= .returned v∧ ∃q:BelW w,w''=q.W:=
 h.mono fun _ w' ⟨he,hb⟩=>⟨he,p,hb.symm⟩
theorem BelW.cell {w:World} {b o:Nat} {v:Value} (h:w.cell? ⟨b,o,none⟩=some v) (hlt:b<w.heap.size) (p:BelW w):p.W.cell? ⟨b,o,none⟩=some v:=
 (p.h.cell (p:=⟨b,o,none⟩) hlt).trans h
def dumL:List Oper→List Oper
 | []=> []
 | [o]=> [{o with op:= .move (.const (.bool false))}]
 | o::o'::r=>o::dumL (o'::r)
def lastL:List Oper→List Oper
 | []=> []
 | [o]=> [o]
 | _::o'::r=>lastL (o'::r)
theorem dumL_len: ∀l:List Oper,(dumL l).length=l.length
 | []=>rfl
 | [_]=>rfl
 | _::o'::r=>by show(dumL (o'::r)).length+1=_;rw[dumL_len (o'::r)];rfl
theorem dumL_get: ∀(l:List Oper) (j:Nat),j+1<l.length→(dumL l)[j]? =l[j]?
 | [],_,h=>by simp at h
 | [_],j,h=>by simp at h
 | _::_::_,0,_=>rfl
 | _::o'::r,j+1,h=>by
   show(dumL (o'::r))[j]? =(o'::r)[j]?
   exact dumL_get (o'::r) j (by simp at h⊢;omega)
theorem dumL_last: ∀(l:List Oper) (n:Nat),l.length=n+1→ ∃st,l[n]? =some st∧lastL l= [st]∧(dumL l)[n]? =some {st with op:= .move (.const (.bool false))}
 | [],n,h=>by simp at h
 | [o], n, h => by obtain rfl:n=0:=by simpa using h.symm
                   exact⟨o,rfl,rfl,rfl⟩
 | _::o'::r,0,h=>by simp at h
 | _::o'::r,n+1,h=>by
   obtain⟨st,h1,h2,h3⟩:=dumL_last (o'::r) n (by simpa using h)
   exact⟨st,h1,h2,h3⟩
def lastB (ops:Array Oper) (n:Nat):Bool:=
 (List.range ops.size).all (fun i=>match ops[i]? with | some o=>o.after.all (fun e=> !Region.binds .any e||decide (e.on<i)) | none=>true)&&
 (List.range n).all (fun i=>(List.range ops.size).any fun j=>decide (i<j)&&match ops[j]? with | some o=>o.after.any (fun e=>Region.binds .any e&&e.on==i) | none=>false)&&
 match ops[n]? with | some o=>o.dst.isNone&&o.guard.isNone | none=>false
section
variable {P:Program} {ops ops':Array Oper} {n:Nat} {C:World→Prop}
structure LastOk (ops ops':Array Oper) (n:Nat) (st st':Oper):Prop where
 size:ops.size=n+1
 size':ops'.size=n+1
 like: ∀j,j<n→(ops'[j]?).map (·.after)=(ops[j]?).map (·.after)∧(ops'[j]?).bind (·.dst)=(ops[j]?).bind (·.dst)
 hst:ops[n]? =some st
 hst':ops'[n]? =some st'
 after:st'.after=st.after
 dst:st.dst=none
 dst':st'.dst=none
 guard:st.guard=none
 guard':st'.guard=none
 back: ∀i o,ops[i]? =some o→ ∀e∈o.after,Region.binds .any e=true→e.on<i
 chain: ∀i,i<n→ ∃j o,i<j∧ops[j]? =some o∧ ∃e∈o.after,Region.binds .any e=true∧e.on=i
variable {st st':Oper}
theorem LastOk.get (h:LastOk ops ops' n st st') (j:Nat):(ops'[j]?).map (·.after)=(ops[j]?).map (·.after)∧(ops'[j]?).bind (·.dst)=(ops[j]?).bind (·.dst):=by
 rcases Nat.lt_trichotomy j n with hj | rfl | hj
 ·exact h.like j hj
 ·rw[h.hst,h.hst'];simp[h.after,h.dst,h.dst']
 ·rw[Array.getElem?_eq_none (by rw[h.size'];omega),Array.getElem?_eq_none (by rw[h.size];omega)];exact⟨rfl,rfl⟩
theorem LastOk.ready (h:LastOk ops ops' n st st') (listed:Array Bool):Region.ready .any ops' listed=Region.ready .any ops listed:=by
 unfold Region.ready
 rw[h.size,h.size']
 refine List.filter_congr fun i _=> ?_
 have:=(h.get i).1
 congr 1
 cases e1:ops'[i]? <;>cases e2:ops[i]? <;>rw[e1,e2] at this<;>simp at this⊢
 rw[this]
theorem LastOk.yielded (h:LastOk ops ops' n st st') (t:Array Value):yielded ops' t=yielded ops t:=by
 funext j
 unfold Go.yielded
 rw[(h.get j).2]
def Cl (ops:Array Oper) (listed:Array Bool):Prop:=
 listed.size=ops.size∧ ∀j o,ops[j]? =some o→listed.getD j false=true→ ∀e∈o.after,Region.binds .any e=true→listed.getD e.on false=true
theorem getD_tf {l:Array Bool} {i:Nat} (hi:i<l.size):l.getD i true=l.getD i false:=by simp[hi]
theorem Cl.set {listed:Array Bool} (h:Cl ops listed) {i:Nat} (hi:i∈Region.ready .any ops listed):Cl ops (listed.setIfInBounds i true):=by
 refine⟨by rw[Array.size_setIfInBounds];exact h.1,fun j o ho hl e he hb=> ?_⟩
 by_cases hij:i=j
 ·subst hij
  obtain⟨_,o',ho',hall⟩:=mem_ready.1 hi
  rw[ho] at ho'
  injection ho' with ho'
  subst ho'
  exact getD_set_true (hall e he hb)
 ·rw[getD_set_ne false hij] at hl
  exact getD_set_true (h.2 j o ho hl e he hb)
theorem LastOk.all (h:LastOk ops ops' n st st') {listed:Array Bool} (hc:Cl ops listed) (hr:n∈Region.ready .any ops listed):
  ∀(d i:Nat),n-i=d→i<n→listed.getD i false=true:=by
 intro d
 induction d using Nat.strongRecOn with
 | _ d ih=>
   intro i hd hi
   obtain⟨j,o,hij,ho,e,he,hb,rfl⟩:=h.chain i hi
   have hj:j<n+1:=by rw[←h.size];exact(Array.getElem?_eq_some_iff.1 ho).1
   by_cases hjn:j=n
   ·subst hjn
    obtain⟨_,o',ho',hall⟩:=mem_ready.1 hr
    rw[ho] at ho'
    injection ho' with ho'
    subst ho'
    exact hall e he hb
   ·exact hc.2 j o ho (ih (n-j) (by omega) j rfl (by omega)) e he hb
theorem LastOk.done (h:LastOk ops ops' n st st') {listed:Array Bool} (hc:Cl ops listed) (hr:n∈Region.ready .any ops listed):
  Region.ready .any ops (listed.setIfInBounds n true)= []:=by
 rw[List.eq_nil_iff_forall_not_mem]
 intro j hj
 obtain⟨h0,o,ho,_⟩:=mem_ready.1 hj
 have hjn:j<n+1:=by rw[←h.size];exact(Array.getElem?_eq_some_iff.1 ho).1
 have hs:listed.size=n+1:=hc.1.trans h.size
 by_cases e:n=j
 ·subst e
  simp[hs] at h0
 ·rw[getD_set_ne true e,getD_tf (by omega),h.all hc hr _ j rfl (by omega)] at h0
  cases h0
theorem LastOk.stuck (h:LastOk ops ops' n st st') {listed:Array Bool} (hs:listed.size=ops.size): ∀i,i<ops.size→listed.getD i true=false→Region.ready .any ops listed≠ []:=by
 intro i
 induction i using Nat.strongRecOn with
 | _ i ih=>
   intro hi hl
   have ho:ops[i]? =some ops[i]:=by simp[hi]
   by_cases hall: ∀e∈ops[i].after,Region.binds .any e=true→listed.getD e.on false=true
   ·exact List.ne_nil_of_mem (mem_ready.2 ⟨hl,_,ho,hall⟩)
   ·simp only[Classical.not_forall] at hall
    obtain⟨e,he,hb,hn⟩:=hall
    have hlt:=h.back i _ ho e he hb
    exact ih e.on hlt (by omega) (by rw[getD_tf (by omega)];simpa using hn)
theorem wpAny_of_last (h:LastOk ops ops' n st st') (hsame: ∀j,j<n→ops'[j]? =ops[j]?) {Q:Act→Prop} {Q':Exit→Act→World→Prop}
  (hQ: ∀a w,C w→Q a→st.wp P a w (fun a w=>Q' .normal a w) Q'∨(st.asks P a w∧LetsOut Q')):
  ∀(fuel:Nat) (listed:Array Bool) (a:Act) (w:World),C w→Cl ops listed→listed.getD n true=false→
  wpAnyQ P .any ops' C Q fuel listed a→wpAny P .any ops Q' fuel listed a w:=by
 intro fuel
 induction fuel with
 | zero=>
   intro listed a w hw hc hn hh
   have:=hh.1
   rw[h.ready] at this
   exact absurd this (h.stuck hc.1 n (by rw[h.size];omega) hn)
 | succ fuel ih=>
   intro listed a w hw hc hn hh
   refine⟨fun h0=>absurd h0 (h.stuck hc.1 n (by rw[h.size];omega) hn),fun i hi=> ?_⟩
   have hq:=hh.2 i (by rw[h.ready];exact hi)
   by_cases hin:i=n
   ·subst hin
    have hd:=h.done hc hi
    unfold wpOp
    unfold qOp at hq
    simp only[h.hst,h.hst'] at hq⊢
    have w1:Region.wanted st (Go.yielded ops a.tmps)=true:=by unfold Region.wanted;rw[h.guard]
    have w2:Region.wanted st' (Go.yielded ops' a.tmps)=true:=by unfold Region.wanted;rw[h.guard']
    rw[if_pos w1]
    rw[if_pos w2] at hq
    obtain⟨v,_,hK⟩:=hq
    rw[h.dst'] at hK
    have hQa:Q a:=by
     cases fuel with
     | zero=>exact hK.2
     | succ _=>exact hK.1 (by rw[h.ready];exact hd)
    exact(hQ a w hw hQa).imp (Oper.wp_mono fun a' w' hn'=>wpAny_done hd hn' fuel) id
   ·have hs:=h.size
    obtain⟨_,o,ho,_⟩:=mem_ready.1 hi
    have hlt:i<n:=by have:=(Array.getElem?_eq_some_iff.1 ho).1;omega
    have e:wpOp P ops Q' i (wpAny P .any ops Q' fuel (listed.setIfInBounds i true)) a w=wpOp P ops' Q' i (wpAny P .any ops Q' fuel (listed.setIfInBounds i true)) a w:=by
     unfold wpOp
     rw[hsame i hlt,h.yielded]
    rw[e]
    exact wpOp_of_qOp hw (fun a' w' hw' hk=>ih _ a' w' hw' (hc.set hi) (by rw[getD_set_ne true hin];exact hn) hk) hq
end
theorem lastOk_of {l:List Oper} {n:Nat} (hl:l.length=n+1) (hB:lastB l.toArray n=true): ∃st,lastL l= [st]∧LastOk l.toArray (dumL l).toArray n st {st with op:= .move (.const (.bool false))}:=by
 obtain⟨st,h1,h2,h3⟩:=dumL_last l n hl
 refine⟨st,h2,?_⟩
 unfold lastB at hB
 simp only[Bool.and_eq_true,List.all_eq_true,List.mem_range,List.any_eq_true,decide_eq_true_eq] at hB
 obtain⟨⟨hb,hc⟩,hg⟩:=hB
 have hst:l.toArray[n]? =some st:=by simpa using h1
 rw[hst] at hg
 simp only[Bool.and_eq_true,Option.isNone_iff_eq_none] at hg
 have hlk: ∀j,j<n→((dumL l).toArray[j]?).map (·.after)=(l.toArray[j]?).map (·.after)∧((dumL l).toArray[j]?).bind (·.dst)=(l.toArray[j]?).bind (·.dst):=fun j hj=>by
  have e:(dumL l).toArray[j]? =l.toArray[j]? :=by simpa using dumL_get l j (by omega)
  rw[e];exact⟨rfl,rfl⟩
 refine⟨by simpa using hl,by simpa[dumL_len] using hl,fun j hj=>hlk j hj,hst,by simpa using h3,rfl,hg.1,hg.1,hg.2,hg.2,fun i o ho e he hbd=> ?_,fun i hi=> ?_⟩
 ·have hi:=(Array.getElem?_eq_some_iff.1 ho).1
  have:=hb i hi
  rw[ho] at this
  have:=Array.all_eq_true_iff_forall_mem.1 this e he
  rw[hbd] at this
  simpa using this
 ·obtain⟨j,_,hij,hm⟩:=hc i hi
  cases ho:l.toArray[j]? with
  | none=>rw[ho] at hm;cases hm
  | some o=>
    rw[ho] at hm
    obtain⟨e,he,hb'⟩:=Array.any_eq_true'.1 hm
    simp only[Bool.and_eq_true,beq_iff_eq] at hb'
    exact⟨j,o,hij,ho,e,he,hb'⟩
theorem getD_replicate_false' (n i:Nat):(Array.replicate n false).getD i false=false:=by
 by_cases h:i<n<;>simp[h]
theorem wp_region_quiet_last {P:Program} {id:Nat} {Q:Exit→Act→World→Prop} {a:Act} {w:World} {l:List Oper} (n:Nat) (hm:P.follows .mixedOrders=true) (hl:l.length=n+1) (hB:Region.lexB .any (dumL l).toArray=true) (hL:lastB l.toArray n=true)
  (h:wpQuiet P (dumL l).toArray (fun w'=> ∃p:BelW w,w'=p.W) (fun a'=> ∀w',(∃p:BelW w,w'=p.W)→wpList P (lastL l).toArray Q (lastL l) a' w') (dumL l) a):(Code.region id l.toArray true).wp P Q a w:=by
 obtain⟨st,e,hok⟩:=lastOk_of hl hL
 have hgd:=hok.guard
 simp only[Region.lexB,Bool.and_eq_true] at hB
 refine wp_region_any hm (wpAny_of_last (C:=fun w'=> ∃p:BelW w,w'=p.W) hok (fun j hj=>by simpa using dumL_get l j (by omega)) (Q:=fun a'=> ∀w',(∃p:BelW w,w'=p.W)→wpList P (lastL l).toArray Q (lastL l) a' w') (fun a' w' hw' hq=> ?_) _ _ _ _ ⟨⟨w.drew,(Below.refl _ _).drew⟩,rfl⟩ ⟨by simp,?_⟩ ?_ ?_)
 ·have:=hq w' hw'
  rw[e] at this
  unfold wpList at this
  rw[if_pos (by unfold Region.wanted;rw[hgd])] at this
  exact this
 ·intro j o ho hj
  exfalso
  rw[getD_replicate_false'] at hj
  cases hj
 ·rw[getD_tf (by simp[hl]),getD_replicate_false']
 ·have:=wpAnyQ_lex (P:=P) (C:=fun w'=> ∃p:BelW w,w'=p.W) (md:= .any) hB.1 (dumL l) 0 (Array.replicate (dumL l).toArray.size false) a (by simp) (by simpa using hB.2) h
  simpa[dumL_len] using this
def dumO (o:Oper):Oper:= {o with op:= .move (.const (.bool false))}
def dum3:List Oper→List Oper
 | a::b::c::d::r=>a::dum3 (b::c::d::r)
 | [oc,om,st]=> [dumO oc,om,dumO st]
 | l=>l
def tail3:List Oper→List Oper
 | _::b::c::d::r=>tail3 (b::c::d::r)
 | l=>l
theorem dum3_len: ∀l:List Oper,(dum3 l).length=l.length
 | _::b::c::d::r=>by show(dum3 (b::c::d::r)).length+1=_;rw[dum3_len (b::c::d::r)];rfl
 | [_,_,_]=>rfl
 | []=>rfl
 | [_]=>rfl
 | [_,_]=>rfl
theorem dum3_spec: ∀(l:List Oper) (c:Nat),l.length=c+3→ ∃oc om st,l[c]? =some oc∧l[c+1]? =some om∧l[c+2]? =some st∧tail3 l= [oc,om,st]∧(dum3 l)[c]? =some (dumO oc)∧(dum3 l)[c+1]? =some om∧(dum3 l)[c+2]? =some (dumO st)∧ ∀j,j<c→(dum3 l)[j]? =l[j]?
 | a::b::x::d::r,0,h=>by simp at h
 | a::b::x::d::r,c+1,h=>by
   obtain⟨oc,om,st,h1,h2,h3,h4,h5,h6,h7,h8⟩:=dum3_spec (b::x::d::r) c (by simpa using h)
   refine⟨oc,om,st,h1,h2,h3,h4,h5,h6,h7,fun j hj=> ?_⟩
   cases j with
   | zero=>rfl
   | succ j=>exact h8 j (by omega)
 | [oc,om,st],c,h=>by
   obtain rfl:c=0:=by simpa using h.symm
   exact⟨oc,om,st,rfl,rfl,rfl,rfl,rfl,rfl,rfl,fun j hj=>by omega⟩
 | [],c,h=>by simp at h
 | [_],c,h=>by simp at h
 | [_,_],c,h=>by simp at h
def waitsB (ops:Array Oper) (j i:Nat):Bool:=match ops[j]? with | some o=>o.after.any (fun e=>Region.binds .any e&&e.on==i) | none=>false
theorem waitsB_spec {ops:Array Oper} {j i:Nat} (h:waitsB ops j i=true): ∃o,ops[j]? =some o∧ ∃e∈o.after,Region.binds .any e=true∧e.on=i:=by
 unfold waitsB at h
 cases ho:ops[j]? with
 | none=>rw[ho] at h;cases h
 | some o=>
   rw[ho] at h
   obtain⟨e,he,hb'⟩:=Array.any_eq_true'.1 h
   simp only[Bool.and_eq_true,beq_iff_eq] at hb'
   exact⟨o,rfl,e,he,hb'⟩
def call3B (ops:Array Oper) (c:Nat):Bool:=
 lastB ops (c+2)&&(List.range c).all (fun i=>(List.range (c+1)).any fun j=>decide (i<j)&&waitsB ops j i)&&
 match ops[c]?,ops[c+1]? with
 | some oc,some om=>oc.guard.isNone&&om.guard.isNone&&oc.apart ops om&&(match oc.dst with | some d=> !(oc.looksAt ops).contains d | none=>false)&&(match om.dst with | some d=> !(om.looksAt ops).contains d | none=>false)&&(match oc.op with | .select _ _=>false | _=>true)&&(match om.op with | .select _ _=>false | _=>true)
 | _,_=>false
structure C3 (ops ops':Array Oper) (c:Nat) (oc om st:Oper) (d tm:Tmp):Prop where
 ok:LastOk ops ops' (c+2) st (dumO st)
 getc:ops[c]? =some oc
 getc':ops'[c]? =some (dumO oc)
 getm:ops[c+1]? =some om
 getm':ops'[c+1]? =some om
 gc:oc.guard=none
 gm:om.guard=none
 dc:oc.dst=some d
 dm:om.dst=some tm
 ap:oc.apart ops om=true
 self:d∉oc.looksAt ops
 selfm:tm∉om.looksAt ops
 sc: ∀cs b,oc.op≠ .select cs b
 sm: ∀cs b,om.op≠ .select cs b
 sink: ∀i,i<c→ ∃j o,i<j∧j≤c∧ops[j]? =some o∧ ∃e∈o.after,Region.binds .any e=true∧e.on=i
section
variable {P:Program} {ops ops':Array Oper} {c:Nat} {oc om st:Oper} {d tm:Tmp}
theorem wanted_none {o:Oper} (h:o.guard=none) (y:Nat→Option Bool):Region.wanted o y=true:=by unfold Region.wanted;rw[h]
theorem C3.head (h:C3 ops ops' c oc om st d tm) {listed:Array Bool} (hc:Cl ops listed) (hr:c∈Region.ready .any ops listed):
  ∀(x i:Nat),c-i=x→i<c→listed.getD i false=true:=by
 intro x
 induction x using Nat.strongRecOn with
 | _ x ih=>
   intro i hd hi
   obtain⟨j,o,hij,hjc,ho,e,he,hb,rfl⟩:=h.sink i hi
   by_cases hjn:j=c
   ·subst hjn
    obtain⟨_,o',ho',hall⟩:=mem_ready.1 hr
    rw[ho] at ho'
    injection ho' with ho'
    subst ho'
    exact hall e he hb
   ·exact hc.2 j o ho (ih (c-j) (by omega) j rfl (by omega)) e he hb
def Near (c:Nat) (listed:Array Bool):Prop:=listed.getD (c+2) true=false∧ ∀i,i<c+2→listed.getD i false=true
theorem C3.only (h:C3 ops ops' c oc om st d tm) {listed:Array Bool} (hc:Cl ops listed) (hn:Near c listed):Region.ready .any ops listed≠ []∧ ∀i∈Region.ready .any ops listed,i=c+2:=by
 have hs:listed.size=c+3:=hc.1.trans h.ok.size
 refine⟨h.ok.stuck hc.1 (c+2) (by rw[h.ok.size];omega) hn.1,fun i hi=> ?_⟩
 obtain⟨h0,o,ho,_⟩:=mem_ready.1 hi
 have hlt:i<c+3:=by rw[←h.ok.size];exact(Array.getElem?_eq_some_iff.1 ho).1
 by_cases hi2:i<c+2
 ·rw[getD_tf (by omega),hn.2 i hi2] at h0
  cases h0
 ·omega
theorem C3.getQ (h:C3 ops ops' c oc om st d tm) {C:World→Prop} {Q:Act→Prop} {listed:Array Bool} (hc:Cl ops listed) (hn:Near c listed):
  ∀ {fuel:Nat} {b:Act},wpAnyQ P .any ops' C Q fuel listed b→Q b:=by
 intro fuel b hh
 obtain⟨hne,hall⟩:=h.only hc hn
 obtain⟨i,hi⟩:=List.exists_mem_of_ne_nil _ hne
 have hin:=hall i hi
 subst hin
 cases fuel with
 | zero=>have h1:=hh.1;rw[h.ok.ready] at h1;exact absurd h1 hne
 | succ f=>
   have hq:=hh.2 (c+2) (by rw[h.ok.ready];exact hi)
   unfold qOp at hq
   simp only[h.ok.hst'] at hq
   rw[if_pos (wanted_none h.ok.guard' _)] at hq
   obtain⟨v,_,hK⟩:=hq
   rw[h.ok.dst'] at hK
   have hd:=h.ok.done hc hi
   cases f with
   | zero=>exact hK.2
   | succ _=>exact hK.1 (by rw[h.ok.ready];exact hd)
theorem C3.fin (h:C3 ops ops' c oc om st d tm) {Q':Exit→Act→World→Prop} {listed:Array Bool} (hc:Cl ops listed) (hn:Near c listed) {a:Act} {w:World}
  (hw:wpList P #[st] Q' [st] a w): ∀fuel,wpAny P .any ops Q' (fuel+1) listed a w:=by
 intro fuel
 obtain⟨hne,hall⟩:=h.only hc hn
 refine⟨fun h0=>absurd h0 hne,fun i hi=> ?_⟩
 have hin:=hall i hi
 subst hin
 unfold wpOp
 simp only[h.ok.hst]
 rw[if_pos (wanted_none h.ok.guard _)]
 unfold wpList at hw
 rw[if_pos (wanted_none h.ok.guard _)] at hw
 exact hw.imp (Oper.wp_mono fun a' w' hn'=>wpAny_done (h.ok.done hc hi) hn' fuel) id
def CallAsk (P:Program) (C:World→Prop) (Q':Exit→Act→World→Prop) (oc om st:Oper) (d:Tmp) (b:Act):Prop:=
 (∃vm,∀w2,(execOp b.eval om).run P w2= .ok (.value vm) w2)∧
 ∀wx,C wx→ ∃f args,(execOp b.eval oc).run P wx= .ok (.enter f args) wx∧Calls P f args wx fun e w2=> ∃v,e= .returned v∧wpList P #[st] Q' [st] (b.put (some d) v) w2
theorem put_put (a:Act) (d:Tmp) (u v:Value):(a.put (some d) u).put (some d) v=a.put (some d) v:=by
 simp[Act.put,Array.setIfInBounds_setIfInBounds]
theorem C3.main (h:C3 ops ops' c oc om st d tm) {C:World→Prop} {Q':Exit→Act→World→Prop} (hsame: ∀j,j<c→ops'[j]? =ops[j]?):
  ∀(fuel:Nat) (listed:Array Bool) (a:Act) (w:World),C w→Cl ops listed→listed.getD c true=false→listed.getD (c+2) true=false→
  wpAnyQ P .any ops' C (CallAsk P C Q' oc om st d) fuel listed a→wpAny P .any ops Q' fuel listed a w:=by
 intro fuel
 have apx:=Oper.apart_spec h.ap
 have hdm:some d≠some tm:=fun e=>apx.2.1 d h.dc (by rw[h.dm,e])
 have e_c: ∀(a:Act) v,execOp (a.put (some d) v).eval oc=execOp a.eval oc:=fun a v=>execOp_put (ops:=ops) oc h.sc a (some d) v fun x hx=>by injection hx with hx;subst hx;exact h.self
 have e_cm: ∀(a:Act) v,execOp (a.put (some tm) v).eval oc=execOp a.eval oc:=fun a v=>execOp_put (ops:=ops) oc h.sc a (some tm) v fun x hx=>apx.2.2 x (by rw[h.dm,hx])
 have e_m: ∀(a:Act) v,execOp (a.put (some d) v).eval om=execOp a.eval om:=fun a v=>execOp_put (ops:=ops) om h.sm a (some d) v fun x hx=>apx.1 x (by rw[h.dc,hx])
 have e_mm: ∀(a:Act) v,execOp (a.put (some tm) v).eval om=execOp a.eval om:=fun a v=>execOp_put (ops:=ops) om h.sm a (some tm) v fun x hx=>by injection hx with hx;subst hx;exact h.selfm
 induction fuel with
 | zero=>
   intro listed a w hw hc hcn hn hh
   have:=hh.1
   rw[h.ok.ready] at this
   exact absurd this (h.ok.stuck hc.1 (c+2) (by rw[h.ok.size];omega) hn)
 | succ fuel ih=>
   intro listed a w hw hc hcn hn hh
   have hs:listed.size=c+3:=hc.1.trans h.ok.size
   refine⟨fun h0=>absurd h0 (h.ok.stuck hc.1 (c+2) (by rw[h.ok.size];omega) hn),fun i hi=> ?_⟩
   have hq:=hh.2 i (by rw[h.ok.ready];exact hi)
   obtain⟨hi0,o,ho,_⟩:=mem_ready.1 hi
   have hlt:i<c+3:=by rw[←h.ok.size];exact(Array.getElem?_eq_some_iff.1 ho).1
   have hin:i≠c+2:=by
    intro e
    subst e
    have:=h.ok.all hc hi _ c rfl (by omega)
    rw[getD_tf (by omega),this] at hcn
    cases hcn
   by_cases hic:i=c
   ·subst hic
    have hc':=hc.set hi
    have hhead:=h.head hc hi
    unfold wpOp
    unfold qOp at hq
    simp only[h.getc,h.getc'] at hq⊢
    rw[if_pos (wanted_none h.gc _)]
    rw[if_pos (wanted_none (show(dumO oc).guard=none from h.gc) _)] at hq
    obtain⟨v0,_,hK⟩:=hq
    rw[show(dumO oc).dst=some d from h.dc] at hK
    refine .inl ?_
    unfold Oper.wp
    have hn':(listed.setIfInBounds i true).getD (i+2) true=false:=by rw[getD_set_ne true (by omega)];exact hn
    by_cases hml:listed.getD (i+1) false=true
    ·have near:Near i (listed.setIfInBounds i true):=⟨hn',fun j hj=>by
      by_cases e:i=j
      ·subst e;simp[hs]
      ·rw[getD_set_ne false e]
       by_cases e1:j=i+1
       ·subst e1;exact hml
       ·exact hhead _ j rfl (by omega)⟩
     obtain⟨_,hB⟩:=h.getQ hc' near hK
     obtain⟨f,args,hr,hcl⟩:=hB w hw
     rw[e_c] at hr
     rw[hr]
     simp only[Oper.upon]
     refine hcl.mono fun e w2 he=> ?_
     obtain⟨v,rfl,hl⟩:=he
     rw[put_put] at hl
     show wpAny P .any ops Q' fuel (listed.setIfInBounds i true) (a.put oc.dst v) w2
     rw[h.dc]
     cases fuel with
     | zero=>have h1:=hK.1;rw[h.ok.ready] at h1;exact absurd h1 (h.only hc' near).1
     | succ f=>exact h.fin hc' near hl f
    ·have hml':listed.getD (i+1) true=false:=by rw[getD_tf (by omega)];simpa using hml
     have hml2:(listed.setIfInBounds i true).getD (i+1) true=false:=by rw[getD_set_ne true (by omega)];exact hml'
     have honly: ∀j∈Region.ready .any ops (listed.setIfInBounds i true),j=i+1:=fun j hj=>by
      obtain⟨hj0,oj,hoj,_⟩:=mem_ready.1 hj
      have hjlt:j<i+3:=by rw[←h.ok.size];exact(Array.getElem?_eq_some_iff.1 hoj).1
      by_cases e2:j=i+2
      ·subst e2
       have:=h.ok.all hc' hj _ (i+1) rfl (by omega)
       rw[getD_tf (by simp[hs]),this] at hml2
       cases hml2
      ·by_cases e0:i=j
       ·subst e0;simp[hs] at hj0
       ·by_cases e1:j=i+1
        ·exact e1
        ·rw[getD_set_ne true e0,getD_tf (by omega),hhead _ j rfl (by omega)] at hj0
         cases hj0
     have hne:=h.ok.stuck hc'.1 (i+1) (by rw[h.ok.size];omega) hml2
     have hmr:i+1∈Region.ready .any ops (listed.setIfInBounds i true):=by
      obtain⟨j,hj⟩:=List.exists_mem_of_ne_nil _ hne
      have:=honly j hj
      subst this
      exact hj
     cases fuel with
     | zero=>have h1:=hK.1;rw[h.ok.ready] at h1;exact absurd h1 hne
     | succ f=>
       have hq2:=hK.2 (i+1) (by rw[h.ok.ready];exact hmr)
       unfold qOp at hq2
       simp only[h.getm'] at hq2
       rw[if_pos (wanted_none h.gm _)] at hq2
       obtain⟨um,hum,hK2⟩:=hq2
       rw[h.dm] at hK2
       have hc2:=hc'.set hmr
       have near:Near i ((listed.setIfInBounds i true).setIfInBounds (i+1) true):=⟨by rw[getD_set_ne true (by omega)];exact hn',fun j hj=>by
        by_cases e1:i+1=j
        ·subst e1;simp[hs]
        ·rw[getD_set_ne false e1]
         by_cases e:i=j
         ·subst e;simp[hs]
         ·rw[getD_set_ne false e]
          exact hhead _ j rfl (by omega)⟩
       obtain⟨⟨vm,hvm⟩,hB⟩:=h.getQ hc2 near hK2
       have hu:=hum w hw
       unfold Oper.quietAt at hu
       rw[e_mm] at hvm
       rw[hvm w] at hu
       obtain⟨_,hu⟩:=hu
       obtain⟨f2,args,hr,hcl⟩:=hB w hw
       rw[e_cm,e_c] at hr
       rw[hr]
       simp only[Oper.upon]
       refine hcl.mono fun e w2 he=> ?_
       obtain⟨v,rfl,hl⟩:=he
       rw[Act.put_comm (a.put (some d) v0) um v (fun x hx=>by injection hx with hx;subst hx;exact hdm),put_put,←hu] at hl
       show wpAny P .any ops Q' (f+1) (listed.setIfInBounds i true) (a.put oc.dst v) w2
       rw[h.dc]
       refine⟨fun h0=>absurd h0 hne,fun j hj=> ?_⟩
       have hj1:=honly j hj
       subst hj1
       unfold wpOp
       simp only[h.getm]
       rw[if_pos (wanted_none h.gm _)]
       refine .inl ?_
       unfold Oper.wp
       rw[e_m,←e_m a v0,hvm w2]
       show wpAny P .any ops Q' f _ ((a.put (some d) v).put om.dst vm) w2
       rw[h.dm]
       cases f with
       | zero=>have h1:=hK2.1;rw[h.ok.ready] at h1;exact absurd h1 (h.only hc2 near).1
       | succ f=>exact h.fin hc2 near hl f
   ·have hw2:wpOp P ops Q' i (wpAny P .any ops Q' fuel (listed.setIfInBounds i true)) a w=wpOp P ops' Q' i (wpAny P .any ops Q' fuel (listed.setIfInBounds i true)) a w:=by
     unfold wpOp
     rw[h.ok.yielded]
     by_cases e1:i=c+1
     ·subst e1;rw[h.getm,h.getm']
     ·rw[hsame i (by omega)]
    rw[hw2]
    exact wpOp_of_qOp hw (fun a' w' hw' hk=>ih _ a' w' hw' (hc.set hi) (by rw[getD_set_ne true hic];exact hcn) (by rw[getD_set_ne true hin];exact hn) hk) hq
end
theorem c3_of {l:List Oper} {c:Nat} (hl:l.length=c+3) (hB:call3B l.toArray c=true): ∃oc om st d tm,tail3 l= [oc,om,st]∧C3 l.toArray (dum3 l).toArray c oc om st d tm∧ ∀j,j<c→(dum3 l).toArray[j]? =l.toArray[j]? :=by
 obtain⟨oc,om,st,h1,h2,h3,h4,h5,h6,h7,h8⟩:=dum3_spec l c hl
 unfold call3B at hB
 simp only[Bool.and_eq_true,List.all_eq_true,List.mem_range,List.any_eq_true,decide_eq_true_eq] at hB
 obtain⟨⟨hL,hS⟩,hM⟩:=hB
 have e1:l.toArray[c]? =some oc:=by simpa using h1
 have e2:l.toArray[c+1]? =some om:=by simpa using h2
 have e3:l.toArray[c+2]? =some st:=by simpa using h3
 have f1:(dum3 l).toArray[c]? =some (dumO oc):=by simpa using h5
 have f2:(dum3 l).toArray[c+1]? =some om:=by simpa using h6
 have f3:(dum3 l).toArray[c+2]? =some (dumO st):=by simpa using h7
 have f4: ∀j,j<c→(dum3 l).toArray[j]? =l.toArray[j]? :=fun j hj=>by simpa using h8 j hj
 rw[e1,e2] at hM
 simp only[Bool.and_eq_true,Option.isNone_iff_eq_none] at hM
 obtain⟨⟨⟨⟨⟨⟨gc,gm⟩,ap⟩,sd⟩,sm⟩,nsc⟩,nsm⟩:=hM
 obtain⟨d,dc⟩: ∃d,oc.dst=some d:=by
  cases h:oc.dst with
  | none=>rw[h] at sd;cases sd
  | some d=>exact⟨d,rfl⟩
 obtain⟨tm,dm⟩: ∃d,om.dst=some d:=by
  cases h:om.dst with
  | none=>rw[h] at sm;cases sm
  | some d=>exact⟨d,rfl⟩
 rw[dc] at sd
 rw[dm] at sm
 refine⟨oc,om,st,d,tm,h4,?_,f4⟩
 unfold lastB at hL
 simp only[Bool.and_eq_true,List.all_eq_true,List.mem_range,List.any_eq_true,decide_eq_true_eq] at hL
 obtain⟨⟨hb,hc⟩,hg⟩:=hL
 rw[e3] at hg
 simp only[Bool.and_eq_true,Option.isNone_iff_eq_none] at hg
 have hlk: ∀j,j<c+2→((dum3 l).toArray[j]?).map (·.after)=(l.toArray[j]?).map (·.after)∧((dum3 l).toArray[j]?).bind (·.dst)=(l.toArray[j]?).bind (·.dst):=fun j hj=>by
  rcases Nat.lt_or_ge j c with h | h
  ·rw[f4 j h];exact⟨rfl,rfl⟩
  ·rcases(show j=c∨j=c+1 by omega) with rfl | rfl
   ·rw[e1,f1];exact⟨rfl,rfl⟩
   ·rw[e2,f2];exact⟨rfl,rfl⟩
 have ok:LastOk l.toArray (dum3 l).toArray (c+2) st (dumO st):=by
  refine⟨by simpa using hl,by simpa[dum3_len] using hl,hlk,e3,f3,rfl,hg.1,hg.1,hg.2,hg.2,fun i o ho e he hbd=> ?_,fun i hi=> ?_⟩
  ·have hi:=(Array.getElem?_eq_some_iff.1 ho).1
   have:=hb i hi
   rw[ho] at this
   have:=Array.all_eq_true_iff_forall_mem.1 this e he
   rw[hbd] at this
   simpa using this
  ·obtain⟨j,_,hij,hm⟩:=hc i hi
   obtain⟨o,ho,h⟩:=waitsB_spec (ops:=l.toArray) (j:=j) (i:=i) hm
   exact⟨j,o,hij,ho,h⟩
 refine⟨ok,e1,f1,e2,f2,gc,gm,dc,dm,ap,by simpa using sd,by simpa using sm,fun cs b h=>(by rw[h] at nsc;cases nsc),fun cs b h=>(by rw[h] at nsm;cases nsm),fun i hi=> ?_⟩
 obtain⟨j,hj,hij,hw⟩:=hS i hi
 obtain⟨o,ho,h⟩:=waitsB_spec hw
 exact⟨j,o,hij,by omega,ho,h⟩
theorem wp_region_call3 {P:Program} {id:Nat} {Q:Exit→Act→World→Prop} {a:Act} {w:World} {l:List Oper} {oc om st:Oper} {d:Tmp} (c:Nat) (hm:P.follows .mixedOrders=true) (hl:l.length=c+3) (hB:Region.lexB .any (dum3 l).toArray=true) (hL:call3B l.toArray c=true)
  (h3:tail3 l= [oc,om,st]) (hd:oc.dst=some d)
  (h:wpQuiet P (dum3 l).toArray (fun w'=> ∃p:BelW w,w'=p.W) (CallAsk P (fun w'=> ∃p:BelW w,w'=p.W) Q oc om st d) (dum3 l) a):(Code.region id l.toArray true).wp P Q a w:=by
 obtain⟨oc',om',st',d',tm,e,hok,hs⟩:=c3_of hl hL
 rw[h3] at e
 injection e with x1 e
 injection e with x2 e
 injection e with x3 _
 subst x1 x2 x3
 have hdd:d=d':=by have:=hok.dc;rw[hd] at this;injection this
 subst hdd
 simp only[Region.lexB,Bool.and_eq_true] at hB
 refine wp_region_any hm (hok.main (C:=fun w'=> ∃p:BelW w,w'=p.W) hs _ _ _ _ ⟨⟨w.drew,(Below.refl _ _).drew⟩,rfl⟩ ⟨by simp,?_⟩ ?_ ?_ ?_)
 ·intro j o ho hj
  exfalso
  rw[getD_replicate_false'] at hj
  cases hj
 ·rw[getD_tf (by simp[hl]),getD_replicate_false']
 ·rw[getD_tf (by simp[hl]),getD_replicate_false']
 ·have:=wpAnyQ_lex (P:=P) (C:=fun w'=> ∃p:BelW w,w'=p.W) (md:= .any) hB.1 (dum3 l) 0 (Array.replicate (dum3 l).toArray.size false) a (by simp) (by simpa using hB.2) h
  simpa[dum3_len] using this
end Go.Proofs.YtnjpoljbagfdnaaGreat
namespace Go.Proofs.YtnjpoljbagfdnaaGreat
set_option maxRecDepth 20000
set_option linter.unusedVariables false
set_option linter.unusedSimpArgs false
open Go.RowKit
theorem ArgE.cells {w:World} {ad:Addr} {m cap:Nat} {es:List EdD} (h:ArgE w (.slice (some ad) m cap) es): ∀j y,(edCs es)[j]? =some y→w.cell? (ad.add j)=some y:=by
 intro j y hj
 have hlt:j<es.length*3:=by
  have:=(List.getElem?_eq_some_iff.1 hj).1
  rw[edCs_length] at this
  exact this
 have hk:j/3<es.length:=by omega
 obtain⟨b,off,hA,_,c0,c1,c2,_⟩:=h.at hk
 injection hA with hA
 subst hA
 have hg:=edCs_get es (j/3) (j%3) hk (by omega)
 have e:j/3*3+j%3=j:=by omega
 rw[e,hj] at hg
 rw[Addr.add_lit]
 have hr:j%3=0∨j%3=1∨j%3=2:=by omega
 rcases hr with hr | hr | hr
 ·rw[hr] at hg
  simp only[edC,List.getElem?_cons_zero] at hg
  rw[hg,←c0]
  congr 2;omega
 ·rw[hr] at hg
  simp only[edC,List.getElem?_cons_zero,List.getElem?_cons_succ] at hg
  rw[hg,←c1]
  congr 2;omega
 ·rw[hr] at hg
  simp only[edC,List.getElem?_cons_zero,List.getElem?_cons_succ] at hg
  rw[hg,←c2]
  congr 2;omega
theorem push_edge {w:World} {ops:Array Oper} {rest:List Oper} {o:Oper} {a:Act} {Q:Exit→Act→World→Prop} (hgd:o.guard=none) (s x:Operand)
  (ho:o.op= .call {callee:= .builtin .append,args:= #[s,x],argTypes:= #[24,24]})
  (base:Nat) (v:Value) (es:List EdD) (hown:OwE w base v es) (hs:a.eval s=v) (b:Nat) (e:EdD) (hx:a.eval x= .slice (some ⟨b,0,none⟩) 1 1)
  (hc: ∀j u,(edC e)[j]? =some u→w.cell? ⟨b,j,none⟩=some u) (he:E64 e) (hl:es.length≤1073741824) (hbase:base≤w.heap.size)
  (h: ∀v' w',OwE w' base v' (es++ [e])→w.grownBy w' v.ownBlock→(v'.ownBlock=v.ownBlock∨v'.ownBlock=some w.heap.size)→wpList Tryz.prog ops Q rest (a.put o.dst v') w'):
  wpList Tryz.prog ops Q (o::rest) a w:=by
 obtain⟨i0,hi0,hz0,hz1,hz2⟩:=info_parts edge_info
 refine wpList_append_own_at _ hgd s x 24 ho base 97 i0 _ 3 24 Tryz.underlying24 hi0 hz0 hz1 hz2 rfl (by decide) v es.length (edCs es) hs hown.1 ⟨b,0,none⟩ 1 1 (edC e) hx rfl ?_ ?_ (by unfold maxLen;omega) (by omega) hbase ?_
 ·intro j u hj
  rw[Addr.add_lit,Nat.zero_add]
  exact hc j u hj
 ·intro u hu
  simp[edC] at hu
  rcases hu with rfl | rfl | rfl<;>rfl
 ·intro v' w' h1 h2 h3 h5
  refine h v' w' ⟨?_,E64s_append hown.2 (E64s_one he)⟩ h2 h5
  have e1:edCs (es++ [e])=edCs es++edC e:=by rw[edCs_append];simp[edCs]
  rw[e1,List.length_append]
  exact h1
theorem wp_append_edges {w:World} {o:Oper} {a:Act} {K:Act→World→Prop} {Q:Exit→Act→World→Prop} (s x:Operand)
  (ho:o.op= .call {callee:= .builtin .append,args:= #[s,x],argTypes:= #[24,24]})
  (base:Nat) (v:Value) (xs:List EdD) (hown:OwE w base v xs) (hs:a.eval s=v) (u:Value) (ys:List EdD) (hr:ArgE w u ys) (hx:a.eval x=u)
  (hl:xs.length+ys.length≤1073741824) (hbase:base≤w.heap.size)
  (h: ∀v' w',OwE w' base v' (xs++ys)→w.grownBy w' v.ownBlock→(v'.ownBlock=v.ownBlock∨v'.ownBlock=some w.heap.size)→K (a.put o.dst v') w'):
  o.wp Tryz.prog a w K Q:=by
 obtain⟨i0,hi0,hz0,hz1,hz2⟩:=info_parts edge_info
 have hr0:=hr
 obtain⟨A,cap,rfl,hc,hm,hn,hE,hb⟩:=hr
 rcases A with _ | ad
 ·have h0:ys= []:=List.eq_nil_of_length_eq_zero (by
   rcases Nat.eq_zero_or_pos ys.length with h0 | h0
   ·exact h0
   ·obtain⟨_,_,h,_⟩:=hb h0;cases h)
  subst h0
  obtain rfl:=hn rfl
  have hrun:=run_append_owned_none (P:=Tryz.prog) w base 24 o.type 97 i0 3 Tryz.underlying24 hi0 v xs.length (edCs xs) hown.1
  unfold Oper.wp execOp
  simp only[ho,resolve,invoke,builtin,Sem.run_bind,Sem.run_pure,Result.andThen_ok,List.map_toArray,List.map_cons,List.map_nil,hs,hx,List.length_nil,hrun]
  exact h v w (by simpa using hown) (World.grownBy.refl _ _) (.inl rfl)
 ·obtain⟨v',w',hrun,h1,h2,_,h5⟩:=run_append_own_at (P:=Tryz.prog) w base 24 o.type 97 i0 _ 3 24 Tryz.underlying24 hi0 hz0 hz1 hz2 rfl (by decide) v xs.length (edCs xs) hown.1 ad ys.length cap (edCs ys) (by rw[edCs_length])
   hr0.cells (fun u hu=>edCs_one hu) (by unfold maxLen;omega) (by omega) hbase
  unfold Oper.wp execOp
  simp only[ho,resolve,invoke,builtin,Sem.run_bind,Sem.run_pure,Result.andThen_ok,List.map_toArray,List.map_cons,List.map_nil,hs,hx,hrun]
  exact h v' w' ⟨by rw[edCs_append,List.length_append];exact h1,E64s_append hown.2 hE⟩ h2 h5
theorem append_edges {w:World} {ops:Array Oper} {rest:List Oper} {o:Oper} {a:Act} {Q:Exit→Act→World→Prop} (hgd:o.guard=none) (s x:Operand)
  (ho:o.op= .call {callee:= .builtin .append,args:= #[s,x],argTypes:= #[24,24]})
  (base:Nat) (v:Value) (xs:List EdD) (hown:OwE w base v xs) (hs:a.eval s=v) (u:Value) (ys:List EdD) (hr:ArgE w u ys) (hx:a.eval x=u)
  (hl:xs.length+ys.length≤1073741824) (hbase:base≤w.heap.size)
  (h: ∀v' w',OwE w' base v' (xs++ys)→w.grownBy w' v.ownBlock→(v'.ownBlock=v.ownBlock∨v'.ownBlock=some w.heap.size)→wpList Tryz.prog ops Q rest (a.put o.dst v') w'):
  wpList Tryz.prog ops Q (o::rest) a w:=
 wpList_plain hgd fun _ hK=>wp_append_edges s x ho base v xs hown hs u ys hr hx hl hbase fun v' w' h1 h2 h3=>hK _ _ (h v' w' h1 h2 h3)
theorem step_append_edges {w:World} {ops:Array Oper} {o:Oper} {a:Act} {K:Act→World→Prop} {Q:Exit→Act→World→Prop} {E:Prop} (hgd:o.guard=none) (s x:Operand)
  (ho:o.op= .call {callee:= .builtin .append,args:= #[s,x],argTypes:= #[24,24]})
  (base:Nat) (v:Value) (xs:List EdD) (hown:OwE w base v xs) (hs:a.eval s=v) (u:Value) (ys:List EdD) (hr:ArgE w u ys) (hx:a.eval x=u)
  (hl:xs.length+ys.length≤1073741824) (hbase:base≤w.heap.size)
  (h: ∀v' w',OwE w' base v' (xs++ys)→w.grownBy w' v.ownBlock→(v'.ownBlock=v.ownBlock∨v'.ownBlock=some w.heap.size)→K (a.put o.dst v') w'):
  if Region.wanted o (yielded ops a.tmps)=true then Oper.wp Tryz.prog o a w K Q else E:=by
 have hw:Region.wanted o (yielded ops a.tmps)=true:=by simp[Region.wanted,hgd]
 rw[if_pos hw]
 exact wp_append_edges s x ho base v xs hown hs u ys hr hx hl hbase h
theorem OwE_litN (w:World) (N:Nat) (hN:w.heap.size=N) {base:Nat} (hb:base≤N):OwE (w.alloc (.cells #[] 97)) base (.slice (some ⟨N,0,none⟩) 0 0) []:=by
 subst hN;exact OwE_lit w hb
set_option maxHeartbeats 1000000 in
theorem l4Copy_any (v:Value) (g:GrD) (w:World) (h:ArgG w v g) (hl:g.2.2.length≤1073741824):
  Calls Tryz.prog 121 #[v] w fun e w'=> ∃r,e= .returned r∧OwG w' w.heap.size r g∧Below w.heap.size w w':=by
 obtain⟨s,rfl,h1,h2,ha⟩:=h
 have H:=hDD ha
 obtain⟨A,cap,rfl⟩:=ha.form
 clear ha
 go_enter Tryz.func121,Tryz.ntmps121
 go_wp2_with fail
 go_region_held3 (fun w'=>w'.cell? ⟨w.heap.size,0,none⟩=some (.int .i64 g.1)∧w'.cell? ⟨w.heap.size,1,none⟩=some (.int .i64 g.2.1)∧w'.cell? ⟨w.heap.size,2,none⟩=some (.slice A g.2.2.length cap)) (first | go_keep | (refine⟨?_,?_,?_⟩<;>(rw[hc _ _ (by omega)];simp[go_sem])))
  (first | (refine step_append_edges rfl (.tmp 7) (.tmp 9) rfl (w.heap.size+1+1) _ [] (OwE_litN _ (w.heap.size+1+1) (by simp[World.drew,World.drewN]) (Nat.le_refl _)) (by rfl) _ g.2.2 ?_ (by rfl) (by simp;omega) (by simp) ?_;(exact(by repeat(first | exact(Hid.out H) | (refine ArgE.drew ?_) | (refine ArgE.drewN ?_ _) | (refine ArgE.alloc ?_ _))));intro v1 w1 o1 g1 p1;have O1:=hDD o1;have hb1:=(Below.refl (w.heap.size+1+1) _).grown g1 (by simp) (fun k hk=>by simp[Value.ownBlock] at hk;omega);have B1:=hDD hb1;obtain⟨A1,cap1,rfl,_⟩:=OwE.form o1;obtain⟨hc,hf⟩:=bcellN hb1;have hz:w.heap.size+1+1<w1.heap.size:=(by have:=g1.size;simp at this;omega);clear o1 hb1 g1 p1))
 go_wp2
 refine bodyPost_ret (v:= .agg #[.int .i64 g.1, .int .i64 g.2.1, .slice A1 g.2.2.length cap1]) (by simp[results,Tryz.results121,go_sem,hc,hz]) rfl ⟨_,rfl,⟨_,rfl,h1,h2,?_⟩,?_⟩
 ·refine OwE.mono (base:=w.heap.size+1+1) ?_ (by omega)
  have O2:Hid (OwE w1 (w.heap.size+1+1) (.slice A1 g.2.2.length cap1) g.2.2):=hDD (by simpa using O1.out)
  exact(by repeat(first | exact(Hid.out O2) | exact(Hid.out O2).drewN _ | (refine OwE.far ?_ (by first | omega | (simp<;>omega)) _) | (refine OwE.alloc ?_ _) | (refine OwE.drew ?_) | (refine OwE.drewN ?_ _)))
 ·exact(by repeat(first | exact Below.refl _ _ | (refine Below.setCell ?_ (by first | omega | (simp<;>omega)) _) | (refine bel_drewN ?_ _) | (refine Below.drew ?_) | (refine Below.alloc ?_ (by first | omega | (simp<;>omega)) _) | (refine Below.trans ?_ (Below.mono (Hid.out B1) (by first | omega | (simp<;>omega))))))
set_option maxHeartbeats 1000000 in
theorem copyGraph_any (v:Value) (g:GrD) (w:World) (h:ArgG w v g) (hl:g.2.2.length≤1073741824):
  Calls Tryz.prog 120 #[v] w fun e w'=> ∃r,e= .returned r∧OwG w' w.heap.size r g∧Below w.heap.size w w':=by
 obtain⟨s,rfl,h1,h2,ha⟩:=h
 have H:=hDD ha
 obtain⟨A,cap,rfl⟩:=ha.form
 clear ha
 go_enter Tryz.func120,Tryz.ntmps120
 go_wp2_with fail
 go_region_held3 (fun w'=>w'.cell? ⟨w.heap.size,0,none⟩=some (.int .i64 g.1)∧w'.cell? ⟨w.heap.size,1,none⟩=some (.int .i64 g.2.1)∧w'.cell? ⟨w.heap.size,2,none⟩=some (.slice A g.2.2.length cap)) (first | go_keep | (refine⟨?_,?_,?_⟩<;>(rw[hc _ _ (by omega)];simp[go_sem])))
  (first | (refine step_append_edges rfl (.tmp 7) (.tmp 9) rfl (w.heap.size+1+1) _ [] (OwE_litN _ (w.heap.size+1+1) (by simp[World.drew,World.drewN]) (Nat.le_refl _)) (by rfl) _ g.2.2 ?_ (by rfl) (by simp;omega) (by simp) ?_;(exact(by repeat(first | exact(Hid.out H) | (refine ArgE.drew ?_) | (refine ArgE.drewN ?_ _) | (refine ArgE.alloc ?_ _))));intro v1 w1 o1 g1 p1;have O1:=hDD o1;have hb1:=(Below.refl (w.heap.size+1+1) _).grown g1 (by simp) (fun k hk=>by simp[Value.ownBlock] at hk;omega);have B1:=hDD hb1;obtain⟨A1,cap1,rfl,_⟩:=OwE.form o1;obtain⟨hc,hf⟩:=bcellN hb1;have hz:w.heap.size+1+1<w1.heap.size:=(by have:=g1.size;simp at this;omega);clear o1 hb1 g1 p1))
 go_wp2
 refine bodyPost_ret (v:= .agg #[.int .i64 g.1, .int .i64 g.2.1, .slice A1 g.2.2.length cap1]) (by simp[results,Tryz.results120,go_sem,hc,hz]) rfl ⟨_,rfl,⟨_,rfl,h1,h2,?_⟩,?_⟩
 ·refine OwE.mono (base:=w.heap.size+1+1) ?_ (by omega)
  have O2:Hid (OwE w1 (w.heap.size+1+1) (.slice A1 g.2.2.length cap1) g.2.2):=hDD (by simpa using O1.out)
  exact(by repeat(first | exact(Hid.out O2) | exact(Hid.out O2).drewN _ | (refine OwE.far ?_ (by first | omega | (simp<;>omega)) _) | (refine OwE.alloc ?_ _) | (refine OwE.drew ?_) | (refine OwE.drewN ?_ _)))
 ·exact(by repeat(first | exact Below.refl _ _ | (refine Below.setCell ?_ (by first | omega | (simp<;>omega)) _) | (refine bel_drewN ?_ _) | (refine Below.drew ?_) | (refine Below.alloc ?_ (by first | omega | (simp<;>omega)) _) | (refine Below.trans ?_ (Below.mono (Hid.out B1) (by first | omega | (simp<;>omega))))))
def degE (v:Int) (e:EdD):Nat:=(if e.1=v then 1 else 0)+(if e.2.2=v then 1 else 0)
def degL (es:List EdD) (v:Int):Nat:=(es.map (degE v)).sum
theorem degL_succ (es:List EdD) (v:Int) (k:Nat) (h:k<es.length):degL (es.take (k+1)) v=degL (es.take k) v+degE v es[k]:=by
 unfold degL
 rw[List.take_succ_eq_append_getElem h,List.map_append,List.sum_append]
 simp
theorem degL_le (es:List EdD) (v:Int) (k:Nat):degL (es.take k) v≤2*k:=by
 have key: ∀l:List EdD,degL l v≤2*l.length:=by
  intro l
  unfold degL
  induction l with
  | nil=>simp
  | cons e l ih=>
    simp only[List.map_cons,List.sum_cons,List.length_cons]
    have:degE v e≤2:=by unfold degE;split<;>split<;>omega
    omega
 have:=key (es.take k)
 rw[List.length_take] at this
 omega
set_option maxHeartbeats 1000000 in
theorem specDegreeOf_any (v:Value) (g:GrD) (u:Int) (w:World) (h:ArgG w v g) (hl:g.2.2.length≤1073741824):
  Calls Tryz.prog 162 #[v, .int .i64 u] w fun e w'=>e= .returned (.int .i64 (degL g.2.2 u))∧Below w.heap.size w w':=by
 obtain⟨s,rfl,_,_,ha⟩:=h
 have H:=hDD ha
 obtain⟨A,cap,rfl,hcap,hm,_⟩:=ha
 unfold maxLen at hm
 go_enter Tryz.func162,Tryz.ntmps162
 go_wp2
 have hb:Below w.heap.size w (w.alloc (Obj.cells #[Value.int IntKind.i64 g.1,Value.int IntKind.i64 g.2.1, .slice A g.2.2.length cap] 26)):=(by repeat(first | exact Below.refl _ _ | (refine Below.setCell ?_ (by first | omega | (simp<;>omega)) _) | (refine bel_drewN ?_ _) | (refine Below.drew ?_) | (refine Below.alloc ?_ (by first | omega | (simp<;>omega)) _)))
 have k2:(w.alloc (Obj.cells #[Value.int IntKind.i64 g.1,Value.int IntKind.i64 g.2.1, .slice A g.2.2.length cap] 26)).cell? ⟨w.heap.size,2,none⟩=some (.slice A g.2.2.length cap):=by simp[go_sem]
 generalize w.alloc (Obj.cells #[Value.int IntKind.i64 g.1,Value.int IntKind.i64 g.2.1, .slice A g.2.2.length cap] 26)=w1 at hb k2⊢
 have HB:=hDD hb
 clear hb
 go_loop [5,6] (fun n i=> ∃k:Nat,k≤g.2.2.length∧i= .int .i64 k∧n= .int .i64 (degL (g.2.2.take k) u)) (fun _ i=>g.2.2.length-(intOf i).toNat)
 case atStart=>exact⟨0,Nat.zero_le _,rfl,rfl⟩
 case round=>
  obtain⟨k,hk,rfl,rfl⟩:=hrel
  by_cases hlt:k<g.2.2.length
  ·obtain⟨b,off,rfl,hbl,c0,c1,c2,_⟩:=(H.out.below HB.out).at hlt
   have HS:=hDD (degL_succ g.2.2 u k hlt)
   have hle:=degL_le g.2.2 u k
   generalize g.2.2[k]=e at*
   generalize degL (g.2.2.take k) u=d at*
   rcases e1:(e.1==u) with _ | _
   ·rcases e2:(e.2.2==u) with _ | _
    ·have F:Hid (degL (g.2.2.take (k+1)) u=d):=hDD (by rw[HS.out];simp at e1 e2;simp[degE,e1,e2])
     go_wp2
     go_round
     case rel=>exact⟨k+1,by omega,by go_num,by rw[F.out]⟩
     case measure=>simp[intOf];omega
    ·have F:Hid (degL (g.2.2.take (k+1)) u=d+1):=hDD (by rw[HS.out];simp at e1 e2;simp[degE,e1,e2])
     go_wp2
     go_round
     case rel=>exact⟨k+1,by omega,by go_num,by rw[F.out];go_num⟩
     case measure=>simp[intOf];omega
   ·rcases e2:(e.2.2==u) with _ | _
    ·have F:Hid (degL (g.2.2.take (k+1)) u=d+1):=hDD (by rw[HS.out];simp at e1 e2;simp[degE,e1,e2])
     go_wp2
     go_round
     case rel=>exact⟨k+1,by omega,by go_num,by rw[F.out];go_num⟩
     case measure=>simp[intOf];omega
    ·have F:Hid (degL (g.2.2.take (k+1)) u=d+2):=hDD (by rw[HS.out];simp at e1 e2;simp[degE,e1,e2])
     go_wp2
     go_round
     case rel=>exact⟨k+1,by omega,by go_num,by rw[F.out];go_num⟩
     case measure=>simp[intOf];omega
  ·obtain rfl:k=g.2.2.length:=by omega
   rw[List.take_length]
   go_wp2
   go_ret
   exact⟨rfl,HB.out⟩
set_option maxHeartbeats 1000000 in
theorem implDegreeOf_any (v:Value) (g:GrD) (u:Int) (w:World) (h:ArgG w v g) (hl:g.2.2.length≤1073741824):
  Calls Tryz.prog 157 #[v, .int .i64 u] w fun e w'=>e= .returned (.int .i64 (degL g.2.2 u))∧Below w.heap.size w w':=by
 obtain⟨s,rfl,_,_,ha⟩:=h
 have H:=hDD ha
 obtain⟨A,cap,rfl,hcap,hm,_⟩:=ha
 unfold maxLen at hm
 go_enter Tryz.func157,Tryz.ntmps157
 go_wp2
 have hb:Below w.heap.size w (w.alloc (Obj.cells #[Value.int IntKind.i64 g.1,Value.int IntKind.i64 g.2.1, .slice A g.2.2.length cap] 26)):=(by repeat(first | exact Below.refl _ _ | (refine Below.setCell ?_ (by first | omega | (simp<;>omega)) _) | (refine bel_drewN ?_ _) | (refine Below.drew ?_) | (refine Below.alloc ?_ (by first | omega | (simp<;>omega)) _)))
 generalize w.alloc (Obj.cells #[Value.int IntKind.i64 g.1,Value.int IntKind.i64 g.2.1, .slice A g.2.2.length cap] 26)=w1 at hb⊢
 have HB:=hDD hb
 clear hb
 go_loopw [5,11] (fun n i wr=> ∃k:Nat,k≤g.2.2.length∧i= .int .i64 k∧n= .int .i64 (degL (g.2.2.take k) u)∧Below w.heap.size w wr) (fun _ i _=>g.2.2.length-(intOf i).toNat)
 case atStart=>exact⟨0,Nat.zero_le _,rfl,rfl,HB.out⟩
 case round=>
  obtain⟨k,hk,rfl,rfl,hbel⟩:=hrel
  have HB2:=hDD hbel
  have hsz:=hbel.size
  clear hbel
  by_cases hlt:k<g.2.2.length
  ·obtain⟨b,off,rfl,hbl,c0,c1,c2,_⟩:=(H.out.below HB2.out).at hlt
   have HS:=hDD (degL_succ g.2.2 u k hlt)
   have hle:=degL_le g.2.2 u k
   generalize g.2.2[k]=e at*
   generalize degL (g.2.2.take k) u=d at*
   rcases e1:(e.1==u) with _ | _
   ·rcases e2:(e.2.2==u) with _ | _
    ·have F:Hid (degL (g.2.2.take (k+1)) u=d):=hDD (by rw[HS.out];simp at e1 e2;simp[degE,e1,e2])
     go_wp2
     go_roundw
     case rel=>exact⟨k+1,by omega,by go_num,by rw[F.out],HB2.out.alloc hsz _⟩
     case measure=>simp[intOf];omega
    ·have F:Hid (degL (g.2.2.take (k+1)) u=d+1):=hDD (by rw[HS.out];simp at e1 e2;simp[degE,e1,e2])
     go_wp2
     go_roundw
     case rel=>exact⟨k+1,by omega,by go_num,by rw[F.out];go_num,HB2.out.alloc hsz _⟩
     case measure=>simp[intOf];omega
   ·rcases e2:(e.2.2==u) with _ | _
    ·have F:Hid (degL (g.2.2.take (k+1)) u=d+1):=hDD (by rw[HS.out];simp at e1 e2;simp[degE,e1,e2])
     go_wp2
     go_roundw
     case rel=>exact⟨k+1,by omega,by go_num,by rw[F.out];go_num,HB2.out.alloc hsz _⟩
     case measure=>simp[intOf];omega
    ·have F:Hid (degL (g.2.2.take (k+1)) u=d+2):=hDD (by rw[HS.out];simp at e1 e2;simp[degE,e1,e2])
     go_wp2
     go_roundw
     case rel=>exact⟨k+1,by omega,by go_num,by rw[F.out];go_num,HB2.out.alloc hsz _⟩
     case measure=>simp[intOf];omega
  ·obtain rfl:k=g.2.2.length:=by omega
   rw[List.take_length]
   go_wp2
   go_ret
   exact⟨rfl,HB2.out⟩
end Go.Proofs.YtnjpoljbagfdnaaGreat
namespace Go.Proofs.YtnjpoljbagfdnaaGreat
set_option maxRecDepth 20000
set_option linter.unusedVariables false
set_option linter.unusedSimpArgs false
open Go.RowKit
theorem edC_new (w:World) (e:EdD) (t:TypeId) (j:Nat) (u:Value) (h:(edC e)[j]? =some u):(w.alloc (.cells #[.int .i64 e.1, .int .i64 e.2.1, .int .i64 e.2.2] t)).cell? ⟨w.heap.size,j,none⟩=some u:=by
 match j with
 | 0=>simp[edC] at h;subst h;simp[go_sem]
 | 1=>simp[edC] at h;subst h;simp[go_sem]
 | 2=>simp[edC] at h;subst h;simp[go_sem]
 | n+3=>simp[edC] at h
theorem bel_pushE {B base:Nat} {w0 w w1:World} {v:Value} {o:Obj} {es:List EdD} (hb:Below B w0 w) (hB:B≤w.heap.size) (ho:OwE w base v es) (hbB:B≤base) (hg:(w.alloc o).grownBy w1 v.ownBlock):Below B w0 w1:=
 bel_push hb hB ho.1 hbB hg
def insE (e:EdD) (es:List EdD) (k:Nat):List EdD×Bool:=(es.take k).foldl (insS cmpE e) ([],false)
theorem insE_succ (y:EdD) (xs:List EdD) (k:Nat) (h:k<xs.length):insE y xs (k+1)=insS cmpE y (insE y xs k) xs[k]:=by
 unfold insE
 rw[List.take_succ_eq_append_getElem h,List.foldl_append]
 rfl
theorem insE_len (y:EdD) (xs:List EdD) (k:Nat) (h:k≤xs.length):(insE y xs k).1.length≤2*k:=by
 induction k with
 | zero=>simp[insE]
 | succ k ih=>
   rw[insE_succ y xs k (by omega)]
   have:=ih (by omega)
   unfold insS
   split
   ·simp;omega
   ·split<;>(simp;omega)
set_option maxHeartbeats 2000000 in
theorem l4Put_any (v:Value) (es:List EdD) (e:EdD) (w:World) (h:ArgE w v es) (he:E64 e) (hl:es.length≤268435456):
  Calls Tryz.prog 166 #[v,edV e] w fun e' w'=> ∃r,e'= .returned r∧OwE w' w.heap.size r (insF cmpE es e)∧Below w.heap.size w w':=by
 have H:=hDD h
 obtain⟨A,cap,rfl,hcap,hm,_,hr,_⟩:=h
 have HR:=hDD hr
 have HE:=hDD he
 unfold maxLen at hm
 clear hr he
 unfold edV
 go_enter Tryz.func166,Tryz.ntmps166
 go_wp2
 have hb:Below w.heap.size w ((w.alloc (Obj.cells #[Value.int IntKind.i64 e.1,Value.int IntKind.i64 e.2.1,Value.int IntKind.i64 e.2.2] 97)).alloc (Obj.cells #[] 97)):=(by repeat(first | exact Below.refl _ _ | (refine Below.setCell ?_ (by first | omega | (simp<;>omega)) _) | (refine bel_drewN ?_ _) | (refine Below.drew ?_) | (refine Below.alloc ?_ (by first | omega | (simp<;>omega)) _)))
 have k0:((w.alloc (Obj.cells #[Value.int IntKind.i64 e.1,Value.int IntKind.i64 e.2.1,Value.int IntKind.i64 e.2.2] 97)).alloc (Obj.cells #[] 97)).cell? ⟨w.heap.size,0,none⟩=some (.int .i64 e.1):=by simp[go_sem]
 have k1:((w.alloc (Obj.cells #[Value.int IntKind.i64 e.1,Value.int IntKind.i64 e.2.1,Value.int IntKind.i64 e.2.2] 97)).alloc (Obj.cells #[] 97)).cell? ⟨w.heap.size,1,none⟩=some (.int .i64 e.2.1):=by simp[go_sem]
 have k2:((w.alloc (Obj.cells #[Value.int IntKind.i64 e.1,Value.int IntKind.i64 e.2.1,Value.int IntKind.i64 e.2.2] 97)).alloc (Obj.cells #[] 97)).cell? ⟨w.heap.size,2,none⟩=some (.int .i64 e.2.2):=by simp[go_sem]
 have hs0:w.heap.size+1<((w.alloc (Obj.cells #[Value.int IntKind.i64 e.1,Value.int IntKind.i64 e.2.1,Value.int IntKind.i64 e.2.2] 97)).alloc (Obj.cells #[] 97)).heap.size:=by simp
 have o0:OwE ((w.alloc (Obj.cells #[Value.int IntKind.i64 e.1,Value.int IntKind.i64 e.2.1,Value.int IntKind.i64 e.2.2] 97)).alloc (Obj.cells #[] 97)) (w.heap.size+1) (.slice (some ⟨w.heap.size+1,0,none⟩) 0 0) []:=OwE_litN (w.alloc (Obj.cells #[Value.int IntKind.i64 e.1,Value.int IntKind.i64 e.2.1,Value.int IntKind.i64 e.2.2] 97)) (w.heap.size+1) (by simp) (Nat.le_refl _)
 generalize (w.alloc (Obj.cells #[Value.int IntKind.i64 e.1,Value.int IntKind.i64 e.2.1,Value.int IntKind.i64 e.2.2] 97)).alloc (Obj.cells #[] 97)=w1 at hb k0 k1 k2 hs0 o0⊢
 have HB:=hDD hb
 have K0:=hDD k0
 have K1:=hDD k1
 have K2:=hDD k2
 have O0:=hDD o0
 clear hb k0 k1 k2 o0
 go_loopw [5,6,7] (fun out p i wr=> ∃k:Nat,k≤es.length∧i= .int .i64 k∧p= .bool (insE e es k).2∧OwE wr (w.heap.size+1) out (insE e es k).1∧Below (w.heap.size+1) w1 wr)
  (fun _ _ i _=>es.length-(intOf i).toNat)
 case atStart=>exact⟨0,Nat.zero_le _,rfl,rfl,O0.out,Below.refl _ _⟩
 case round=>
  obtain⟨k,hk,rfl,rfl,hown,hbel⟩:=hrel
  have hsz:=hbel.size
  have hal:=insE_len e es k hk
  have HB3:=hDD (HB.out.trans (hbel.mono (by omega)))
  have HB2:=hDD hbel
  have p0:=(hbel.cell (p:=⟨w.heap.size,0,none⟩) (show w.heap.size<w.heap.size+1 by omega)).trans K0.out
  have p1:=(hbel.cell (p:=⟨w.heap.size,1,none⟩) (show w.heap.size<w.heap.size+1 by omega)).trans K1.out
  have p2:=(hbel.cell (p:=⟨w.heap.size,2,none⟩) (show w.heap.size<w.heap.size+1 by omega)).trans K2.out
  clear hbel
  by_cases hlt:k<es.length
  ·obtain⟨b,off,rfl,hbw,c0,c1,c2,_⟩:=H.out.at hlt
   have hbl:b<wr.heap.size:=by omega
   have hwr:w.heap.size<wr.heap.size:=by omega
   have HC0:=hDD c0
   have HC1:=hDD c1
   have HC2:=hDD c2
   replace c0:=(HB3.out.cell (p:=⟨b,off+k*3,none⟩) hbw).trans c0
   replace c1:=(HB3.out.cell (p:=⟨b,off+k*3+1,none⟩) hbw).trans c1
   replace c2:=(HB3.out.cell (p:=⟨b,off+k*3+2,none⟩) hbw).trans c2
   have HS:=hDD (insE_succ e es k hlt)
   have HX:=hDD (HR.out es[k] (by simp))
   generalize hs:insE e es k=s at hown HS hal⊢
   obtain⟨o,p⟩:=s
   generalize es[k]=z at c0 c1 c2 HC0 HC1 HC2 HS HX
   clear hs
   simp only at hal
   obtain⟨A1,cap1,rfl,hcap1,hm1,_,_⟩:=hown.form
   have HO0:=hDD hown
   clear hown
   go_wp2_with fail
   have f0:=BelW.cell p0 hwr
   have f1:=BelW.cell p1 hwr
   have f2:=BelW.cell p2 hwr
   have f3:=BelW.cell c0 hbl
   have f4:=BelW.cell c1 hbl
   have f5:=BelW.cell c2 hbl
   (refine wp_region_quiet_bel (by kernel_rfl) (by kernel_rfl) ?_;(repeat(go_big_quiet_step (first | (go_at_call 212;exact Calls.bel_of (specCompareEdges_any e z _)))));refine wpQuiet_nil ?_;intro wq hw';obtain⟨pq,hw''⟩:=hw';have bq:=pq.h;rw[←hw''] at bq;clear hw'' pq)
   replace p0:=f0 ⟨wq,bq⟩
   replace p1:=f1 ⟨wq,bq⟩
   replace p2:=f2 ⟨wq,bq⟩
   replace c0:=f3 ⟨wq,bq⟩
   replace c1:=f4 ⟨wq,bq⟩
   replace c2:=f5 ⟨wq,bq⟩
   simp only at p0 p1 p2 c0 c1 c2
   clear f0 f1 f2 f3 f4 f5
   have hsq:=bq.size
   have hbq:b<wq.heap.size:=by omega
   have hwq:w.heap.size<wq.heap.size:=by omega
   have HO:=hDD (HO0.out.below bq)
   have HQ2:=hDD (HB2.out.trans (bq.mono (by omega)))
   have HQ3:=hDD (HB3.out.trans (bq.mono (by omega)))
   clear bq
   have HS2:Hid (insE e es (k+1)=(if cmpE e z=0 then(o++ [z],true) else if cmpE e z<0∧p=false then(o++ [e,z],true) else(o++ [z],p))):=hDD HS.out
   have HCC:Hid (cmpE e z=0∨cmpE e z<0∨0<cmpE e z):=hDD (by omega)
   clear HS
   generalize cmpE e z=c at*
   rcases HCC.out with hc | hc | hc
   ·subst hc
    have F:Hid (insE e es (k+1)=(o++ [z],true)):=hDD (by rw[HS2.out];rfl)
    clear HS2
    go_wp2_with (at_builtin;refine push_edge rfl (.tmp 34) (.tmp 39) rfl _ _ _ (HO.out.alloc _) rfl _ z rfl (edC_new _ _ _) HX.out (by first | omega | (simp;omega)) (by first | omega | (simp;omega)) ?_;intro v2 wv2 o2 g2 p2)
    go_roundw
    case rel=>exact⟨k+1,by omega,by go_num,by rw[F.out],by rw[F.out];exact o2,bel_pushE HQ2.out (by omega) HO.out (Nat.le_refl _) g2⟩
    case measure=>simp[intOf];omega
   ·have hc0:(c==0)=false:=by simp;omega
    cases p
    ·have F:Hid (insE e es (k+1)=(o++ [e,z],true)):=hDD (by rw[HS2.out];rw[if_neg (by omega),if_pos ⟨hc,rfl⟩])
     clear HS2
     go_wp2_with (first | (at_builtin;refine push_edge rfl (.tmp 30) (.tmp 32) rfl _ _ _ (HO.out.alloc _) rfl _ e rfl (edC_new _ _ _) HE.out (by first | omega | (simp;omega)) (by first | omega | (simp;omega)) ?_;intro v1 wv1 o1 g1 p1;have hz1:=g1.size;simp at hz1;have hb1:=bel_pushE HQ3.out (show w.heap.size≤wq.heap.size by omega) HO.out (show w.heap.size≤w.heap.size+1 by omega) g1;replace c0:=(hb1.cell (p:=⟨b,off+k*3,none⟩) hbw).trans HC0.out;replace c1:=(hb1.cell (p:=⟨b,off+k*3+1,none⟩) hbw).trans HC1.out;replace c2:=(hb1.cell (p:=⟨b,off+k*3+2,none⟩) hbw).trans HC2.out;have hb1v:b<wv1.heap.size:=(by omega);clear hb1) | (at_builtin;refine push_edge rfl (.tmp 34) (.tmp 39) rfl _ _ _ (o1.alloc _) rfl _ z rfl (edC_new _ _ _) HX.out (by first | omega | (simp;omega)) (by first | omega | (simp;omega)) ?_;intro v2 wv2 o2 g2 p2))
     go_roundw
     case rel=>
      have hb1:=bel_pushE HQ2.out (show w.heap.size+1≤wq.heap.size by omega) HO.out (Nat.le_refl _) g1
      exact⟨k+1,by omega,by go_num,by rw[F.out],by rw[F.out];simpa using o2,bel_pushE hb1 (by omega) o1 (Nat.le_refl _) g2⟩
     case measure=>simp[intOf];omega
    ·have F:Hid (insE e es (k+1)=(o++ [z],true)):=hDD (by rw[HS2.out];rw[if_neg (by omega),if_neg (by simp)])
     clear HS2
     go_wp2_with (at_builtin;refine push_edge rfl (.tmp 34) (.tmp 39) rfl _ _ _ (HO.out.alloc _) rfl _ z rfl (edC_new _ _ _) HX.out (by first | omega | (simp;omega)) (by first | omega | (simp;omega)) ?_;intro v2 wv2 o2 g2 p2)
     go_roundw
     case rel=>exact⟨k+1,by omega,by go_num,by rw[F.out],by rw[F.out];exact o2,bel_pushE HQ2.out (by omega) HO.out (Nat.le_refl _) g2⟩
     case measure=>simp[intOf];omega
   ·have hc0:(c==0)=false:=by simp;omega
    have hc1: ¬c<0:=by omega
    have F:Hid (insE e es (k+1)=(o++ [z],p)):=hDD (by rw[HS2.out];rw[if_neg (by omega),if_neg (fun h=>hc1 h.1)])
    clear HS2
    go_wp2_with (at_builtin;refine push_edge rfl (.tmp 34) (.tmp 39) rfl _ _ _ (HO.out.alloc _) rfl _ z rfl (edC_new _ _ _) HX.out (by first | omega | (simp;omega)) (by first | omega | (simp;omega)) ?_;intro v2 wv2 o2 g2 p2)
    go_roundw
    case rel=>exact⟨k+1,by omega,by go_num,by rw[F.out],by rw[F.out];exact o2,bel_pushE HQ2.out (by omega) HO.out (Nat.le_refl _) g2⟩
    case measure=>simp[intOf];omega
  ·obtain rfl:k=es.length:=by omega
   have HF:Hid (insF cmpE es e=if(insE e es es.length).2 then(insE e es es.length).1 else(insE e es es.length).1++ [e]):=hDD (by unfold insF insE;rw[List.take_length])
   have hwr:w.heap.size<wr.heap.size:=by omega
   generalize insE e es es.length=s at hown HF hal⊢
   obtain⟨o,p⟩:=s
   have HO:=hDD hown
   obtain⟨A1,cap1,rfl,hcap1,hm1,_,_⟩:=hown.form
   clear hown
   simp only at hal
   cases p
   ·go_wp2_with (at_builtin;refine push_edge rfl (.tmp 43) (.tmp 45) rfl _ _ _ (HO.out.alloc _) rfl _ e rfl (edC_new _ _ _) HE.out (by first | omega | (simp;omega)) (by first | omega | (simp;omega)) ?_;intro v2 wv2 o2 g2 p2)
    go_ret
    exact⟨_,rfl,by rw[HF.out];exact o2.mono (by omega),bel_pushE HB3.out (by omega) HO.out (by omega) g2⟩
   ·go_wp2
    go_ret
    exact⟨_,rfl,by rw[HF.out];exact HO.out.mono (by omega),HB3.out⟩
end Go.Proofs.YtnjpoljbagfdnaaGreat
namespace Go.Proofs.YtnjpoljbagfdnaaGreat
set_option maxRecDepth 20000
set_option linter.unusedVariables false
set_option linter.unusedSimpArgs false
open Go.RowKit
set_option maxHeartbeats 2000000 in
theorem specIsGraph_any (v:Value) (g:GrD) (w:World) (h:ArgG w v g):
  Calls Tryz.prog 190 #[v] w fun e w'=>e= .returned (.bool (grB g))∧Below w.heap.size w w':=by
 obtain⟨s,rfl,_,_,ha⟩:=h
 have H:=hDD ha
 obtain⟨A,cap,rfl,hcap,hm,_⟩:=ha
 unfold maxLen at hm
 go_enter Tryz.func190,Tryz.ntmps190
 go_wp2
 have hb:Below w.heap.size w (w.alloc (Obj.cells #[Value.int IntKind.i64 g.1,Value.int IntKind.i64 g.2.1, .slice A g.2.2.length cap] 26)):=(by repeat(first | exact Below.refl _ _ | (refine Below.setCell ?_ (by first | omega | (simp<;>omega)) _) | (refine bel_drewN ?_ _) | (refine Below.drew ?_) | (refine Below.alloc ?_ (by first | omega | (simp<;>omega)) _)))
 have k0:(w.alloc (Obj.cells #[Value.int IntKind.i64 g.1,Value.int IntKind.i64 g.2.1, .slice A g.2.2.length cap] 26)).cell? ⟨w.heap.size,0,none⟩=some (.int .i64 g.1):=by simp[go_sem]
 have k1:(w.alloc (Obj.cells #[Value.int IntKind.i64 g.1,Value.int IntKind.i64 g.2.1, .slice A g.2.2.length cap] 26)).cell? ⟨w.heap.size,1,none⟩=some (.int .i64 g.2.1):=by simp[go_sem]
 have k2:(w.alloc (Obj.cells #[Value.int IntKind.i64 g.1,Value.int IntKind.i64 g.2.1, .slice A g.2.2.length cap] 26)).cell? ⟨w.heap.size,2,none⟩=some (.slice A g.2.2.length cap):=by simp[go_sem]
 have hs0:w.heap.size<(w.alloc (Obj.cells #[Value.int IntKind.i64 g.1,Value.int IntKind.i64 g.2.1, .slice A g.2.2.length cap] 26)).heap.size:=by simp
 generalize w.alloc (Obj.cells #[Value.int IntKind.i64 g.1,Value.int IntKind.i64 g.2.1, .slice A g.2.2.length cap] 26)=w1 at hb k0 k1 k2 hs0⊢
 have HB:=hDD hb
 have K0:=hDD k0
 have K1:=hDD k1
 have K2:=hDD k2
 clear hb
 clear k0 k1 k2
 go_loopw [3] (fun i wr=> ∃k:Nat,k≤g.2.2.length∧i= .int .i64 k∧(∀j,j<k→okE g j=true)∧Below w1.heap.size w1 wr) (fun i _=>g.2.2.length-(intOf i).toNat)
 case atStart=>exact⟨0,Nat.zero_le _,rfl,fun j hj=>absurd hj (by omega),Below.refl _ _⟩
 case round=>
  obtain⟨k,hk,rfl,hall,hbel⟩:=hrel
  have HA:=hDD hall
  have HB2:=hDD hbel
  have HB3:=hDD (HB.out.trans (hbel.mono HB.out.size))
  have hsz:=hbel.size
  have p0:=(hbel.cell (p:=⟨w.heap.size,0,none⟩) hs0).trans K0.out
  have p1:=(hbel.cell (p:=⟨w.heap.size,1,none⟩) hs0).trans K1.out
  have p2:=(hbel.cell (p:=⟨w.heap.size,2,none⟩) hs0).trans K2.out
  have hws:w.heap.size<wr.heap.size:=by omega
  by_cases hlt:k<g.2.2.length
  ·obtain⟨b,off,rfl,hbl,c0,c1,c2,_⟩:=(H.out.below HB3.out).at hlt
   have ST:Hid (okE g k=true→ ∀j,j<k+1→okE g j=true):=hDD fun F j hj=>by
    rcases Nat.lt_or_eq_of_le (Nat.le_of_lt_succ hj) with hj | rfl
    ·exact HA.out j hj
    ·exact F
   have FA:Hid (okE g k=false→grB g=false):=hDD (grB_false k hlt)
   clear hall hbel
   by_cases h0:0<k
   ·obtain⟨j,rfl⟩: ∃j,k=j+1:=⟨k-1,by omega⟩
    obtain⟨b2,off2,hA2,_,d0,d1,d2,_⟩:=(H.out.below HB3.out).at (k:=j) (by omega)
    obtain⟨rfl,rfl⟩:b=b2∧off=off2:=by simpa using hA2
    have HZ:Hid (okE g (j+1)=(edgeOk g.1 g.2.1 g.2.2[j+1]&& !decide (0≤cmpE g.2.2[j] g.2.2[j+1]))):=hDD (okE_pos h0 hlt)
    have i0:(0:Int)≤(j:Int):=by omega
    have i1:(j:Int)<(g.2.2.length:Int):=by omega
    have i2:(j:Int)+1<(g.2.2.length:Int):=by omega
    clear hA2 h0
    generalize g.2.2[j]=y at d0 d1 d2 HZ
    generalize g.2.2[j+1]=x at c0 c1 c2 HZ
    have hE:=fun w=>l4Edge_any g.1 g.2.1 (some ⟨b,off,none⟩) g.2.2.length cap x w
    rcases e1:edgeOk g.1 g.2.1 x with _ | _
    ·have F:Hid (okE g (j+1)=false):=hDD (by rw[HZ.out,e1];rfl)
     simp only[e1] at hE
     have HE:=hDD hE
     clear hE
     go_wp2_with fail
     have f0:=BelW.cell p0 (show w.heap.size<wr.heap.size by omega)
     have f1:=BelW.cell p1 (show w.heap.size<wr.heap.size by omega)
     have f2:=BelW.cell p2 (show w.heap.size<wr.heap.size by omega)
     have f3:=BelW.cell c0 (show b<wr.heap.size by omega)
     have f4:=BelW.cell c1 (show b<wr.heap.size by omega)
     have f5:=BelW.cell c2 (show b<wr.heap.size by omega)
     have f6:=BelW.cell d0 (show b<wr.heap.size by omega)
     have f7:=BelW.cell d1 (show b<wr.heap.size by omega)
     have f8:=BelW.cell d2 (show b<wr.heap.size by omega)
     (refine wp_region_quiet_bel (by kernel_rfl) (by kernel_rfl) ?_;(repeat(go_big_quiet_step (first | (go_at_call 229;exact Calls.bel_of (HE.out _)))));refine wpQuiet_nil ?_;intro wq hw';obtain⟨pq,hw''⟩:=hw';have bq:=pq.h;rw[←hw''] at bq;clear hw'' pq)
     clear f0 f1 f2 f3 f4 f5 f6 f7 f8
     go_wp2
     go_ret
     exact⟨ret_bool (FA.out F.out).symm,HB3.out.trans (bq.mono (by omega))⟩
    ·simp only[e1] at hE
     have HE:=hDD hE
     clear hE
     rcases e2:decide (0≤cmpE y x) with _ | _
     ·have F:Hid (okE g (j+1)=true):=hDD (by rw[HZ.out,e1,e2];rfl)
      go_wp2_with fail
      have f0:=BelW.cell p0 (show w.heap.size<wr.heap.size by omega)
      have f1:=BelW.cell p1 (show w.heap.size<wr.heap.size by omega)
      have f2:=BelW.cell p2 (show w.heap.size<wr.heap.size by omega)
      have f3:=BelW.cell c0 (show b<wr.heap.size by omega)
      have f4:=BelW.cell c1 (show b<wr.heap.size by omega)
      have f5:=BelW.cell c2 (show b<wr.heap.size by omega)
      have f6:=BelW.cell d0 (show b<wr.heap.size by omega)
      have f7:=BelW.cell d1 (show b<wr.heap.size by omega)
      have f8:=BelW.cell d2 (show b<wr.heap.size by omega)
      (refine wp_region_quiet_bel (by kernel_rfl) (by kernel_rfl) ?_;(repeat(go_big_quiet_step (first | (go_at_call 229;exact Calls.bel_of (HE.out _)) | (go_at_call 212;exact Calls.bel_of (specCompareEdges_any y x _)))));refine wpQuiet_nil ?_;intro wq hw';obtain⟨pq,hw''⟩:=hw';have bq:=pq.h;rw[←hw''] at bq;clear hw'' pq)
      clear f0 f1 f2 f3 f4 f5 f6 f7 f8
      go_wp2
      go_roundw
      case rel=>exact⟨j+1+1,by omega,by go_num,ST.out F.out,HB2.out.trans (bq.mono (by omega))⟩
      case measure=>simp[intOf];omega
     ·have F:Hid (okE g (j+1)=false):=hDD (by rw[HZ.out,e1,e2];rfl)
      go_wp2_with fail
      have f0:=BelW.cell p0 (show w.heap.size<wr.heap.size by omega)
      have f1:=BelW.cell p1 (show w.heap.size<wr.heap.size by omega)
      have f2:=BelW.cell p2 (show w.heap.size<wr.heap.size by omega)
      have f3:=BelW.cell c0 (show b<wr.heap.size by omega)
      have f4:=BelW.cell c1 (show b<wr.heap.size by omega)
      have f5:=BelW.cell c2 (show b<wr.heap.size by omega)
      have f6:=BelW.cell d0 (show b<wr.heap.size by omega)
      have f7:=BelW.cell d1 (show b<wr.heap.size by omega)
      have f8:=BelW.cell d2 (show b<wr.heap.size by omega)
      (refine wp_region_quiet_bel (by kernel_rfl) (by kernel_rfl) ?_;(repeat(go_big_quiet_step (first | (go_at_call 229;exact Calls.bel_of (HE.out _)) | (go_at_call 212;exact Calls.bel_of (specCompareEdges_any y x _)))));refine wpQuiet_nil ?_;intro wq hw';obtain⟨pq,hw''⟩:=hw';have bq:=pq.h;rw[←hw''] at bq;clear hw'' pq)
      clear f0 f1 f2 f3 f4 f5 f6 f7 f8
      go_wp2
      go_ret
      exact⟨ret_bool (FA.out F.out).symm,HB3.out.trans (bq.mono (by omega))⟩
   ·obtain rfl:k=0:=by omega
    have HZ:=hDD (okE_zero hlt)
    generalize g.2.2[0]=x at c0 c1 c2 HZ
    simp only[Nat.zero_mul,Nat.add_zero] at c0 c1 c2
    have hE:=fun w=>l4Edge_any g.1 g.2.1 (some ⟨b,off,none⟩) g.2.2.length cap x w
    rcases e1:edgeOk g.1 g.2.1 x with _ | _
    ·have F:Hid (okE g 0=false):=hDD (by rw[HZ.out,e1])
     simp only[e1] at hE
     have HE:=hDD hE
     clear hE
     go_wp2_with fail
     have f0:=BelW.cell p0 (show w.heap.size<wr.heap.size by omega)
     have f1:=BelW.cell p1 (show w.heap.size<wr.heap.size by omega)
     have f2:=BelW.cell p2 (show w.heap.size<wr.heap.size by omega)
     have f3:=BelW.cell c0 (show b<wr.heap.size by omega)
     have f4:=BelW.cell c1 (show b<wr.heap.size by omega)
     have f5:=BelW.cell c2 (show b<wr.heap.size by omega)
     (refine wp_region_quiet_bel (by kernel_rfl) (by kernel_rfl) ?_;(repeat(go_big_quiet_step (first | (go_at_call 229;exact Calls.bel_of (HE.out _)))));refine wpQuiet_nil ?_;intro wq hw';obtain⟨pq,hw''⟩:=hw';have bq:=pq.h;rw[←hw''] at bq;clear hw'' pq)
     clear f0 f1 f2 f3 f4 f5
     go_wp2
     go_ret
     exact⟨ret_bool (FA.out F.out).symm,HB3.out.trans (bq.mono (by omega))⟩
    ·have F:Hid (okE g 0=true):=hDD (by rw[HZ.out,e1])
     simp only[e1] at hE
     have HE:=hDD hE
     clear hE
     go_wp2_with fail
     have f0:=BelW.cell p0 (show w.heap.size<wr.heap.size by omega)
     have f1:=BelW.cell p1 (show w.heap.size<wr.heap.size by omega)
     have f2:=BelW.cell p2 (show w.heap.size<wr.heap.size by omega)
     have f3:=BelW.cell c0 (show b<wr.heap.size by omega)
     have f4:=BelW.cell c1 (show b<wr.heap.size by omega)
     have f5:=BelW.cell c2 (show b<wr.heap.size by omega)
     (refine wp_region_quiet_bel (by kernel_rfl) (by kernel_rfl) ?_;(repeat(go_big_quiet_step (first | (go_at_call 229;exact Calls.bel_of (HE.out _)))));refine wpQuiet_nil ?_;intro wq hw';obtain⟨pq,hw''⟩:=hw';have bq:=pq.h;rw[←hw''] at bq;clear hw'' pq)
     clear f0 f1 f2 f3 f4 f5
     go_wp2
     go_roundw
     case rel=>exact⟨1,by omega,by go_num,ST.out F.out,HB2.out.trans (bq.mono (by omega))⟩
     case measure=>simp[intOf];omega
  ·obtain rfl:k=g.2.2.length:=by omega
   have F:=hDD (grB_eq HA.out)
   clear hall hbel
   rcases e1:inB g.1 1 3 with _ | _
   ·go_wp2_with (go_at_call 138;refine(l1In_any _ _ _ _).mono ?_;rintro e w' ⟨rfl,rfl⟩)
    go_ret
    exact⟨ret_bool (by rw[F.out,e1];rfl),HB3.out⟩
   ·rcases e2:inB g.2.1 1 40 with _ | _
    ·go_wp2_with (go_at_call 138;refine(l1In_any _ _ _ _).mono ?_;rintro e w' ⟨rfl,rfl⟩)
     go_ret
     exact⟨ret_bool (by rw[F.out,e1,e2];rfl),HB3.out⟩
    ·by_cases h3:g.2.2.length≤120
     ·go_wp2_with (go_at_call 138;refine(l1In_any _ _ _ _).mono ?_;rintro e w' ⟨rfl,rfl⟩)
      go_ret
      exact⟨ret_bool (by rw[F.out,e1,e2];simp;omega),HB3.out⟩
     ·go_wp2_with (go_at_call 138;refine(l1In_any _ _ _ _).mono ?_;rintro e w' ⟨rfl,rfl⟩)
      go_ret
      exact⟨ret_bool (by rw[F.out,e1,e2];simp;omega),HB3.out⟩
end Go.Proofs.YtnjpoljbagfdnaaGreat
namespace Go.Proofs.YtnjpoljbagfdnaaGreat
set_option maxRecDepth 20000
set_option linter.unusedVariables false
set_option linter.unusedSimpArgs false
open Go.RowKit
def hasB (l:List Int) (x:Int):Bool:=l.any (· ==x)
theorem hasB_no {l:List Int} {x:Int} (h: ∀j (hj:j<l.length),l[j]≠x):hasB l x=false:=by
 unfold hasB
 rw[List.any_eq_false]
 intro y hy
 obtain⟨j,hj,rfl⟩:=List.getElem_of_mem hy
 simpa using h j hj
theorem hasB_yes {l:List Int} {x:Int} (j:Nat) (hj:j<l.length) (h:l[j]=x):hasB l x=true:=by
 unfold hasB
 rw[List.any_eq_true]
 exact⟨l[j],by simp,by simpa using h⟩
set_option maxHeartbeats 400000 in
theorem l4Has_any (v:Value) (xs:List Int) (x:Int) (w:World) (h:ArgI w v xs) (hl:xs.length≤1073741824):
  Calls Tryz.prog 87 #[v, .int .i64 x] w fun e w'=>e= .returned (.bool (hasB xs x))∧w=w':=by
 obtain⟨A,cap,rfl,hcap,hm,hr,hb⟩:=h
 have HB:=hDD hb
 clear hb hr
 go_enter Tryz.func87,Tryz.ntmps87
 go_wp2
 go_loop [5] (fun i=> ∃k:Nat,k≤xs.length∧i= .int .i64 k∧ ∀j (hj:j<xs.length),j<k→xs[j]≠x) (fun i=>xs.length-(intOf i).toNat)
 case atStart=>exact⟨0,Nat.zero_le _,rfl,fun j hj h=>absurd h (by omega)⟩
 case round=>
  obtain⟨k,hk,rfl,hno⟩:=hrel
  have HNO:=hDD hno
  clear hno
  by_cases hlt:k<xs.length
  ·obtain⟨b,off,rfl,hc⟩:=HB.out (by omega)
   have hcell:=hc k hlt
   have HY:=hDD (fun e=>hasB_yes (x:=x) k hlt e)
   have HN:Hid (xs[k]≠x→ ∀j (hj:j<xs.length),j<k+1→xs[j]≠x):=hDD fun e j hj hjk=>by
    rcases Nat.lt_or_eq_of_le (Nat.le_of_lt_succ hjk) with h | rfl
    ·exact HNO.out j hj h
    ·exact e
   clear hc
   generalize xs[k]=y at hcell HY HN
   rcases e1:(y==x) with _ | _
   ·have F:=hDD (HN.out (by simpa using e1))
    go_wp2
    go_round
    case rel=>exact⟨k+1,by omega,by go_num,F.out⟩
    case measure=>simp[intOf];omega
   ·have F:=hDD (HY.out (by simpa using e1))
    go_wp2
    go_ret
    exact⟨ret_bool F.out.symm,rfl⟩
  ·obtain rfl:k=xs.length:=by omega
   have F:=hDD (hasB_no fun j hj=>HNO.out j hj hj)
   go_wp2
   go_ret
   exact⟨ret_bool F.out.symm,rfl⟩
end Go.Proofs.YtnjpoljbagfdnaaGreat
