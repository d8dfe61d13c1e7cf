/- Parts of the proof: Base, Law, Num, OwnF, Draw, Gr, Cmp, GrA, Ord, QuiC, GrG, GrH. -/
import Derived.Test.YtlgcflpaekbopaaGreatProg
import Derived.WalkKit
import Derived.WalkSpells
import Derived.WalkLawsBesides
import Derived.Lib.Hide
import Derived.Maps.AppendAt
import Derived.Deep.AppendLies
import Derived.RegionTactic
import Derived.Deep.QuietTactic
import Derived.BigQuiet
import Derived.Deep.RegionHeld3
import Derived.Outline
import Derived.Laws.StructEq
set_option maxRecDepth 100000
set_option maxHeartbeats 16000000
set_option linter.unusedVariables false
set_option linter.unusedSimpArgs false
namespace Go.Proofs.YtlgcflpaekbopaaGreat
open Go.RowKit
open _root_.List renaming mem_append→zaa,nodup_append→zab,take_succ_eq_append_getElem→zaj,map_cons→zal,mem_flatten→zam,eq_nil_of_length_eq_zero→zao,take_length→zap,set_append_right→zaq,mem_cons→zar,mem_map→zat,getElem?_eq_getElem→zau,getElem?_cons_zero→zav,length_append→zaw,pairwise_cons→zax,mem_range→zaz,map_toArray→zaA,length_cons→zaB,range→zaC,all_eq_true→zaD,getElem?_cons_succ→zaF,map_nil→zaJ,map_append→zaK,foldl_cons→zaL,getElem?_append_right→zaM,flatten_cons→zaN,append_assoc→zaO,mem_or_eq_of_mem_set→zaP,getElem?_eq_some_iff→zaQ,getElem?_append_left→zaR,exists_mem_of_ne_nil→zaS,getElem_mem→zaT,any_eq_true→zaU,mem_of_mem_drop→za1,mem_of_mem_take→za2,flatten_append→za4,getElem_drop→za9,foldl_append→zba,length_take→zbb,length_drop→zbc,length_set→zbd,length_nil→zbe
open Go.RowKit.Below renaming refl→zac,drew→zad
open _root_.Array renaming getElem?_eq_some_iff→zae,getElem?_eq_none→zay,all_eq_true_iff_forall_mem→zaH,replicate→zaX,any_eq_true'→za8
open Go.World renaming cell?_of_block→zaf,ownsRow_lit→zaG,frozen?_of_block→zaY,cell?_alloc_past→zaZ,grownBy→zbf
open _root_.Nat renaming le_refl→zag,lt_of_lt_of_le→zai,zero_le→zak,le_trans→zas,min_eq_left→zaI,add_sub_cancel_left→zaV,strongRecOn→zaW,mul_le_mul→za0,mul_le_mul_right→za3,lt_or_ge→za5,eq_zero_or_pos→za6,zero_add→za7
open _root_.Bool renaming and_eq_true→zah
open Go.Value renaming ownBlock→zan
open _root_.Option renaming isNone_iff_eq_none→zaE
theorem tO {P:Prop} (h:P:=by omega):P:=h
theorem tK {P:Prop} (h:P:=by kernel_rfl):P:=h
theorem BxT {n m:Nat} {w v u:World} (h:Below n w v) (k:Below m v u) (hm:n≤m:=by first | omega | (simp<;>omega)):Below n w u:=h.trans (k.mono hm)
theorem BxS {n:Nat} {w v:World} (h:Below n w v) {a:Addr} (x:Value) (hp:n≤a.block:=by first | omega | (simp<;>omega)):Below n w (v.setCell a x):=h.setCell hp x
theorem BxA {n:Nat} {w v:World} (h:Below n w v) (o:Obj) (hp:n≤v.heap.size:=by first | omega | (simp<;>omega)):Below n w (v.alloc o):=h.alloc hp o
theorem qA {P : Prop} (h : P) : Hid P := Lib.hid h
def I64 (n:Int):Prop:= -9223372036854775808≤n∧n≤9223372036854775807
abbrev I64s (xs:List Int):Prop:= ∀x∈xs,I64 x
abbrev ints (xs:List Int):List Value:=xs.map (Value.int .i64)
theorem qGJ (xs:List Int):(ints xs).length=xs.length:=by simp[ints]
theorem qKd (xs:List Int) (i:Nat) (h:i<xs.length):(ints xs)[i]'(by simpa[ints] using h)= .int .i64 xs[i]:=by simp[ints]
def RdV (t:TypeId) (size:Nat) (w:World) (v:Value) (n:Nat) (cs:List Value):Prop:=
 cs.length=n*size∧ ∃A cap,v= .slice A n cap∧n≤cap∧cap≤maxLen∧(A=none→cap=0)∧
  (0<n→ ∃b off cur fr,A=some ⟨b,off,none⟩∧w.heap[b]? =some (.cells cur t fr)∧ ∀i (hi:i<cs.length),cur[off+i]? =some cs[i])
def RdI (w:World) (v:Value) (xs:List Int):Prop:=RdV 3 1 w v xs.length (ints xs)∧I64s xs
def OwI (w:World) (base:Nat) (v:Value) (xs:List Int):Prop:=w.ownsRow base 3 1 v xs.length (ints xs)∧I64s xs
def RdII (w:World) (v:Value) (L:List (List Int)):Prop:=
 ∃vs:List Value,vs.length=L.length∧RdV 24 1 w v L.length vs∧ ∀i (h:i<L.length) (h':i<vs.length),RdI w vs[i] L[i]
def ArgI (w:World) (v:Value) (xs:List Int):Prop:=
 ∃A cap,v= .slice A xs.length cap∧xs.length≤cap∧cap≤maxLen∧I64s xs∧
  (0<xs.length→ ∃b off,A=some ⟨b,off,none⟩∧ ∀i (hi:i<xs.length),w.cell? ⟨b,off+i,none⟩=some (.int .i64 xs[i]))
theorem qEa:(Tryz.prog.info? 3).map (fun i=>(i.zero,i.size,i.bytes))=some (some (.int .i64 0),1,8):=by kernel_rfl
section
variable {t:TypeId} {size:Nat} {w w':World} {v:Value} {n:Nat} {cs:List Value} {xs:List Int} {base:Nat}
theorem qe {b:Nat} {o:Obj} (h:w.heap[b]? =some o):b<w.heap.size:=by
 rcases za5 b w.heap.size with h' | h'
 ·exact h'
 ·rw[zay h'] at h;cases h
theorem RdV.mono (h:RdV t size w v n cs) (hk: ∀b,v.ownBlock=some b→b<w.heap.size→w'.heap[b]? =w.heap[b]?):RdV t size w' v n cs:=by
 obtain⟨hl,A,cap,hv,hc,hm,hn,hb⟩:=h;refine⟨hl,A,cap,hv,hc,hm,hn,fun h0=> ?_⟩;obtain⟨b,off,cur,fr,hA,hh,hx⟩:=hb h0;exact⟨b,off,cur,fr,hA,by rw[hk b (by rw[hv,hA];rfl) (qe hh)];exact hh,hx⟩
theorem RdV.below (h:RdV t size w v n cs) (hb:Below w.heap.size w w'):RdV t size w' v n cs:=h.mono fun b _ ac=>hb.block b ac
theorem RdV.alloc (h:RdV t size w v n cs) (o:Obj):RdV t size (w.alloc o) v n cs:=h.mono fun b _ ac=>Below.heap_alloc w o b ac
theorem RdV.grown (h:RdV t size w v n cs) {row:Option Nat} (hg:w.grownBy w' row) (ai: ∀b,v.ownBlock=some b→row=some b→False):RdV t size w' v n cs:=
 h.mono fun b hv ac=>hg.block b ac (fun e=>ai b hv e.symm)
theorem RdV.grown_ty (h:RdV t size w v n cs) {e:TypeId} {sz m:Nat} {u:Value} {ds:List Value} (ho:w.ownsRow base e sz u m ds) (ai:e≠t) (hg:w.grownBy w' u.ownBlock):RdV t size w' v n cs:=by
 obtain⟨hl,A,cap,hv,hc,hm,hn,hb⟩:=h;refine⟨hl,A,cap,hv,hc,hm,hn,fun h0=> ?_⟩;obtain⟨b,off,cur,fr,hA,hh,hx⟩:=hb h0;refine⟨b,off,cur,fr,hA,?_,hx⟩;rw[hg.block b (qe hh)]
 ·exact hh
 ·intro hu;rcases ho.2 with ⟨rfl,_⟩ | ⟨g,cap',cur',rfl,_,pW,_⟩
  ·cases hu
  ·obtain rfl:b=g:=by simpa[zan] using hu
   rw[pW] at hh;injection hh with hh
   injection hh with _ ht
   exact ai ht
theorem RdV.of_own (h:w.ownsRow base t size v n cs):RdV t size w v n cs:=by
 refine⟨h.1,?_⟩;rcases h.2 with ⟨rfl,rfl⟩ | ⟨g,cap,cur,rfl,hg,hh,hnc,fB,eR,htake⟩
 ·exact⟨none,0,rfl,zag _,by simp[maxLen],fun _=>rfl,fun h=>absurd h (by simp)⟩
 ·refine⟨_,cap,rfl,hnc,fB,(fun h=>by cases h),fun _=>⟨g,0,cur,_,rfl,hh,fun i hi=> ?_⟩⟩;have db:i<n*size:=by rw[←h.1];exact hi
  have:(cur.toList.take (n*size))[i]? =cs[i]? :=by rw[htake]
  rw[List.getElem?_take,if_pos db] at this;simpa[hi] using this
theorem RdV.cell (h:RdV t size w v n cs): ∃A cap,v= .slice A n cap∧n≤cap∧cap≤maxLen∧(A=none→cap=0)∧
  (0<n→ ∃b off,A=some ⟨b,off,none⟩∧b<w.heap.size∧ ∀i (hi:i<cs.length),w.cell? ⟨b,off+i,none⟩=some cs[i]):=by
 obtain⟨hl,A,cap,hv,hc,hm,hn,hb⟩:=h;refine⟨A,cap,hv,hc,hm,hn,fun h0=> ?_⟩;obtain⟨b,off,cur,fr,hA,hh,hx⟩:=hb h0;exact⟨b,off,hA,qe hh,fun i hi=>by rw[cell_of_row w b (off+i) cur _ fr hh];exact hx i hi⟩
theorem OwI.set {g cap:Nat} (h:OwI w base (.slice (some ⟨g,0,none⟩) n cap) xs) (j:Nat) (z:Int) (hz:I64 z):
  OwI (w.setCell ⟨g,j,none⟩ (.int .i64 z)) base (.slice (some ⟨g,0,none⟩) n cap) (xs.set j z)∧w.grownBy (w.setCell ⟨g,j,none⟩ (.int .i64 z)) (some g):=by
 have hn:n=xs.length:=by
  rcases h.1.2 with ⟨hv,_⟩ | ⟨g',cap',cur,hv,_⟩
  ·cases hv
  ·injection hv
 subst hn;obtain⟨h1,h2⟩:=h.1.stored j (.int .i64 z);refine⟨⟨?_,fun y hy=> ?_⟩,h2⟩
 ·rw[zbd];simpa[ints,List.map_set] using h1
 ·rcases zaP hy with hy | rfl
  ·exact h.2 y hy
  ·exact hz
theorem OwI.cellAt {g cap:Nat} (h:OwI w base (.slice (some ⟨g,0,none⟩) n cap) xs) (j:Nat) (hj:j<xs.length):w.cell? ⟨g,j,none⟩=some (.int .i64 xs[j]):=by
 have hn:n=xs.length:=by
  rcases h.1.2 with ⟨hv,_⟩ | ⟨g',cap',cur,hv,_⟩
  ·cases hv
  ·injection hv
 subst hn;rw[h.1.cellAt j tO];simp[ints,hj]
theorem OwI.free {g cap:Nat} (h:OwI w base (.slice (some ⟨g,0,none⟩) n cap) xs) (j:Nat):w.frozen? ⟨g,j,none⟩=false:=by
 have hn:n=xs.length:=by
  rcases h.1.2 with ⟨hv,_⟩ | ⟨g',cap',cur,hv,_⟩
  ·cases hv
  ·injection hv
 subst hn;exact h.1.frozenAt j
theorem RdV.cut (h:RdV t 1 w v n cs) {k cap:Nat} {A:Option Addr} (hv:v= .slice A n cap) (hk:k≤n):
  RdV t 1 w (.slice (if cap=k then A else A.map (·.add k)) (n-k) (cap-k)) (n-k) (cs.drop k):=by
 obtain⟨hl,A',cap',gS,hc,hm,hn,hb⟩:=h;rw[gS] at hv;obtain⟨rfl,-,rfl⟩:A'=A∧True∧cap'=cap:=by simpa using hv
 refine⟨by simp[hl],_,_,rfl,tO,tO,?_,fun h0=> ?_⟩
 ·split
  ·omega
  ·intro h;cases A' with
   | none=>have:=hn rfl;omega
   | some a=>cases h
 ·obtain⟨b,off,cur,fr,rfl,hh,hx⟩:=hb tO;rw[if_neg tO];refine⟨b,off+k,cur,fr,by simp[Addr.add_lit],hh,fun i hi=> ?_⟩;rw[za9,Nat.add_assoc];exact hx _ _
theorem RdV.head (h:RdV t 1 w v n cs) {k cap:Nat} {A:Option Addr} (hv:v= .slice A n cap) (hk:k≤n):RdV t 1 w (.slice A k cap) k (cs.take k):=by
 obtain⟨hl,A',cap',gS,hc,hm,hn,hb⟩:=h;rw[gS] at hv;obtain⟨rfl,-,rfl⟩:A'=A∧True∧cap'=cap:=by simpa using hv
 refine⟨by simp[hl];omega,_,_,rfl,tO,hm,hn,fun h0=> ?_⟩;obtain⟨b,off,cur,fr,rfl,hh,hx⟩:=hb tO;refine⟨b,off,cur,fr,rfl,hh,fun i hi=> ?_⟩;rw[List.getElem_take];exact hx _ _
theorem RdI.arg (h:RdI w v xs):ArgI w v xs:=by
 obtain⟨A,cap,hv,hc,hm,_,hb⟩:=h.1.cell;refine⟨A,cap,hv,hc,hm,h.2,fun h0=> ?_⟩;obtain⟨b,off,hA,_,hx⟩:=hb h0;refine⟨b,off,hA,fun i hi=> ?_⟩;rw[hx i (by rw[qGJ];exact hi),qKd]
theorem RdI.at {A:Option Addr} {m cap:Nat} (h:RdI w (.slice A m cap) xs) (h0:0<xs.length):
  ∃b off,A=some ⟨b,off,none⟩∧b<w.heap.size∧ ∀i (hi:i<xs.length),w.cell? ⟨b,off+i,none⟩=some (.int .i64 xs[i]):=by
 obtain⟨A',cap',hv,hc,hm,_,hb⟩:=h.1.cell;obtain⟨b,off,hA,ac,hx⟩:=hb h0;injection hv with hv
 refine⟨b,off,hv.trans hA,ac,fun i hi=> ?_⟩;rw[hx i (by rw[qGJ];exact hi),qKd]
theorem RdI.below (h:RdI w v xs) (hb:Below w.heap.size w w'):RdI w' v xs:=⟨h.1.below hb,h.2⟩
theorem RdI.drewN (h:RdI w v xs) (n:Nat):RdI (w.drewN n) v xs:=h
theorem RdI.drew (h:RdI w v xs):RdI w.drew v xs:=h
theorem RdI.alloc (h:RdI w v xs) (o:Obj):RdI (w.alloc o) v xs:=⟨h.1.alloc o,h.2⟩
theorem RdI.grown (h:RdI w v xs) {row:Option Nat} (hg:w.grownBy w' row) (ai: ∀b,v.ownBlock=some b→row=some b→False):RdI w' v xs:=⟨h.1.grown hg ai,h.2⟩
theorem RdI.cut (h:RdI w v xs) {k cap:Nat} {A:Option Addr} (hv:v= .slice A xs.length cap) (hk:k≤xs.length):
  RdI w (.slice (if cap=k then A else A.map (·.add k)) (xs.length-k) (cap-k)) (xs.drop k):=by
 refine⟨?_,fun x hx=>h.2 x (za1 hx)⟩;have:=h.1.cut hv hk
 simpa[ints] using this
theorem RdI.head (h:RdI w v xs) {k cap:Nat} {A:Option Addr} (hv:v= .slice A xs.length cap) (hk:k≤xs.length):RdI w (.slice A k cap) (xs.take k):=by
 refine⟨?_,fun x hx=>h.2 x (za2 hx)⟩;have:=h.1.head hv hk
 simpa[ints,zaI hk] using this
theorem RdII.below {L:List (List Int)} (h:RdII w v L) (hb:Below w.heap.size w w'):RdII w' v L:=by
 obtain⟨vs,h1,h2,h3⟩:=h;exact⟨vs,h1,h2.below hb,fun i hi db=>(h3 i hi db).below hb⟩
theorem RdII.drewN {L:List (List Int)} (h:RdII w v L) (k:Nat):RdII (w.drewN k) v L:=h
theorem RdII.form {L:List (List Int)} (h:RdII w v L): ∃A cap,v= .slice A L.length cap∧L.length≤cap∧cap≤maxLen∧(A=none→cap=0):=by
 obtain⟨vs,h1,h2,h3⟩:=h;obtain⟨A,cap,hv,hc,hm,hn,_⟩:=h2.cell;exact⟨A,cap,hv,hc,hm,hn⟩
theorem RdII.at {A:Option Addr} {m cap:Nat} {L:List (List Int)} (h:RdII w (.slice A m cap) L) {k:Nat} (hk:k<L.length):
  ∃b off A1 ah,A=some ⟨b,off,none⟩∧b<w.heap.size∧w.cell? ⟨b,off+k,none⟩=some (.slice A1 L[k].length ah)∧L[k].length≤ah∧ah≤maxLen∧RdI w (.slice A1 L[k].length ah) L[k]:=by
 obtain⟨vs,h1,h2,h3⟩:=h;obtain⟨A',cap',hv,hc,hm,_,hb⟩:=h2.cell;obtain⟨b,off,hA,ac,hx⟩:=hb tO;injection hv with hv
 have hr:=h3 k hk tO;obtain⟨A1,ah,lD,aC,cJ,_⟩:=hr.1.cell;refine⟨b,off,A1,ah,hv.trans hA,ac,?_,aC,cJ,?_⟩
 ·rw[hx k tO,lD]
 ·rw[←lD];exact hr
theorem OwI.rd (h:OwI w base v xs):RdI w v xs:=⟨RdV.of_own h.1,h.2⟩
theorem OwI.arg (h:OwI w base v xs):ArgI w v xs:=h.rd.arg
theorem OwI.mono {base':Nat} (h:OwI w base v xs) (hb:base'≤base):OwI w base' v xs:=by
 refine⟨⟨h.1.1,?_⟩,h.2⟩;rcases h.1.2 with h0 | ⟨g,cap,cur,hv,hg,r⟩
 ·exact .inl h0
 ·exact .inr ⟨g,cap,cur,hv,zas hb hg,r⟩
theorem ql {e:TypeId} {sz:Nat} (h:w.ownsRow base e sz v n cs) (hb:Below w.heap.size w w'):w'.ownsRow base e sz v n cs:=by
 refine⟨h.1,?_⟩;rcases h.2 with h0 | ⟨g,cap,cur,hv,hg,hh,r⟩
 ·exact .inl h0
 ·exact .inr ⟨g,cap,cur,hv,hg,by rw[hb.block g (qe hh)];exact hh,r⟩
theorem OwI.drew (h:OwI w base v xs):OwI w.drew base v xs:=h
theorem OwI.far (h:OwI w base v xs) {p:Addr} (hp:p.block<base) (u:Value):OwI (w.setCell p u) base v xs:=⟨ownsRow_setCell_below h.1 hp u,h.2⟩
theorem OwI.below (h:OwI w base v xs) (hb:Below w.heap.size w w'):OwI w' base v xs:=⟨ql h.1 hb,h.2⟩
theorem OwI.drewN (h:OwI w base v xs) (k:Nat):OwI (w.drewN k) base v xs:=h
theorem OwI.kept {row:Option Nat} (h:OwI w base v xs) (hg:w.grownBy w' row) (ai:v.ownBlock=none∨v.ownBlock≠row):OwI w' base v xs:=⟨h.1.kept hg ai,h.2⟩
theorem qr {e:TypeId} {sz:Nat} (h:w.ownsRow base e sz v n cs): ∃A cap,v= .slice A n cap∧n≤cap∧cap≤maxLen∧(A=none→cap=0)∧(0<n→ ∃g,A=some ⟨g,0,none⟩∧base≤g∧g<w.heap.size):=by
 rcases h.2 with ⟨rfl,rfl⟩ | ⟨g,cap,cur,rfl,hg,hh,hnc,fB,_⟩
 ·exact⟨none,0,rfl,zag _,by simp[maxLen],fun _=>rfl,fun h=>absurd h (by simp)⟩
 ·exact⟨_,cap,rfl,hnc,fB,(fun h=>by cases h),fun _=>⟨g,rfl,hg,qe hh⟩⟩
theorem qJL {e:TypeId} {sz:Nat} (h:w.ownsRow base e sz v n cs) {A:Option Addr} {cap k:Nat} (hv:v= .slice A n cap) (hk:k≤n):w.ownsRow base e sz (.slice A k cap) k (cs.take (k*sz)):=by
 refine⟨by rw[zbb,h.1];exact zaI (za3 _ hk),?_⟩;rcases h.2 with ⟨gS,rfl⟩ | ⟨g,cap',cur,gS,hg,hh,hnc,fB,eR,htake⟩
 ·rw[gS] at hv;obtain⟨rfl,-,rfl⟩:none=A∧True∧0=cap:=by simpa using hv
  exact .inl ⟨by obtain rfl:k=0:=tO
                 rfl,tO⟩
 ·rw[gS] at hv;obtain⟨rfl,-,rfl⟩:some ⟨g,0,none⟩=A∧True∧cap'=cap:=by simpa using hv
  refine .inr ⟨g,_,cur,rfl,hg,hh,tO,fB,eR,?_⟩;rw[←htake,List.take_take,zaI (za3 _ hk)]
theorem ArgI.below (h:ArgI w v xs) (hb:Below w.heap.size w w'):ArgI w' v xs:=by
 obtain⟨A,cap,hv,hc,hm,hr,hx⟩:=h;refine⟨A,cap,hv,hc,hm,hr,fun h0=> ?_⟩;obtain⟨b,off,hA,hx⟩:=hx h0;exact⟨b,off,hA,fun i hi=>(hb.cell (World.block_lt_of_cell? w _ (hx i hi))).trans (hx i hi)⟩
theorem ArgI.drewN (h:ArgI w v xs) (k:Nat):ArgI (w.drewN k) v xs:=h
theorem qB {B:Nat} {a:World} (h:Below B a w) (k:Nat):Below B a (w.drewN k):=⟨h.os,h.tape,h.output,h.size,h.block⟩
end
theorem qF {P:Program} {f:FuncId} {args:Array Value} {w:World} {a n:Nat} {v:Value}
  (h:Calls P f args (w.drewN (a+n)) fun e w'=>e= .returned v∧w.drewN (a+n)=w'):
  Calls P f args (w.drewN (a+n)) fun e w''=>e= .returned v∧ ∃m,w''=w.drewN (a+m):=
 h.mono fun _ _ ⟨he,hm⟩=>⟨he,n,hm.symm⟩
theorem qJ {P:Program} {f:FuncId} {args:Array Value} {w:World} {n:Nat} {v:Value}
  (h:Calls P f args (w.drewN n) fun e w'=>e= .returned v∧w.drewN n=w'):Calls P f args (w.drewN n) fun e w''=>e= .returned v∧ ∃m,w''=w.drewN m:=
 h.mono fun _ _ ⟨he,hm⟩=>⟨he,n,hm.symm⟩
theorem qJz (x:Int):IntKind.i64.wrap x=wrap64 x:=by
 rw[IntKind.wrap_i64];unfold wrap64;rfl
theorem qS:I64s []:=fun _ h=>by cases h
theorem qW (w:World) (xs:List Int) (hx:I64s xs) (hl:xs.length≤1099511627776) {base:Nat} (hb:base≤w.heap.size):OwI (w.alloc (.cells (ints xs).toArray 3)) base (.slice (some ⟨w.heap.size,0,none⟩) xs.length xs.length) xs:=
 ⟨by have:=zaG (e:=3) (size:=1) w (ints xs).toArray xs.length hb (by unfold maxLen;omega) (by simp);simpa using this,hx⟩
theorem qCF (w:World) (xs:List Int) (N:Nat) (hN:w.heap.size=N) (hx:I64s xs) (hl:xs.length≤1099511627776) {base:Nat} (hb:base≤N):OwI (w.alloc (.cells (ints xs).toArray 3)) base (.slice (some ⟨N,0,none⟩) xs.length xs.length) xs:=by
 subst hN;exact qW w xs hx hl hb
theorem qBM {W w1:World} (hb:Below W.heap.size W w1):(∀b o,b<W.heap.size→w1.cell? ⟨b,o,none⟩=W.cell? ⟨b,o,none⟩)∧(∀b o,b<W.heap.size→w1.frozen? ⟨b,o,none⟩=W.frozen? ⟨b,o,none⟩):=
 ⟨fun b o h=>hb.cell (p:=⟨b,o,none⟩) h,fun b o h=>hb.frozen (p:=⟨b,o,none⟩) h⟩
theorem qPT {N:Nat} {W w1:World} (hb:Below N W w1):(∀b o,b<N→w1.cell? ⟨b,o,none⟩=W.cell? ⟨b,o,none⟩)∧(∀b o,b<N→w1.frozen? ⟨b,o,none⟩=W.frozen? ⟨b,o,none⟩):=
 ⟨fun b o h=>hb.cell (p:=⟨b,o,none⟩) h,fun b o h=>hb.frozen (p:=⟨b,o,none⟩) h⟩
theorem qC {a b:Bool} (h:a=b):Ending.returned (.bool a)= .returned (.bool b):=by rw[h]
theorem qU {k:IntKind} {a b:Int} (h:a=b):Ending.returned (.int k a)= .returned (.int k b):=by rw[h]
theorem qAn {α} {xs ys:List α} {k:Nat} (h:xs.take k=ys.take k) (hx:k<xs.length) (hy:k<ys.length) (he:xs[k]=ys[k]):xs.take (k+1)=ys.take (k+1):=by
 rw[zaj hx,zaj hy,h,he]
theorem qG (w:World) (u:Value) (t:TypeId):(w.alloc (.cells #[u] t)).cell? ⟨w.heap.size,0,none⟩=some u:=by
 exact cell_one_new w u t 0 u rfl
theorem OwI.alloc {w:World} {base:Nat} {v:Value} {xs:List Int} (h:OwI w base v xs) (o:Obj):OwI (w.alloc o) base v xs:=⟨h.1.alloc o,h.2⟩
theorem qN {w:World} {ops:Array Oper} {rest:List Oper} {o:Oper} {a:Act} {Q:Exit→Act→World→Prop} (bO:o.guard=none) (s x:Operand)
  (ho:o.op= .call {callee:= .builtin .append,args:= #[s,x],argTypes:= #[24,24]})
  (base:Nat) (v:Value) (xs:List Int) (ab:OwI w base v xs) (hs:a.eval s=v) (b:Nat) (z:Int) (hx:a.eval x= .slice (some ⟨b,0,none⟩) 1 1)
  (hc:w.cell? ⟨b,0,none⟩=some (.int .i64 z)) (hz:I64 z) (hl:xs.length≤1099511627776) (aq:base≤w.heap.size)
  (h: ∀v' w',OwI w' base v' (xs++ [z])→w.grownBy w' v.ownBlock→(v'.ownBlock=v.ownBlock∨v'.ownBlock=some w.heap.size)→wpList Tryz.prog ops Q rest (a.put o.dst v') w'):
  wpList Tryz.prog ops Q (o::rest) a w:=by
 obtain⟨i0,a7,aS,ao,aP⟩:=info_parts qEa;refine wpList_append_own_at _ bO s x 24 ho base 3 i0 (.int .i64 0) 1 8 Tryz.underlying24 a7 aS ao aP rfl (by decide) v xs.length (ints xs) hs ab.1 ⟨b,0,none⟩ 1 1 [.int .i64 z] hx rfl ?_ ?_ (by unfold maxLen;omega) tO aq ?_
 ·intro j u hj;match j,hj with
  | 0,hj=>simp at hj;subst hj;simpa[Addr.add] using hc
 ·intro u hu;simp at hu;subst hu;rfl
 ·intro v' w' h1 h2 h3 h5;exact h v' w' ⟨by simpa[ints] using h1,fun y hy=>by
   rcases zaa.1 hy with hy | hy
   ·exact ab.2 y hy
   ·simp at hy;subst hy;exact hz⟩ h2 h5
theorem qKB {w:World} {base:Nat} {A:Option Addr} {n cap:Nat} {xs:List Int} (h:OwI w base (.slice A n cap) xs) {k:Nat} (hk:k≤xs.length):OwI w base (.slice A k cap) (xs.take k):=by
 obtain⟨A',cap',hv,_⟩:=qr h.1;injection hv with h1 h2 h3
 subst h2;refine⟨?_,fun x hx=>h.2 x (za2 hx)⟩;have:=qJL h.1 (k:=k) rfl hk
 simpa[ints,zaI hk] using this
theorem OwI.form {w:World} {base:Nat} {v:Value} {xs:List Int} (h:OwI w base v xs): ∃A cap,v= .slice A xs.length cap∧xs.length≤cap∧cap≤maxLen∧(A=none→cap=0)∧(0<xs.length→ ∃g,A=some ⟨g,0,none⟩∧base≤g∧g<w.heap.size):=qr h.1
theorem qDo {w:World} {o:Oper} {a:Act} {K:Act→World→Prop} {Q:Exit→Act→World→Prop} (s x:Operand)
  (ho:o.op= .call {callee:= .builtin .append,args:= #[s,x],argTypes:= #[24,24]})
  (base:Nat) (v:Value) (xs:List Int) (ab:OwI w base v xs) (hs:a.eval s=v) (u:Value) (ys:List Int) (hr:RdI w u ys) (hx:a.eval x=u)
  (hl:xs.length+ys.length≤1099511627776) (aq:base≤w.heap.size)
  (h: ∀v' w',OwI w' base v' (xs++ys)→w.grownBy w' v.ownBlock→(v'.ownBlock=v.ownBlock∨v'.ownBlock=some w.heap.size)→K (a.put o.dst v') w'):
  o.wp Tryz.prog a w K Q:=by
 obtain⟨i0,a7,aS,ao,aP⟩:=info_parts qEa;obtain⟨A,cap,rfl,hc,hm,hn,hb⟩:=hr.1.cell;rcases A with _ | ad
 ·have h0:ys= []:=zao (by
   rcases za6 ys.length with h0 | h0
   ·exact h0
   ·obtain⟨_,_,h,_⟩:=hb h0;cases h)
  subst h0;obtain rfl:=hn rfl
  have ce:=run_append_owned_none (P:=Tryz.prog) w base 24 o.type 3 i0 1 Tryz.underlying24 a7 v xs.length (ints xs) ab.1;unfold Oper.wp execOp;simp only[ho,resolve,invoke,builtin,Sem.run_bind,Sem.run_pure,Result.andThen_ok,zaA,zal,zaJ,hs,hx,zbe,ce];exact h v w (by simpa using ab) (zbf.refl _ _) (.inl rfl)
 ·obtain⟨v',w',ce,h1,h2,_,h5⟩:=run_append_own_at (P:=Tryz.prog) w base 24 o.type 3 i0 (.int .i64 0) 1 8 Tryz.underlying24 a7 aS ao aP rfl (by decide) v xs.length (ints xs) ab.1 ad ys.length cap (ints ys) (by simp) (by
   intro j y hj;have eP:j<ys.length:=by simpa using (zaQ.1 hj).1
   obtain⟨b,off,xY,_,aZ⟩:=hb tO;have xY:=Option.some.inj xY;subst xY;rw[Addr.add_lit,aZ j (by simpa using eP),←hj];simp[eP]) (ints_oneCell _ _) (by unfold maxLen;omega) tO aq
  unfold Oper.wp execOp;simp only[ho,resolve,invoke,builtin,Sem.run_bind,Sem.run_pure,Result.andThen_ok,zaA,zal,zaJ,hs,hx,ce];exact h v' w' ⟨by simpa[ints] using h1,fun y hy=>by
   rcases zaa.1 hy with hy | hy
   ·exact ab.2 y hy
   ·exact hr.2 y hy⟩ h2 h5
theorem qi {w:World} {ops:Array Oper} {rest:List Oper} {o:Oper} {a:Act} {Q:Exit→Act→World→Prop} (bO:o.guard=none) (s x:Operand)
  (ho:o.op= .call {callee:= .builtin .append,args:= #[s,x],argTypes:= #[24,24]})
  (base:Nat) (v:Value) (xs:List Int) (ab:OwI w base v xs) (hs:a.eval s=v) (u:Value) (ys:List Int) (hr:RdI w u ys) (hx:a.eval x=u)
  (hl:xs.length+ys.length≤1099511627776) (aq:base≤w.heap.size)
  (h: ∀v' w',OwI w' base v' (xs++ys)→w.grownBy w' v.ownBlock→(v'.ownBlock=v.ownBlock∨v'.ownBlock=some w.heap.size)→wpList Tryz.prog ops Q rest (a.put o.dst v') w'):
  wpList Tryz.prog ops Q (o::rest) a w:=
 wpList_plain bO fun _ hK=>qDo s x ho base v xs ab hs u ys hr hx hl aq fun v' w' h1 h2 h3=>hK _ _ (h v' w' h1 h2 h3)
theorem qAN {w:World} {ops:Array Oper} {o:Oper} {a:Act} {K:Act→World→Prop} {Q:Exit→Act→World→Prop} {E:Prop} (bO:o.guard=none) (s x:Operand)
  (ho:o.op= .call {callee:= .builtin .append,args:= #[s,x],argTypes:= #[24,24]})
  (base:Nat) (v:Value) (xs:List Int) (ab:OwI w base v xs) (hs:a.eval s=v) (u:Value) (ys:List Int) (hr:RdI w u ys) (hx:a.eval x=u)
  (hl:xs.length+ys.length≤1099511627776) (aq:base≤w.heap.size)
  (h: ∀v' w',OwI w' base v' (xs++ys)→w.grownBy w' v.ownBlock→(v'.ownBlock=v.ownBlock∨v'.ownBlock=some w.heap.size)→K (a.put o.dst v') w'):
  if Region.wanted o (yielded ops a.tmps)=true then Oper.wp Tryz.prog o a w K Q else E:=by
 have hw:Region.wanted o (yielded ops a.tmps)=true:=by simp[Region.wanted,bO]
 rw[if_pos hw];exact qDo s x ho base v xs ab hs u ys hr hx hl aq h
theorem qEK:(Tryz.prog.info? 24).map (fun i=>(i.zero,i.size,i.bytes))=some (some (.slice none 0 0),1,24):=by kernel_rfl
theorem qCc {w:World} {ops:Array Oper} {rest:List Oper} {o:Oper} {a:Act} {Q:Exit→Act→World→Prop} (bO:o.guard=none) (s x:Operand)
  (ho:o.op= .call {callee:= .builtin .append,args:= #[s,x],argTypes:= #[29,29]})
  (base:Nat) (v:Value) (n:Nat) (vs:List Value) (ab:w.ownsRow base 24 1 v n vs) (hs:a.eval s=v) (b:Nat) (z:Value) (hx:a.eval x= .slice (some ⟨b,0,none⟩) 1 1)
  (hc:w.cell? ⟨b,0,none⟩=some z) (hz:z.oneCell'=true) (hl:n≤1099511627776) (aq:base≤w.heap.size)
  (h: ∀v' w',w'.ownsRow base 24 1 v' (n+1) (vs++ [z])→w.grownBy w' v.ownBlock→(v'.ownBlock=v.ownBlock∨v'.ownBlock=some w.heap.size)→wpList Tryz.prog ops Q rest (a.put o.dst v') w'):
  wpList Tryz.prog ops Q (o::rest) a w:=by
 obtain⟨i0,a7,aS,ao,aP⟩:=info_parts qEK;refine wpList_append_own_at _ bO s x 29 ho base 24 i0 (.slice none 0 0) 1 24 Tryz.underlying29 a7 aS ao aP rfl (by decide) v n vs hs ab ⟨b,0,none⟩ 1 1 [z] hx rfl ?_ ?_ (by unfold maxLen;omega) tO aq ?_
 ·intro j u hj;match j,hj with
  | 0,hj=>simp at hj;subst hj;simpa[Addr.add] using hc
 ·intro u hu;simp at hu;subst hu;exact hz
 ·intro v' w' h1 h2 h3 h5;exact h v' w' h1 h2 h5
theorem qDf (w:World) (vs:List Value) (hl:vs.length≤1099511627776) {base:Nat} (hb:base≤w.heap.size):(w.alloc (.cells vs.toArray 24)).ownsRow base 24 1 (.slice (some ⟨w.heap.size,0,none⟩) vs.length vs.length) vs.length vs:=by
 have:=zaG (e:=24) (size:=1) w vs.toArray vs.length hb (by unfold maxLen;omega) (by simp)
 simpa using this
theorem qQ {B base:Nat} {w0 w w1:World} {v:Value} {o:Obj} {e:TypeId} {sz n:Nat} {cs:List Value} (hb:Below B w0 w) (hB:B≤w.heap.size) (ho:w.ownsRow base e sz v n cs) (vR:B≤base) (hg:(w.alloc o).grownBy w1 v.ownBlock):Below B w0 w1:=
 (hb.alloc hB o).grown hg (by simp;omega) fun k hk=>by have:=ho.lt k hk;omega
structure Tr (a b:Nat) (w w':World):Prop where
 os:w'.os=w.os
 tape:w'.tape=w.tape
 output:w'.output=w.output
 size:w.heap.size≤w'.heap.size
 block: ∀k,k<w.heap.size→ ¬(a≤k∧k<b)→w'.heap[k]? =w.heap[k]?
theorem Tr.below {w w':World} (h:Below w.heap.size w w'):Tr 0 0 w w':=⟨h.os,h.tape,h.output,h.size,fun k hk _=>h.block k hk⟩
theorem Tr.grown {w w':World} {row:Option Nat} (h:w.grownBy w' row) {a b:Nat} (hr: ∀k,row=some k→a≤k∧k<b):Tr a b w w':=
 ⟨h.os,h.tape,h.output,h.size,fun k hk hn=>h.block k hk (fun e=>hn (hr k e.symm))⟩
def Loc (O:World→Prop) (lo hi:Nat):Prop:= ∀w w':World,O w→(∀b,lo≤b→b<hi→w'.heap[b]? =w.heap[b]?)→O w'
structure Ob (O:World→Prop) (lo hi:Nat) (w:World):Prop where
 holds:O w
 loc:Loc O lo hi
 le:hi≤w.heap.size
theorem ArgI.form {w:World} {v:Value} {xs:List Int} (h:ArgI w v xs): ∃A cap,v= .slice A xs.length cap:=by
 obtain⟨A,cap,hv,_⟩:=h;exact⟨A,cap,hv⟩
theorem Tr.trans {a b:Nat} {w w1 w2:World} (h:Tr a b w w1) (t:Tr a b w1 w2):Tr a b w w2:=
 ⟨t.os.trans h.os,t.tape.trans h.tape,t.output.trans h.output,zas h.size t.size,fun k hk hn=>(t.block k (zai hk h.size) hn).trans (h.block k hk hn)⟩
theorem qL (w:World) (p:Addr) (u:Value) (b:Nat) (h:b≠p.block):(w.setCell p u).heap[b]? =w.heap[b]? :=Below.heap_setCell w p u b h
theorem qEs (w:World) (g j:Nat) (u:Value):w.grownBy (w.setCell ⟨g,j,none⟩ u) (some g):=
 ⟨rfl,rfl,rfl,by simp,fun b _ hb=>qL w _ u b (fun e=>hb (by rw[e]))⟩
def inB (x a b:Int):Bool:=decide (a≤x)&&decide (x≤b)
theorem qP {x a b:Int}:inB x a b=true↔a≤x∧x≤b:=by simp[inB]
theorem qJs {x a b:Int}:inB x a b=false↔ ¬(a≤x∧x≤b):=by rw[←qP];simp
def letB (r x:Int):Bool:=(x != 0)&&inB x (wrap64 (-r)) r
theorem qQr {r:Int} (h:inB r 1 3=true):wrap64 (-r)= -r:=by
 have:=qP.1 h
 exact IntWalk.wrap64_in _ ⟨tO,tO⟩
theorem qAB {r x:Int} (h:inB r 1 3=true):letB r x=true↔x≠0∧ -r≤x∧x≤r:=by
 unfold letB;rw[qQr h];simp[qP]
def qBa (x:Int):Int:=if x<0 then wrap64 (-x) else x
theorem I64.neg {x:Int} (h:I64 x) (h0:x≠ -9223372036854775808):wrap64 (-x)= -x:=by
 unfold I64 at h;exact IntWalk.wrap64_in _ ⟨tO,tO⟩
theorem qI (x a b:Int) (w:World):
  Calls Tryz.prog 64 #[.int .i64 x, .int .i64 a, .int .i64 b] w fun e w'=>e= .returned (.bool (inB x a b))∧w=w':=by
 go_enter Tryz.func64,Tryz.ntmps64
 go_wp2
 all_goals go_ret
 all_goals (refine⟨?_,rfl⟩;unfold inB;simp_all)
 omega
theorem qX (x a b:Int) (w:World):
  Calls Tryz.prog 56 #[.int .i64 x, .int .i64 a, .int .i64 b] w fun e w'=>e= .returned (.bool (inB x a b))∧w=w':=by
 go_enter Tryz.func56,Tryz.ntmps56
 go_wp2
 all_goals go_ret
 all_goals (refine⟨?_,rfl⟩;unfold inB;simp_all)
 omega
theorem qd (r x:Int) (w:World):
  Calls Tryz.prog 57 #[.int .i64 r, .int .i64 x] w fun e w'=>e= .returned (.bool (letB r x))∧w=w':=by
 go_enter Tryz.func57,Tryz.ntmps57
 go_wp2_with (go_at_call 56;refine(qX _ _ _ _).mono ?_;rintro e w' ⟨rfl,rfl⟩)
 all_goals go_ret
 all_goals (refine⟨?_,rfl⟩;unfold letB;simp_all)
theorem qa (x:Int) (w:World):
  Calls Tryz.prog 83 #[.int .i64 x] w fun e w'=>e= .returned (.int .i64 (qBa x))∧w=w':=by
 go_enter Tryz.func83,Tryz.ntmps83
 go_wp2
 all_goals go_ret
 all_goals (refine⟨?_,rfl⟩;unfold qBa;simp_all)
 omega
def invB (a b:Int):Bool:=(a != 0)&&(a != -9223372036854775808)&&(b== -a)
theorem qAZ (a b:Int) (w:World) (ha:I64 a):
  Calls Tryz.prog 111 #[.int .i64 a, .int .i64 b] w fun e w'=>e= .returned (.bool (invB a b))∧w=w':=by
 by_cases h1:a= -9223372036854775808
 ·subst h1;go_enter Tryz.func111,Tryz.ntmps111
  go_wp2
  all_goals go_ret
  all_goals (refine⟨?_,rfl⟩;unfold invB;simp_all)
 ·have hn:=I64.neg ha h1;have HN:=qA hn;have Bx: -9223372036854775808<a:=by unfold I64 at ha;omega
  have DA:a≤9223372036854775807:=ha.2;clear hn ha;go_enter Tryz.func111,Tryz.ntmps111
  go_wp2
  all_goals go_ret
  all_goals (refine⟨?_,rfl⟩;unfold invB;simp_all)
abbrev El (α:Type):=World→List Value→α→List Nat→Prop
def qDL {α:Type} (E:El α):Prop:= ∀w w' cs d F,E w cs d F→(∀b∈F,w'.heap[b]? =w.heap[b]?)→E w' cs d F
def OwLf {α:Type} (E:El α) (t:TypeId) (width:Nat) (w:World) (v:Value) (ds:List α) (F:List Nat):Prop:=
 ∃es:List (List Value×α×List Nat),es.map (·.2.1)=ds∧(∀e∈es,e.1.length=width∧E w e.1 e.2.1 e.2.2)∧
  w.ownsRow 0 t width v es.length (es.map (·.1)).flatten∧F=v.ownBlock.toList++(es.map (·.2.2)).flatten
theorem qZ {w w':World} {base:Nat} {e:TypeId} {sz n:Nat} {v:Value} {cs:List Value} (h:w.ownsRow base e sz v n cs) (hb: ∀b,v.ownBlock=some b→w'.heap[b]? =w.heap[b]?):w'.ownsRow base e sz v n cs:=by
 refine⟨h.1,?_⟩;rcases h.2 with h0 | ⟨g,cap,cur,hv,hg,hh,r⟩
 ·exact .inl h0
 ·exact .inr ⟨g,cap,cur,hv,hg,by rw[hb g (by rw[hv];rfl)];exact hh,r⟩
theorem OwLf.stable {α:Type} {E:El α} (hE:qDL E) {t:TypeId} {width:Nat} {w w':World} {v:Value} {ds:List α} {F:List Nat}
  (h:OwLf E t width w v ds F) (hb: ∀b∈F,w'.heap[b]? =w.heap[b]?):OwLf E t width w' v ds F:=by
 obtain⟨es,h1,h2,h3,rfl⟩:=h;refine⟨es,h1,fun e he=>⟨(h2 e he).1,hE _ _ _ _ _ (h2 e he).2 fun b jC=>hb b ?_⟩,qZ h3 fun b hv=>hb b ?_,rfl⟩
 ·refine zaa.2 (.inr (zam.2 ⟨e.2.2,zat.2 ⟨e,he,rfl⟩,jC⟩))
 ·refine zaa.2 (.inl ?_);rw[hv];simp
def OwnL {α:Type} (E:El α) (t:TypeId) (width:Nat) (lo hi:Nat) (w:World) (v:Value) (ds:List α):Prop:=
 ∃F,OwLf E t width w v ds F∧F.Nodup∧ ∀b∈F,lo≤b∧b<hi
section
variable {α:Type} {E:El α} {t:TypeId} {width:Nat} {w w' w1 w2:World} {v v':Value} {ds:List α} {lo hi:Nat}
theorem OwnL.keep (h:OwnL E t width lo hi w v ds) (hE:qDL E) (hb: ∀b,lo≤b→b<hi→w'.heap[b]? =w.heap[b]?):OwnL E t width lo hi w' v ds:=by
 obtain⟨F,h1,h2,h3⟩:=h;exact⟨F,h1.stable hE fun b dS=>hb b (h3 b dS).1 (h3 b dS).2,h2,h3⟩
theorem OwnL.widen (h:OwnL E t width lo hi w v ds) {lo' db:Nat} (h1:lo'≤lo) (h2:hi≤db):OwnL E t width lo' db w v ds:=by
 obtain⟨F,a,b,c⟩:=h;exact⟨F,a,b,fun x hx=>⟨zas h1 (c x hx).1,zai (c x hx).2 h2⟩⟩
theorem OwnL.len (h:OwnL E t width lo hi w v ds): ∃A cap,v= .slice A ds.length cap∧ds.length≤cap∧cap≤maxLen∧(A=none→cap=0)∧(0<ds.length→ ∃g,A=some ⟨g,0,none⟩∧lo≤g∧g<hi):=by
 obtain⟨F,⟨es,h1,h2,h3,rfl⟩,_,hF⟩:=h;have hl:es.length=ds.length:=by rw[←h1];simp
 rw[hl] at h3;obtain⟨A,cap,hv,a,b,c,d⟩:=qr h3;refine⟨A,cap,hv,a,b,c,fun h0=> ?_⟩;obtain⟨g,hA,_,_⟩:=d h0;exact⟨g,hA,hF g (by rw[hv,hA];simp[zan])⟩
theorem OwnL.nil (hv:w.ownsRow 0 t width v 0 []) (hb: ∀b,v.ownBlock=some b→lo≤b∧b<hi):OwnL E t width lo hi w v []:=by
 refine⟨v.ownBlock.toList,⟨[],rfl,(fun e he=>by cases he),by simpa using hv,by simp⟩,?_,fun b aE=> ?_⟩
 ·cases v.ownBlock<;>simp
 ·exact hb b (by simpa using aE)
theorem OwnL.push (hE:qDL E) (h:OwnL E t width lo w.heap.size w v ds) (aa:Below w.heap.size w w1) {cs:List Value} {d:α} {Fe:List Nat} (hel:E w1 cs d Fe) (gO:cs.length=width)
  (fJ:Fe.Nodup) (ci: ∀b∈Fe,w.heap.size≤b∧b<w1.heap.size) (ee:lo≤w.heap.size)
  (happ: ∀es:List (List Value),w1.ownsRow 0 t width v ds.length es.flatten→w2.ownsRow 0 t width v' (ds.length+1) (es.flatten++cs)) (hg:w1.grownBy w2 v.ownBlock)
  (a8:v'.ownBlock=v.ownBlock∨v'.ownBlock=some w1.heap.size) (ac: ∀b,v'.ownBlock=some b→b<w2.heap.size):OwnL E t width lo w2.heap.size w2 v' (ds++ [d]):=by
 obtain⟨F,⟨es,h1,h2,h3,rfl⟩,cF,hF⟩:=h;have ak:=aa.size;have dM:=hg.size;have hl:es.length=ds.length:=by rw[←h1];simp
 have jW: ∀b,v.ownBlock=some b→lo≤b∧b<w.heap.size:=fun b hb=>hF b (by rw[hb];simp);have bI: ∀e∈es,∀b∈e.2.2,b∈(es.map (·.2.2)).flatten:=fun e he b hb=>zam.2 ⟨e.2.2,zat.2 ⟨e,he,rfl⟩,hb⟩;have cE: ∀b∈(es.map (·.2.2)).flatten,some b≠v.ownBlock:=by
  intro b hb hv;rw[←hv] at cF;simp at cF
  obtain⟨h,_⟩:=cF;obtain⟨l,fC,aM⟩:=zam.1 hb;obtain⟨e,he,rfl⟩:=zat.1 fC;obtain⟨a1,a2,a3⟩:=e;exact h a3 a1 a2 he aM
 refine⟨v'.ownBlock.toList++((es.map (·.2.2)).flatten++Fe),⟨es++ [(cs,d,Fe)],by simp[h1],?_,?_,by simp⟩,?_,?_⟩
 ·intro e he;rcases zaa.1 he with he | he
  ·refine⟨(h2 e he).1,hE _ _ _ _ _ (h2 e he).2 fun b hb=> ?_⟩;have an:=(hF b (zaa.2 (.inr (bI e he b hb)))).2;rw[hg.block b tO (cE b (bI e he b hb)),aa.block b an]
  ·simp at he
   subst he;refine⟨gO,hE _ _ _ _ _ hel fun b hb=>hg.block b (ci b hb).2 fun hv=> ?_⟩;have:=jW b hv.symm
   have:=ci b hb
   omega
 ·have EK:=happ (es.map (·.1)) (by rw[hl] at h3;exact qZ h3 fun b hb=>aa.block b (jW b hb).2);simpa[hl] using EK
 ·have n1:((es.map (·.2.2)).flatten).Nodup:=(zab.1 cF).2.1;have n2:((es.map (·.2.2)).flatten++Fe).Nodup:=by
   refine zab.2 ⟨n1,fJ,fun a ha b hb hab=> ?_⟩;have:=(hF a (zaa.2 (.inr ha))).2
   have:=(ci b hb).1
   omega
  refine zab.2 ⟨?_,n2,fun a ha b hb hab=> ?_⟩
  ·cases v'.ownBlock<;>simp
  ·subst hab;have cN:v'.ownBlock=some a:=by simpa using ha
   rcases a8 with a8 | a8
   ·rw[a8] at cN;rcases zaa.1 hb with hb | hb
    ·exact cE a hb cN.symm
    ·have:=jW a cN;have:=ci a hb;omega
   ·rw[a8] at cN;injection cN with cN
    rcases zaa.1 hb with hb | hb
    ·have:=(hF a (zaa.2 (.inr hb))).2;omega
    ·have:=ci a hb;omega
 ·intro b hb;rcases zaa.1 hb with hb | hb
  ·have aE:v'.ownBlock=some b:=by simpa using hb
   refine⟨?_,ac b aE⟩;rcases a8 with a8 | a8
   ·rw[a8] at aE;exact(jW b aE).1
   ·rw[a8] at aE;injection aE with aE;omega
  ·rcases zaa.1 hb with hb | hb
   ·have:=hF b (zaa.2 (.inr hb));omega
   ·have:=ci b hb;omega
theorem OwnL.focus {A:Option Addr} {m cap:Nat} (h:OwnL E t width lo hi w (.slice A m cap) ds) (hE:qDL E) {k:Nat} (hk:k<ds.length):
  ∃g cs Fe,A=some ⟨g,0,none⟩∧lo≤g∧g<hi∧E w cs ds[k] Fe∧cs.length=width∧(∀b∈Fe,lo≤b∧b<hi∧b≠g)∧Fe.Nodup∧(∀j (hj:j<cs.length),w.cell? ⟨g,k*width+j,none⟩=some cs[j])∧
   (∀j,w.frozen? ⟨g,j,none⟩=false)∧g<w.heap.size∧
   ∀w' cs' d',(∀pre post,pre.length=k*width→w.ownsRow 0 t width (.slice A m cap) ds.length (pre++cs++post)→w'.ownsRow 0 t width (.slice A m cap) ds.length (pre++cs'++post))→cs'.length=width→E w' cs' d' Fe→
    (∀b,b<hi→b≠g→b∉Fe→w'.heap[b]? =w.heap[b]?)→OwnL E t width lo hi w' (.slice A m cap) (ds.set k d'):=by
 obtain⟨F,⟨es,h1,h2,h3,rfl⟩,cF,hF⟩:=h;have hl:es.length=ds.length:=by rw[←h1];simp
 rw[hl] at h3;obtain⟨p,x,q,rfl,hp⟩: ∃p x q,es=p++x::q∧p.length=k:=⟨es.take k,es[k],es.drop (k+1),by rw[←List.drop_eq_getElem_cons tO,List.take_append_drop],by simp;omega⟩;obtain⟨A',cap',hv,_,_,_,hg⟩:=qr h3;obtain⟨g,hA,vW,_⟩:=hg tO;injection hv with e1 e2 e3
 subst e1 e2 e3 hA;obtain⟨cs,d,Fe⟩:=x;have nJ:=hF g (by simp[zan]);have hd:ds[k]=d:=by simp[←h1,←hp]
 have hx:=h2 (cs,d,Fe) (by simp);simp only[zaK,zal,za4,zaN,zan,Option.toList_some] at h3 cF hF;have dD:((p.map (·.1)).flatten).length=k*width:=by
  have: ∀l:List (List Value×α×List Nat),(∀e∈l,e.1.length=width)→((l.map (·.1)).flatten).length=l.length*width:=by
   intro l hl;induction l with
   | nil=>simp
   | cons e l ih=>
     simp only[zal,zaN,zaw,zaB,ih fun e he=>hl e (by simp[he]),hl e (by simp),Nat.add_mul];omega
  rw[this p fun e he=>(h2 e (by simp[he])).1,hp]
 have vP:=(zab.1 cF).2.2 g (by simp);have Ap:=(zab.1 cF).2.1;obtain⟨np,nq,npq⟩:=zab.1 Ap;obtain⟨nF,Ct,nFq⟩:=zab.1 nq;have aH:=h3.1;have aQ:cs.length=width:=hx.1;simp only[zaw,dD,aQ] at aH;refine⟨g,cs,Fe,rfl,nJ.1,nJ.2,by rw[hd];exact hx.2,hx.1,fun b hb=> ?_,nF,fun j hj=> ?_,fun j=>h3.frozenAt j,?_,?_⟩
 ·have aE:=hF b (by simp[hb]);exact⟨aE.1,aE.2,fun e=>vP b (by simp[hb]) e.symm⟩
 ·have eP:k*width+j<ds.length*width:=tO;rw[h3.cellAt _ eP,zaM tO,dD,zaV,zaR hj,zau hj]
 ·exact(h3.lt g rfl).2
 ·intro w' cs' d' aG hcs' l5 hoth;have bI: ∀e,e∈p∨e∈q→ ∀b∈e.2.2,b<hi∧b≠g∧b∉Fe:=by
   intro e he b hb;have ep:b∈(p.map (·.2.2)).flatten∨b∈(q.map (·.2.2)).flatten:=by
    rcases he with he | he
    ·exact .inl (zam.2 ⟨e.2.2,zat.2 ⟨e,he,rfl⟩,hb⟩)
    ·exact .inr (zam.2 ⟨e.2.2,zat.2 ⟨e,he,rfl⟩,hb⟩)
   refine⟨(hF b ?_).2,fun e'=>vP b ?_ e'.symm,fun dS=> ?_⟩
   ·refine zaa.2 (.inr ?_);rcases ep with ep | ep
    ·exact zaa.2 (.inl ep)
    ·exact zaa.2 (.inr (zaa.2 (.inr ep)))
   ·rcases ep with ep | ep
    ·exact zaa.2 (.inl ep)
    ·exact zaa.2 (.inr (zaa.2 (.inr ep)))
   ·rcases ep with ep | ep
    ·exact npq b ep b (zaa.2 (.inl dS)) rfl
    ·exact nFq b dS b ep rfl
  refine⟨g::((p.map (·.2.2)).flatten++(Fe++(q.map (·.2.2)).flatten)),⟨p++(cs',d',Fe)::q,?_,?_,?_,?_⟩,?_,?_⟩
  ·rw[←h1];simp only[zaK,zal];rw[zaq _ _ (by simp[hp]),List.length_map,hp,Nat.sub_self,List.set_cons_zero]
  ·intro e he;simp only[zaa,zar] at he;rcases he with he | rfl | he
   ·exact⟨(h2 e (by simp[he])).1,hE _ _ _ _ _ (h2 e (by simp[he])).2 fun b hb=>hoth b (bI e (.inl he) b hb).1 (bI e (.inl he) b hb).2.1 (bI e (.inl he) b hb).2.2⟩
   ·exact⟨hcs',l5⟩
   ·exact⟨(h2 e (by simp[he])).1,hE _ _ _ _ _ (h2 e (by simp[he])).2 fun b hb=>hoth b (bI e (.inr he) b hb).1 (bI e (.inr he) b hb).2.1 (bI e (.inr he) b hb).2.2⟩
  ·have:=aG (p.map (·.1)).flatten (q.map (·.1)).flatten dD (by simpa using h3)
   simp only[zaK,zal,za4,zaN,zaw,zaB,zaO] at this hl⊢;rw[hl];exact this
  ·simp[zan]
  ·simpa using cF
  ·intro b hb;exact hF b (by simpa using hb)
theorem OwnL.lt {b:Nat} (h:OwnL E t width lo hi w v ds) (hb:v.ownBlock=some b):lo≤b∧b<hi:=by
 obtain⟨F,⟨es,h1,h2,h3,rfl⟩,cF,hF⟩:=h;exact hF b (by rw[hb];simp)
theorem qEx {B:Nat} {w0 w3:World} (hb:Below B w0 w1) (ho:OwnL E t width lo hi w v ds) (ee:B≤lo) (hs:B≤w1.heap.size) (hg:w1.grownBy w3 v.ownBlock):Below B w0 w3:=
 hb.grown hg hs fun k hk=>zas ee (ho.lt hk).1
theorem qMj {g n m cap j k:Nat} {pre cs post:List Value} {u:Value} (h:w.ownsRow 0 t width (.slice (some ⟨g,0,none⟩) m cap) n (pre++cs++post)) (hp:pre.length=k*width) (hj:j<cs.length):
  (w.setCell ⟨g,k*width+j,none⟩ u).ownsRow 0 t width (.slice (some ⟨g,0,none⟩) m cap) n (pre++cs.set j u++post):=by
 obtain rfl:n=m:=by
  rcases h.2 with ⟨hv,_⟩ | ⟨_,_,_,hv,_⟩
  ·cases hv
  ·injection hv with _ e _;exact e.symm
 have:=(h.stored (k*width+j) u).1
 rw[zaO,zaq _ _ tO,hp,zaV,List.set_append_left _ _ hj,←zaO] at this;exact this
end
theorem qEr {α:Type} {E:El α} (hE:qDL E) {t ts:TypeId} {ti:TypeInfo} {z:Value} {width bytes lo:Nat} {w0 w:World} {v:Value} {ds:List α} {ops:Array Oper} {rest:List Oper} {o:Oper} {a:Act} {Q:Exit→Act→World→Prop} (bO:o.guard=none) (s x:Operand)
  (ho:o.op= .call {callee:= .builtin .append,args:= #[s,x],argTypes:= #[ts,ts]})
  (ht:Tryz.prog.underlying ts=some (.slice t)) (hi:Tryz.prog.info? t=some ti) (hz:ti.zero=some z) (hsize:ti.size=width) (jK:ti.bytes=bytes) (hzs:z.cells.size=width) (ak:0<width) (gi:bytes≤128)
  (ab:OwnL E t width lo w0.heap.size w0 v ds) (ee:lo≤w0.heap.size) (aa:Below w0.heap.size w0 w) (hs:a.eval s=v) (b:Nat) (cs:List Value) (d:α) (Fe:List Nat) (hx:a.eval x= .slice (some ⟨b,0,none⟩) 1 1)
  (hel:E w cs d Fe) (eR:cs.length=width) (fJ:Fe.Nodup) (ci: ∀b∈Fe,w0.heap.size≤b∧b<w.heap.size) (hc: ∀j u,cs[j]? =some u→w.cell? ⟨b,j,none⟩=some u) (h1: ∀u∈cs,u.oneCell'=true) (hl:ds.length≤1073741824)
  (h: ∀v' w',OwnL E t width lo w'.heap.size w' v' (ds++ [d])→w.grownBy w' v.ownBlock→wpList Tryz.prog ops Q rest (a.put o.dst v') w'):
  wpList Tryz.prog ops Q (o::rest) a w:=by
 have sr:=ab;obtain⟨F,⟨es,e1,e2,e3,rfl⟩,cF,hF⟩:=sr;have fk:es.length=ds.length:=by rw[←e1];simp
 rw[fk] at e3;have aG:=qZ e3 (w':=w) fun b hb=>aa.block b (ab.lt hb).2;refine wpList_append_own_at _ bO s x ts ho 0 t ti z width bytes ht hi hz hsize jK hzs ak v ds.length _ hs aG ⟨b,0,none⟩ 1 1 cs hx tO ?_ h1 (by unfold maxLen;omega) ?_ (zak _) ?_
 ·intro j u hj;have e:(⟨b,0,none⟩:Addr).add j=⟨b,j,none⟩:=by simp[Addr.add];intro h;exact h.symm
  rw[e];exact hc j u hj
 ·calc (ds.length+1)*bytes≤1073741825*128:=za0 tO gi
   _≤140737488355328:=by decide
 ·intro v' w' h2 h3 _ h5;refine h v' w' (OwnL.push hE ab aa hel eR fJ ci ee ?_ h3 h5 fun b hb=>(h2.lt b hb).2) h3;intro es' he';obtain⟨v2,w2,q⟩: ∃v2 w2,v2=v'∧w2=w':=⟨_,_,rfl,rfl⟩;have vb:es'.flatten=(es.map (·.1)).flatten:=by
   rcases he'.2 with ⟨hv,hn⟩ | ⟨g,c,cur,hv,_,hh,_,_,_,gD⟩
   ·have q1:=he'.1;have q2:=aG.1;rw[hn,Nat.zero_mul] at q1 q2;rw[zao q1,zao q2]
   ·rcases aG.2 with ⟨gS,_⟩ | ⟨g',c',cur',gS,_,pW,_,_,_,hcur'⟩
    ·rw[hv] at gS;cases gS
    ·rw[hv] at gS;injection gS with q1
     injection q1 with q1
     injection q1 with q1
     subst q1;rw[hh] at pW;injection pW with q2
     injection q2 with q2
     subst q2;rw[←gD,←hcur']
  rw[vb];exact h2
theorem qHs (w:World) (z:Int) (hz:I64 z):RdI (w.alloc (.cells #[.int .i64 z] 3)) (.slice (some ⟨w.heap.size,0,none⟩) 1 1) [z]:=
 (qW w [z] (fun x hx=>by simp at hx;subst hx;exact hz) (by simp) (zag _)).rd
def EI:El (List Int):=fun w cs d F=> ∃s,cs= [s]∧OwI w 0 s d∧F=s.ownBlock.toList
theorem EI.stable:qDL EI:=by
 rintro w w' cs d F ⟨s,rfl,ho,rfl⟩ hb;exact⟨s,rfl,⟨qZ ho.1 fun b h=>hb b (by rw[h];simp),ho.2⟩,rfl⟩
theorem EI.of {w:World} {s:Value} {xs:List Int} {base:Nat} (h:OwI w base s xs):EI w [s] xs s.ownBlock.toList:=⟨s,rfl,h.mono (zak _),rfl⟩
abbrev OwII (lo hi:Nat) (v:Value) (L:List (List Int)) (w:World):Prop:=OwnL EI 24 1 lo hi w v L
theorem qCe (w:World) {lo:Nat} (h:lo≤w.heap.size):OwII lo (w.heap.size+1) (.slice (some ⟨w.heap.size,0,none⟩) 0 0) [] (w.alloc (.cells #[] 24)):=by
 refine OwnL.nil ?_ fun b hb=> ?_
 ·have:=zaG (e:=24) (size:=1) (base:=0) w #[] 0 (zak _) (by unfold maxLen;omega) (by simp)
  simpa using this
 ·simp[zan] at hb;omega
theorem qJP (es:List (List Value×List Int×List Nat)) (h: ∀e∈es,e.1.length=1):((es.map (·.1)).flatten).length=es.length∧ ∀i (hi:i<es.length) (db:i<((es.map (·.1)).flatten).length),es[i].1= [((es.map (·.1)).flatten)[i]]:=by
 induction es with
 | nil=>exact⟨rfl,fun i hi=>by simp at hi⟩
 | cons e es ih=>
   have he:=h e (by simp);obtain⟨x,hx⟩: ∃x,e.1= [x]:=by
    match hh:e.1 with
    | []=>rw[hh] at he;simp at he
    | [x]=>exact⟨x,rfl⟩
    | a::b::l=>rw[hh] at he;simp at he
   obtain⟨i1,i2⟩:=ih fun e' he'=>h e' (by simp[he']);have e3:((e::es).map (·.1)).flatten=x::(es.map (·.1)).flatten:=by simp[hx]
   refine⟨by rw[e3];simp[i1],fun i hi db=> ?_⟩;match i with
   | 0=>simp[e3,hx]
   | j+1=>
     have:=i2 j (by simpa using hi) (by simp[i1];simpa using hi)
     simp only[e3,List.getElem_cons_succ];exact this
theorem OwII.rd {lo hi:Nat} {v:Value} {L:List (List Int)} {w:World} (h:OwII lo hi v L w):RdII w v L:=by
 obtain⟨F,⟨es,h1,h2,h3,rfl⟩,_,_⟩:=h;have hl:es.length=L.length:=by rw[←h1];simp
 rw[hl] at h3;obtain⟨f1,f2⟩:=qJP es fun e he=>(h2 e he).1;refine⟨(es.map (·.1)).flatten,by rw[f1,hl],RdV.of_own h3,fun i hi db=> ?_⟩;have EU:i<es.length:=tO;obtain⟨s,hs,ho,_⟩:=(h2 es[i] (by simp)).2;have e:=f2 i EU db;rw[hs] at e;injection e with e
 rw[←e];have e2:es[i].2.1=L[i]:=by simp[←h1]
 rw[←e2];exact ho.rd
theorem qAV {lo:Nat} {w0 w:World} {v:Value} {L:List (List Int)} {ops:Array Oper} {rest:List Oper} {o:Oper} {a:Act} {Q:Exit→Act→World→Prop} (bO:o.guard=none) (s x:Operand)
  (ho:o.op= .call {callee:= .builtin .append,args:= #[s,x],argTypes:= #[29,29]})
  (ab:OwII lo w0.heap.size v L w0) (ee:lo≤w0.heap.size) (aa:Below w0.heap.size w0 w) (hs:a.eval s=v) (b:Nat) (z:Value) (d:List Int) {base:Nat} (hx:a.eval x= .slice (some ⟨b,0,none⟩) 1 1)
  (hel:OwI w base z d) (aq:w0.heap.size≤base) (hc:w.cell? ⟨b,0,none⟩=some z) (hz:z.oneCell'=true) (hl:L.length≤1073741824)
  (h: ∀v' w',OwII lo w'.heap.size v' (L++ [d]) w'→w.grownBy w' v.ownBlock→wpList Tryz.prog ops Q rest (a.put o.dst v') w'):
  wpList Tryz.prog ops Q (o::rest) a w:=by
 obtain⟨i0,a7,aS,ao,aP⟩:=info_parts qEK;refine qEr EI.stable bO s x ho Tryz.underlying29 a7 aS ao aP rfl (by decide) (by decide) ab ee aa hs b [z] d _ hx (EI.of hel) rfl ?_ ?_ ?_ ?_ hl h
 ·cases z.ownBlock<;>simp
 ·intro k hk;have:=hel.1.lt k (by simpa using hk)
  omega
 ·intro j u hj;match j,hj with
  | 0,hj=>simp at hj;subst hj;exact hc
 ·intro u hu;simp at hu;subst hu;exact hz
theorem OwLf.mem {α:Type} {E:El α} {t:TypeId} {width:Nat} {w:World} {v:Value} {ds:List α} {F:List Nat} (h:OwLf E t width w v ds F) {b:Nat} (hb:v.ownBlock=some b):b∈F:=by
 obtain⟨es,h1,h2,h3,rfl⟩:=h;rw[hb];simp
theorem qIg {α:Type} {E:El α} (hE:qDL E) {t ts:TypeId} {ti:TypeInfo} {z:Value} {width bytes:Nat} {w0 w:World} {v:Value} {ds:List α} {F:List Nat} {ops:Array Oper} {rest:List Oper} {o:Oper} {a:Act} {Q:Exit→Act→World→Prop} (bO:o.guard=none) (s x:Operand)
  (ho:o.op= .call {callee:= .builtin .append,args:= #[s,x],argTypes:= #[ts,ts]})
  (ht:Tryz.prog.underlying ts=some (.slice t)) (hi:Tryz.prog.info? t=some ti) (hz:ti.zero=some z) (hsize:ti.size=width) (jK:ti.bytes=bytes) (hzs:z.cells.size=width) (ak:0<width) (gi:bytes≤128)
  (ab:OwLf E t width w0 v ds F) (cF:F.Nodup) (hF: ∀b∈F,b<w0.heap.size) (aa:Below w0.heap.size w0 w) (hs:a.eval s=v) (b:Nat) (cs:List Value) (d:α) (Fe:List Nat) (hx:a.eval x= .slice (some ⟨b,0,none⟩) 1 1)
  (hel:E w cs d Fe) (eR:cs.length=width) (fJ:Fe.Nodup) (ci: ∀b∈Fe,w0.heap.size≤b∧b<w.heap.size) (hc: ∀j u,cs[j]? =some u→w.cell? ⟨b,j,none⟩=some u) (h1: ∀u∈cs,u.oneCell'=true) (hl:ds.length≤1073741824)
  (h: ∀v' w' F',OwLf E t width w' v' (ds++ [d]) F'→F'.Nodup→(∀b∈F',(b∈F∨w0.heap.size≤b)∧b<w'.heap.size)→w.grownBy w' v.ownBlock→wpList Tryz.prog ops Q rest (a.put o.dst v') w'):
  wpList Tryz.prog ops Q (o::rest) a w:=by
 obtain⟨es,e1,e2,e3,rfl⟩:=ab;have fk:es.length=ds.length:=by rw[←e1];simp
 have jW: ∀b,v.ownBlock=some b→b<w0.heap.size:=fun b hb=>hF b (by rw[hb];simp);rw[fk] at e3;have aG:=qZ e3 (w':=w) fun b hb=>aa.block b (jW b hb);refine wpList_append_own_at _ bO s x ts ho 0 t ti z width bytes ht hi hz hsize jK hzs ak v ds.length _ hs aG ⟨b,0,none⟩ 1 1 cs hx tO ?_ h1 (by unfold maxLen;omega) ?_ (zak _) ?_
 ·intro j u hj;have e:(⟨b,0,none⟩:Addr).add j=⟨b,j,none⟩:=by simp[Addr.add];intro h;exact h.symm
  rw[e];exact hc j u hj
 ·calc (ds.length+1)*bytes≤1073741825*128:=za0 tO gi
   _≤140737488355328:=by decide
 ·intro v' w' h2 hg _ a8;have ak:=aa.size;have dM:=hg.size;have bI: ∀e∈es,∀b∈e.2.2,b∈(es.map (·.2.2)).flatten:=fun e he b hb=>zam.2 ⟨e.2.2,zat.2 ⟨e,he,rfl⟩,hb⟩;have cE: ∀b∈(es.map (·.2.2)).flatten,some b≠v.ownBlock:=by
   intro b hb hv;rw[←hv] at cF;exact(zab.1 cF).2.2 b (by simp) b hb rfl
  refine h v' w' (v'.ownBlock.toList++((es.map (·.2.2)).flatten++Fe)) ⟨es++ [(cs,d,Fe)],by simp[e1],?_,?_,by simp⟩ ?_ ?_ hg
  ·intro e he;rcases zaa.1 he with he | he
   ·refine⟨(e2 e he).1,hE _ _ _ _ _ (e2 e he).2 fun b hb=> ?_⟩;have an:=hF b (zaa.2 (.inr (bI e he b hb)));rw[hg.block b tO (cE b (bI e he b hb)),aa.block b an]
   ·simp at he
    subst he;refine⟨eR,hE _ _ _ _ _ hel fun b hb=>hg.block b (ci b hb).2 fun hv=> ?_⟩;have:=jW b hv.symm
    have:=ci b hb
    omega
  ·simpa[fk] using h2
  ·have n1:((es.map (·.2.2)).flatten).Nodup:=(zab.1 cF).2.1;have n2:((es.map (·.2.2)).flatten++Fe).Nodup:=by
    refine zab.2 ⟨n1,fJ,fun a ha b hb hab=> ?_⟩;have:=hF a (zaa.2 (.inr ha))
    have:=(ci b hb).1
    omega
   refine zab.2 ⟨?_,n2,fun a ha b hb hab=> ?_⟩
   ·cases v'.ownBlock<;>simp
   ·subst hab;have cN:v'.ownBlock=some a:=by simpa using ha
    rcases a8 with a8 | a8
    ·rw[a8] at cN;rcases zaa.1 hb with hb | hb
     ·exact cE a hb cN.symm
     ·have:=jW a cN;have:=ci a hb;omega
    ·rw[a8] at cN;injection cN with cN
     rcases zaa.1 hb with hb | hb
     ·have:=hF a (zaa.2 (.inr hb));omega
     ·have:=ci a hb;omega
  ·intro b hb;rcases zaa.1 hb with hb | hb
   ·have aE:v'.ownBlock=some b:=by simpa using hb
    refine⟨?_,(h2.lt b aE).2⟩;rcases a8 with a8 | a8
    ·rw[a8] at aE;exact .inl (zaa.2 (.inl (by rw[aE];simp)))
    ·rw[a8] at aE;injection aE with aE;exact .inr tO
   ·rcases zaa.1 hb with hb | hb
    ·have:=hF b (zaa.2 (.inr hb));exact⟨.inl (zaa.2 (.inr hb)),tO⟩
    ·have:=ci b hb;exact⟨.inr tO,tO⟩
theorem qIT {α:Type} {E:El α} (hE:qDL E) {t ts:TypeId} {ti:TypeInfo} {z:Value} {width bytes:Nat} {w0 w:World} {v:Value} {ds:List α} {F:List Nat} {o:Oper} {a:Act} {K:Act→World→Prop} {Q:Exit→Act→World→Prop} (s x:Operand)
  (ho:o.op= .call {callee:= .builtin .append,args:= #[s,x],argTypes:= #[ts,ts]})
  (ht:Tryz.prog.underlying ts=some (.slice t)) (hi:Tryz.prog.info? t=some ti) (hz:ti.zero=some z) (hsize:ti.size=width) (jK:ti.bytes=bytes) (hzs:z.cells.size=width) (ak:0<width) (gi:bytes≤128)
  (ab:OwLf E t width w0 v ds F) (cF:F.Nodup) (hF: ∀b∈F,b<w0.heap.size) (aa:Below w0.heap.size w0 w) (hs:a.eval s=v) (b:Nat) (cs:List Value) (d:α) (Fe:List Nat) (hx:a.eval x= .slice (some ⟨b,0,none⟩) 1 1)
  (hel:E w cs d Fe) (eR:cs.length=width) (fJ:Fe.Nodup) (ci: ∀b∈Fe,w0.heap.size≤b∧b<w.heap.size) (hc: ∀j u,cs[j]? =some u→w.cell? ⟨b,j,none⟩=some u) (h1: ∀u∈cs,u.oneCell'=true) (hl:ds.length≤1073741824)
  (h: ∀v' w' F',OwLf E t width w' v' (ds++ [d]) F'→F'.Nodup→(∀b∈F',(b∈F∨w0.heap.size≤b)∧b<w'.heap.size)→w.grownBy w' v.ownBlock→(v'.ownBlock=v.ownBlock∨v'.ownBlock=some w.heap.size)→K (a.put o.dst v') w'):
  o.wp Tryz.prog a w K Q:=by
 obtain⟨es,e1,e2,e3,rfl⟩:=ab;have fk:es.length=ds.length:=by rw[←e1];simp
 have jW: ∀b,v.ownBlock=some b→b<w0.heap.size:=fun b hb=>hF b (by rw[hb];simp);rw[fk] at e3;have aG:=qZ e3 (w':=w) fun b hb=>aa.block b (jW b hb);have js: ∀j u,cs[j]? =some u→w.cell? ((⟨b,0,none⟩:Addr).add j)=some u:=fun j u hj=>by
  have e:(⟨b,0,none⟩:Addr).add j=⟨b,j,none⟩:=by simp[Addr.add];intro h;exact h.symm
  rw[e];exact hc j u hj
 have tI:(ds.length+1)*bytes≤140737488355328:=by
  calc (ds.length+1)*bytes≤1073741825*128:=za0 tO gi
   _≤140737488355328:=by decide
 obtain⟨v',w',ce,h2,hg,_,a8⟩:=run_append_own_at (P:=Tryz.prog) w 0 ts o.type t ti z width bytes ht hi hz hsize jK hzs ak v ds.length _ aG ⟨b,0,none⟩ 1 1 cs tO js h1 (by unfold maxLen;omega) tI (zak _);unfold Oper.wp execOp;simp only[ho,resolve,invoke,builtin,Sem.run_bind,Sem.run_pure,Result.andThen_ok,zaA,zal,zaJ,hs,hx,ce];show K (a.put o.dst v') w'
 have ak:=aa.size;have dM:=hg.size;have bI: ∀e∈es,∀b∈e.2.2,b∈(es.map (·.2.2)).flatten:=fun e he b hb=>zam.2 ⟨e.2.2,zat.2 ⟨e,he,rfl⟩,hb⟩;have cE: ∀b∈(es.map (·.2.2)).flatten,some b≠v.ownBlock:=by
  intro b hb hv;rw[←hv] at cF;exact(zab.1 cF).2.2 b (by simp) b hb rfl
 refine h v' w' (v'.ownBlock.toList++((es.map (·.2.2)).flatten++Fe)) ⟨es++ [(cs,d,Fe)],by simp[e1],?_,?_,by simp⟩ ?_ ?_ hg a8
 ·intro e he;rcases zaa.1 he with he | he
  ·refine⟨(e2 e he).1,hE _ _ _ _ _ (e2 e he).2 fun b hb=> ?_⟩;have an:=hF b (zaa.2 (.inr (bI e he b hb)));rw[hg.block b tO (cE b (bI e he b hb)),aa.block b an]
  ·simp at he
   subst he;refine⟨eR,hE _ _ _ _ _ hel fun b hb=>hg.block b (ci b hb).2 fun hv=> ?_⟩;have:=jW b hv.symm
   have:=ci b hb
   omega
 ·simpa[fk] using h2
 ·have n1:((es.map (·.2.2)).flatten).Nodup:=(zab.1 cF).2.1;have n2:((es.map (·.2.2)).flatten++Fe).Nodup:=by
   refine zab.2 ⟨n1,fJ,fun a ha b hb hab=> ?_⟩;have:=hF a (zaa.2 (.inr ha))
   have:=(ci b hb).1
   omega
  refine zab.2 ⟨?_,n2,fun a ha b hb hab=> ?_⟩
  ·cases v'.ownBlock<;>simp
  ·subst hab;have cN:v'.ownBlock=some a:=by simpa using ha
   rcases a8 with a8 | a8
   ·rw[a8] at cN;rcases zaa.1 hb with hb | hb
    ·exact cE a hb cN.symm
    ·have:=jW a cN;have:=ci a hb;omega
   ·rw[a8] at cN;injection cN with cN
    rcases zaa.1 hb with hb | hb
    ·have:=hF a (zaa.2 (.inr hb));omega
    ·have:=ci a hb;omega
 ·intro b hb;rcases zaa.1 hb with hb | hb
  ·have aE:v'.ownBlock=some b:=by simpa using hb
   refine⟨?_,(h2.lt b aE).2⟩;rcases a8 with a8 | a8
   ·rw[a8] at aE;exact .inl (zaa.2 (.inl (by rw[aE];simp)))
   ·rw[a8] at aE;injection aE with aE;exact .inr tO
  ·rcases zaa.1 hb with hb | hb
   ·have:=hF b (zaa.2 (.inr hb));exact⟨.inl (zaa.2 (.inr hb)),tO⟩
   ·have:=ci b hb;exact⟨.inr tO,tO⟩
theorem qGz {w0 w:World} {v:Value} {L:List (List Int)} {F:List Nat} {ops:Array Oper} {o:Oper} {a:Act} {K:Act→World→Prop} {Q:Exit→Act→World→Prop} {E:Prop} (bO:o.guard=none) (s x:Operand)
  (ho:o.op= .call {callee:= .builtin .append,args:= #[s,x],argTypes:= #[29,29]})
  (ab:OwLf EI 24 1 w0 v L F) (cF:F.Nodup) (hF: ∀b∈F,b<w0.heap.size) (aa:Below w0.heap.size w0 w) (hs:a.eval s=v) (b:Nat) (z:Value) (d:List Int) {base:Nat} (hx:a.eval x= .slice (some ⟨b,0,none⟩) 1 1)
  (hel:OwI w base z d) (aq:w0.heap.size≤base) (hc:w.cell? ⟨b,0,none⟩=some z) (hz:z.oneCell'=true) (hl:L.length≤1073741824)
  (h: ∀v' w' F',OwLf EI 24 1 w' v' (L++ [d]) F'→F'.Nodup→(∀b∈F',(b∈F∨w0.heap.size≤b)∧b<w'.heap.size)→w.grownBy w' v.ownBlock→(v'.ownBlock=v.ownBlock∨v'.ownBlock=some w.heap.size)→K (a.put o.dst v') w'):
  if Region.wanted o (yielded ops a.tmps)=true then Oper.wp Tryz.prog o a w K Q else E:=by
 have hw:Region.wanted o (yielded ops a.tmps)=true:=by simp[Region.wanted,bO]
 rw[if_pos hw];obtain⟨i0,a7,aS,ao,aP⟩:=info_parts qEK;refine qIT EI.stable s x ho Tryz.underlying29 a7 aS ao aP rfl (by decide) (by decide) ab cF hF aa hs b [z] d _ hx (EI.of hel) rfl ?_ ?_ ?_ ?_ hl h
 ·cases z.ownBlock<;>simp
 ·intro k hk;have:=hel.1.lt k (by simpa using hk)
  omega
 ·intro j u hj;match j,hj with
  | 0,hj=>simp at hj;subst hj;exact hc
 ·intro u hu;simp at hu;subst hu;exact hz
def ArgC (w:World) (v:Value) (cs:List Int):Prop:=
 ∃A cap,v= .slice A cs.length cap∧cs.length≤cap∧cap≤maxLen∧(∀x∈cs,0≤x∧x≤255)∧
  (0<cs.length→ ∃b off,A=some ⟨b,off,none⟩∧ ∀i (hi:i<cs.length),w.cell? ⟨b,off+i,none⟩=some (.int .u8 cs[i]))
structure Cur (p:Nat) (A:Option Addr) (cap:Nat) (cs:List Int) (w:World):Prop where
 c0:w.cell? ⟨p,0,none⟩=some (.slice A cs.length cap)
 c1: ∃i:Nat,i≤cs.length∧w.cell? ⟨p,1,none⟩=some (.int .i64 i)
 c2: ∃h:Int,w.cell? ⟨p,2,none⟩=some (.int .i64 h)
 fz: ∀j,w.frozen? ⟨p,j,none⟩=false
 lt:p<w.heap.size
 len:cs.length≤1048576
 by_: ∀x∈cs,0≤x∧x≤255
 at_:0<cs.length→ ∃b off,A=some ⟨b,off,none⟩∧b≠p∧b<w.heap.size∧ ∀i (hi:i<cs.length),w.cell? ⟨b,off+i,none⟩=some (.int .u8 cs[i])
theorem Cur.tr {p:Nat} {A:Option Addr} {cap lo hi:Nat} {cs:List Int} {w w':World} (h:Cur p A cap cs w) (ht:Tr lo hi w w') (hp: ¬(lo≤p∧p<hi)) (hA:0<cs.length→ ∀b off,A=some ⟨b,off,none⟩→ ¬(lo≤b∧b<hi)):Cur p A cap cs w':=by
 have hk:w'.heap[p]? =w.heap[p]? :=ht.block p h.lt hp;refine⟨(zaf (w:=w) hk).trans h.c0,?_,?_,fun j=>(zaY (w:=w) hk).trans (h.fz j),zai h.lt ht.size,h.len,h.by_,fun h0=> ?_⟩
 ·obtain⟨i,hi,hc⟩:=h.c1;exact⟨i,hi,(zaf (w:=w) hk).trans hc⟩
 ·obtain⟨i,hc⟩:=h.c2;exact⟨i,(zaf (w:=w) hk).trans hc⟩
 ·obtain⟨b,off,eT,hb,ac,hc⟩:=h.at_ h0;exact⟨b,off,eT,hb,zai ac ht.size,fun i hi=>(zaf (w:=w) (ht.block b ac (hA h0 b off eT))).trans (hc i hi)⟩
theorem Cur.below {p:Nat} {A:Option Addr} {cap:Nat} {cs:List Int} {w w':World} (h:Cur p A cap cs w) (hb:Below w.heap.size w w'):Cur p A cap cs w':=
 h.tr (lo:=0) (hi:=0) (Tr.below hb) tO fun _ _ _ _=>tO
theorem Cur.new {p:Nat} {A:Option Addr} {cap:Nat} {cs:List Int} {w0 w w':World} {row:Option Nat} (h:Cur p A cap cs w) (h0:Cur p A cap cs w0) (hg:w.grownBy w' row) (aG: ∀b,row=some b→w0.heap.size≤b):Cur p A cap cs w':=by
 have hk:w'.heap[p]? =w.heap[p]? :=hg.block p h.lt fun e=>by have:=aG p e.symm;have:=h0.lt;omega
 refine⟨(zaf (w:=w) hk).trans h.c0,?_,?_,fun j=>(zaY (w:=w) hk).trans (h.fz j),zai h.lt hg.size,h.len,h.by_,fun hl=> ?_⟩
 ·obtain⟨i,hi,hc⟩:=h.c1;exact⟨i,hi,(zaf (w:=w) hk).trans hc⟩
 ·obtain⟨i,hc⟩:=h.c2;exact⟨i,(zaf (w:=w) hk).trans hc⟩
 ·obtain⟨b,off,eT,hb,ac,hc⟩:=h.at_ hl;obtain⟨b0,GL,uX,_,EH,_⟩:=h0.at_ hl;rw[eT] at uX;injection uX with e
  injection e with e1 e2
  subst e1;exact⟨b,off,eT,hb,zai ac hg.size,fun i hi=>(zaf (w:=w) (hg.block b ac fun e=>by have:=aG b e.symm;omega)).trans (hc i hi)⟩
theorem OwI.trP {p base:Nat} {w w':World} {v:Value} {xs:List Int} (h:OwI w base v xs) (ht:Tr p (p+1) w w') (hp:p<base):OwI w' base v xs:=
 ⟨qZ h.1 fun b hb=>ht.block b (h.1.lt b hb).2 (by have:=(h.1.lt b hb).1;omega),h.2⟩
theorem Tr.grow2 {a b:Nat} {w w1 w2:World} {row:Option Nat} (h:Tr a b w w1) (hg:w1.grownBy w2 row) (aG: ∀c,row=some c→w.heap.size≤c):Tr a b w w2:=
 ⟨hg.os.trans h.os,hg.tape.trans h.tape,hg.output.trans h.output,zas h.size hg.size,fun k hk hn=>(hg.block k (zai hk h.size) fun e=>by have:=aG k e.symm;omega).trans (h.block k hk hn)⟩
theorem Tr.bel2 {a b:Nat} {w w1 w2:World} (h:Tr a b w w1) (hb:Below w1.heap.size w1 w2):Tr a b w w2:=
 ⟨hb.os.trans h.os,hb.tape.trans h.tape,hb.output.trans h.output,zas h.size hb.size,fun k hk hn=>(hb.block k (zai hk h.size)).trans (h.block k hk hn)⟩
theorem Tr.set1 {p j:Nat} {w w1:World} (h:Tr p (p+1) w w1) (v:Value):Tr p (p+1) w (w1.setCell ⟨p,j,none⟩ v):=
 h.trans (Tr.grown (qEs w1 p j _) fun b hb=>by cases hb;omega)
theorem qPI (E:Int):0≤bits .and .i64 E 255∧bits .and .i64 E 255≤255:=by
 unfold bits;have h:(BitVec.ofInt 64 E&&& BitVec.ofInt 64 255).toNat≤255:=by
  rw[BitVec.toNat_and];exact zas Nat.and_le_right (by decide)
 have e:IntKind.i64.wrap ((BitVec.ofInt 64 E&&& BitVec.ofInt 64 255).toNat:Int)=((BitVec.ofInt 64 E&&& BitVec.ofInt 64 255).toNat:Int):=by rw[IntKind.wrap_i64];omega
 show 0≤IntKind.i64.wrap ((BitVec.ofInt 64 E&&& BitVec.ofInt 64 255).toNat:Int)∧IntKind.i64.wrap ((BitVec.ofInt 64 E&&& BitVec.ofInt 64 255).toNat:Int)≤255
 rw[e];omega
theorem qMC (p:Nat) (A:Option Addr) (cap:Nat) (cs:List Int) (w:World) (h:Cur p A cap cs w):
  Calls Tryz.prog 118 #[.pointer (some ⟨p,0,none⟩)] w fun e w'=> ∃n:Int,e= .returned (.int .i64 n)∧(0≤n∧n≤255)∧Cur p A cap cs w'∧Tr p (p+1) w w':=by
 have H:=qA h;have c0:=h.c0;obtain⟨i,hi,c1⟩:=h.c1;obtain⟨x,c2⟩:=h.c2;have fz:=h.fz;have aH:=h.len;have hp:=h.lt;have pv:=qA h.by_;have gP:=qA h.at_;clear h;go_enter Tryz.func118,Tryz.ntmps118
 go_wp2;generalize hx:wrap64 (wrap64 (x*6364136223846793005)+1442695040888963407)=x1;clear hx;obtain⟨W1,cC⟩: ∃W1:World,W1=w.setCell ⟨p,2,none⟩ (.int .i64 x1):=⟨_,rfl⟩;have d0:W1.cell? ⟨p,0,none⟩=some (.slice A cs.length cap):=by rw[cC];simp[go_sem,c0]
 have d1:W1.cell? ⟨p,1,none⟩=some (.int .i64 i):=by rw[cC];simp[go_sem,c1]
 have d2:W1.cell? ⟨p,2,none⟩=some (.int .i64 x1):=by rw[cC];simp[go_sem,c2]
 have df: ∀j,W1.frozen? ⟨p,j,none⟩=false:=fun j=>by rw[cC];simp[go_sem,fz]
 have T1:Hid (Tr p (p+1) w W1):=qA (by rw[cC];exact Tr.grown (qEs w p 2 _) fun b hb=>by cases hb;omega);have aA:W1.heap.size=w.heap.size:=by rw[cC];simp
 have mZ:=qA aA;rw[←cC];have sD:Hid (∀W',Tr p (p+1) w W'→(0<cs.length→ ∃b off,A=some ⟨b,off,none⟩∧b≠p∧b<W'.heap.size∧ ∀i (hi:i<cs.length),W'.cell? ⟨b,off+i,none⟩=some (.int .u8 cs[i]))):=qA fun W' ht h0=>by
  obtain⟨b,off,hA,hb,aM,hc⟩:=gP.out h0;exact⟨b,off,hA,hb,zai aM ht.size,fun i hi=>(zaf (w:=w) (ht.block b aM tO)).trans (hc i hi)⟩
 clear cC c0 c1 c2 fz aA;go_quiet (fail)
 obtain⟨y0,y1⟩:=qPI (bits .xor .i64 (x1/8589934592) (x1/35184372088832));generalize bits .and .i64 (bits .xor .i64 (x1/8589934592) (x1/35184372088832)) 255=y at*;generalize bits .xor .i64 (x1/8589934592) (x1/35184372088832)=y2 at*;by_cases ac:i<cs.length
 ·obtain⟨b,off,rfl,hb,aM,hc⟩:=gP.out tO;have ae:W1.cell? ⟨b,off+i,none⟩=some (.int .u8 cs[i]):=(zaf (w:=w) (T1.out.block b aM tO)).trans (hc i ac);have hx:=pv.out _ (zaT ac);have hI:(i:Int)<(cs.length:Int):=tO;have a7:(0:Int)≤(i:Int):=tO;generalize cs[i]=z at*;have BT:IntKind.i64.wrap z=z:=by rw[IntKind.wrap_i64];omega
  clear hc;go_wp2;go_quiet (fail)
  go_wp2;go_quiet (fail)
  obtain⟨u0,u1⟩:=qPI (y+z);generalize bits .and .i64 (y+z) 255=u at*;have H9:IntKind.i64.wrap ((i:Int)+1)=((i+1:Nat):Int):=by rw[IntKind.wrap_i64];omega
  go_wp2;refine bodyPost_ret (v:= .int .i64 u) (by simp[results,Tryz.results118,go_sem]) rfl ⟨u,rfl,⟨u0,u1⟩,?_,?_⟩
  ·refine⟨by simp[go_sem,d0],⟨i+1,ac,by simp[go_sem,d1]⟩,⟨x1,by simp[go_sem,d2]⟩,fun j=>by simp[go_sem,df],?_,aH,pv.out,sD.out _ ?_⟩
   ·have:=mZ.out;simp;omega
   ·first | exact(T1.out.set1 _).bel2 (qB (zac _ _) _) | exact(T1.out.bel2 (qB (zac _ _) _)).set1 _ | exact(T1.out.set1 _).bel2 (qB (qB (zac _ _) _) _) | exact(T1.out.bel2 (qB (qB (zac _ _) _) _)).set1 _ | exact(T1.out.set1 _).bel2 (qB (qB (qB (zac _ _) _) _) _) | exact(T1.out.bel2 (qB (qB (qB (zac _ _) _) _) _)).set1 _
  ·first | exact(T1.out.set1 _).bel2 (qB (zac _ _) _) | exact(T1.out.bel2 (qB (zac _ _) _)).set1 _ | exact(T1.out.set1 _).bel2 (qB (qB (zac _ _) _) _) | exact(T1.out.bel2 (qB (qB (zac _ _) _) _)).set1 _ | exact(T1.out.set1 _).bel2 (qB (qB (qB (zac _ _) _) _) _) | exact(T1.out.bel2 (qB (qB (qB (zac _ _) _) _) _)).set1 _
 ·have hI: ¬(i:Int)<(cs.length:Int):=tO;go_wp2;go_quiet (fail)
  go_wp2;refine bodyPost_ret (v:= .int .i64 y) (by simp[results,Tryz.results118,go_sem]) rfl ⟨y,rfl,⟨y0,y1⟩,?_,?_⟩
  ·refine⟨by simp[go_sem,d0],⟨i,hi,by simp[go_sem,d1]⟩,⟨x1,by simp[go_sem,d2]⟩,fun j=>by simp[go_sem,df],?_,aH,pv.out,sD.out _ ?_⟩
   ·have:=mZ.out;simp;omega
   ·exact T1.out.bel2 (qB (qB (zac _ _) _) _)
  ·exact T1.out.bel2 (qB (qB (zac _ _) _) _)
theorem qAJ (p:Nat) (A:Option Addr) (cap:Nat) (cs:List Int) (n:Int) (w:World) (h:Cur p A cap cs w) (fZ:0<n) (hn:n≤256):
  Calls Tryz.prog 80 #[.pointer (some ⟨p,0,none⟩), .int .i64 n] w fun e w'=> ∃x:Int,e= .returned (.int .i64 x)∧(0≤x∧x<n)∧Cur p A cap cs w'∧Tr p (p+1) w w':=by
 have H:=qA h;have h1: ¬n≤0:=tO;have h2: ¬n=0:=tO;clear h;go_enter Tryz.func80,Tryz.ntmps80
 go_wp2_with (go_at_call 118;(with_reducible refine(qMC p A cap cs _ H.out).mono ?_);rintro e w1 ⟨y,rfl,⟨y0,y1⟩,c1,t1⟩;have C1:=qA c1;have T1:=qA t1;clear c1 t1)
 exact bodyPost_ret (v:= .int .i64 (y%n)) (by simp[results,Tryz.results80,go_sem]) rfl ⟨y%n,rfl,⟨Int.emod_nonneg _ h2,Int.emod_lt_of_pos _ fZ⟩,C1.out,T1.out⟩
theorem qDe (p:Nat) (A:Option Addr) (cap:Nat) (cs:List Int) (n:Int) (w:World) (h:Cur p A cap cs w) (fZ:0<n) (hn:n≤256):
  Calls Tryz.prog 92 #[.pointer (some ⟨p,0,none⟩), .int .i64 n] w fun e w'=> ∃x:Bool,e= .returned (.bool x)∧Cur p A cap cs w'∧Tr p (p+1) w w':=by
 have H:=qA h;clear h;go_enter Tryz.func92,Tryz.ntmps92
 go_wp2_with (go_at_call 80;(with_reducible refine(qAJ p A cap cs n _ H.out fZ hn).mono ?_);rintro e w1 ⟨y,rfl,_,c1,t1⟩;have C1:=qA c1;have T1:=qA t1;clear c1 t1)
 exact bodyPost_ret (v:= .bool (y==0)) (by simp[results,Tryz.results92,go_sem]) rfl ⟨_,rfl,C1.out,T1.out⟩
theorem qHt (p:Nat) (A:Option Addr) (cap:Nat) (cs:List Int) (v:Value) (L:List Int) (w:World) (h:Cur p A cap cs w) (hL:RdI w v L) (hv:v.ownBlock≠some p) (fZ:0<L.length) (hn:L.length≤256):
  Calls Tryz.prog 110 #[.pointer (some ⟨p,0,none⟩),v] w fun e w'=> ∃x:Int,e= .returned (.int .i64 x)∧x∈L∧Cur p A cap cs w'∧Tr p (p+1) w w':=by
 have H:=qA h;have HL:=qA hL;obtain⟨A1,c1,rfl,_⟩:=hL.arg;have gS: ∀b off,A1=some ⟨b,off,none⟩→b≠p:=fun b off e hb=>by subst e;subst hb;exact hv rfl
 have HV:=qA gS;clear h hL hv gS;go_enter Tryz.func110,Tryz.ntmps110
 go_wp2_with fail;refine(qAJ p A cap cs L.length _ H.out tO tO).mono ?_
 rintro e w1 ⟨y,rfl,⟨y0,y1⟩,dX,t1⟩;have C1:=qA dX;have T1:=qA t1;have vp:Hid (RdI w1 (.slice A1 L.length c1) L):=qA ⟨HL.out.1.mono fun b hb ac=>t1.block b ac (by
  cases A1 with
  | none=>cases hb
  | some a=>
    obtain⟨b',o',s'⟩:=a;have:b'=b:=by simpa[zan] using hb
    subst this;obtain⟨_,_,hA,_⟩:=HL.out.at fZ;injection hA with hA
    injection hA with _ _ hs
    subst hs;have:=HV.out b' o' rfl
    omega),HL.out.2⟩
 clear dX t1;obtain⟨k,rfl⟩: ∃k:Nat,y=k:=⟨y.toNat,tO⟩;have hk:k<L.length:=tO;obtain⟨b,off,rfl,aM,hc⟩:=vp.out.at fZ;have ae:=hc k hk;have HM:=qA (zaT hk);clear hc;generalize L[k]=z at*;go_wp2;exact bodyPost_ret (v:= .int .i64 z) (by simp[results,Tryz.results110,go_sem]) rfl ⟨z,rfl,HM.out,C1.out,T1.out⟩
theorem OwI.any2 {w:World} {base:Nat} {v:Value} {xs:List Int} (h:OwI w base v xs): ∃A m cap,v= .slice A m cap:=by
 obtain⟨A,cap,hv,_⟩:=h.form;exact⟨A,_,cap,hv⟩
theorem qMP {w:World} {b o:Nat} {v:Value} (h:w.cell? ⟨b,o,none⟩=some v):b<w.heap.size:=by
 rcases za5 b w.heap.size with h' | h'
 ·exact h'
 ·simp[World.cell?,zay h'] at h
theorem qGm (v:Value) (cs:List Int) (w:World) (h:ArgC w v cs) (hl:cs.length≤1048576):
  Calls Tryz.prog 51 #[v] w fun e w'=> ∃p A cap,e= .returned (.pointer (some ⟨p,0,none⟩))∧Cur p A cap cs w'∧w.heap.size≤p∧Below w.heap.size w w':=by
 obtain⟨A,cap,rfl,aj,hm,jK,a8⟩:=h;have pv:=qA jK;have gP:=qA a8;unfold maxLen at hm;clear jK a8;go_enter Tryz.func51,Tryz.ntmps51
 go_wp2;go_loop [3,4] (fun hv i=> ∃(k:Nat) (x:Int),k≤cs.length∧i= .int .i64 k∧hv= .int .i64 x) (fun _ i=>cs.length-(intOf i).toNat)
 case atStart=>exact⟨0,_,zak _,rfl,rfl⟩
 case round=>
  obtain⟨k,x,hk,rfl,rfl⟩:=hrel;by_cases ac:k<cs.length
  ·rcases h4:decide ((k:Int)<4000) with _ | _
   ·have IZ: ¬(k:Int)<4000:=of_decide_eq_false h4;clear h4;go_wp2;refine bodyPost_ret (v:= .pointer (some ⟨w.heap.size,0,none⟩)) (by simp[results,Tryz.results51,go_sem]) rfl ⟨w.heap.size,rfl,⟨A,cap,?_⟩,zag _,(zac _ _).alloc (zag _) _⟩;refine⟨by simp[go_sem],⟨0,zak _,by simp[go_sem]⟩,⟨x,by simp[go_sem]⟩,fun j=>by simp[go_sem],by simp,hl,pv.out,fun h0=> ?_⟩;obtain⟨b,off,hA,hc⟩:=gP.out h0;have hb:b<w.heap.size:=qMP (hc 0 h0);exact⟨b,off,hA,tO,by simp;omega,fun i hi=>(zaZ _ _ _ hb).trans (hc i hi)⟩
   ·obtain⟨b,off,rfl,hc⟩:=gP.out tO;have ae:=hc k ac;have hz:=pv.out _ (zaT ac);generalize cs[k]=z at*;have BT:IntKind.i64.wrap z=z:=by rw[IntKind.wrap_i64];omega
    clear hc;go_wp2;go_round
    case rel=>exact⟨k+1,_,tO,by go_num,rfl⟩
    case measure=>(simp[intOf];omega)
  ·obtain rfl:k=cs.length:=tO
   go_wp2;refine bodyPost_ret (v:= .pointer (some ⟨w.heap.size,0,none⟩)) (by simp[results,Tryz.results51,go_sem]) rfl ⟨w.heap.size,rfl,⟨A,cap,?_⟩,zag _,(zac _ _).alloc (zag _) _⟩;refine⟨by simp[go_sem],⟨0,zak _,by simp[go_sem]⟩,⟨x,by simp[go_sem]⟩,fun j=>by simp[go_sem],by simp,hl,pv.out,fun h0=> ?_⟩;obtain⟨b,off,hA,hc⟩:=gP.out h0;have hb:b<w.heap.size:=qMP (hc 0 h0);exact⟨b,off,hA,tO,by simp;omega,fun i hi=>(zaZ _ _ _ hb).trans (hc i hi)⟩
abbrev EdD:=Int×Int×Int
abbrev GrD:=Int×Int×List EdD
def edC (e:EdD):List Value:= [.int .i64 e.1, .int .i64 e.2.1, .int .i64 e.2.2]
def edCs (es:List EdD):List Value:=(es.map edC).flatten
def E64 (e:EdD):Prop:=I64 e.1∧I64 e.2.1∧I64 e.2.2
abbrev E64s (es:List EdD):Prop:= ∀e∈es,E64 e
theorem qLX:E64s []:=fun _ h=>by cases h
theorem qEB {a b:List EdD} (ha:E64s a) (hb:E64s b):E64s (a++b):=fun e he=>by
 rcases zaa.1 he with he | he
 ·exact ha e he
 ·exact hb e he
theorem qKw {e:EdD} (h:E64 e):E64s [e]:=fun x hx=>by simp at hx;subst hx;exact h
theorem qDB (e:EdD) (es:List EdD):edCs (e::es)=edC e++edCs es:=by simp[edCs]
theorem qCg (a b:List EdD):edCs (a++b)=edCs a++edCs b:=by simp[edCs]
theorem qBr (es:List EdD):(edCs es).length=es.length*3:=by
 induction es with
 | nil=>rfl
 | cons e es ih=>rw[qDB];simp[edC,ih];omega
theorem qHl (es:List EdD) (k j:Nat) (hk:k<es.length) (hj:j<3):(edCs es)[k*3+j]? =(edC es[k])[j]? :=by
 induction es generalizing k with
 | nil=>cases hk
 | cons e es ih=>
   rw[qDB];match k with
   | 0=>rw[zaR (by simp[edC];omega)];simp
   | k+1=>
     rw[zaM (by simp[edC];omega)];have:(k+1)*3+j-(edC e).length=k*3+j:=by simp[edC];omega
     rw[this,ih k (by simpa using hk)];rfl
theorem qOI {es:List EdD} {v:Value} (h:v∈edCs es):v.oneCell'=true:=by
 unfold edCs at h;obtain⟨l,hl,hv⟩:=zam.1 h;obtain⟨e,_,rfl⟩:=zat.1 hl;simp[edC] at hv
 rcases hv with rfl | rfl | rfl<;>rfl
def ArgE (w:World) (v:Value) (es:List EdD):Prop:=
 ∃A cap,v= .slice A es.length cap∧es.length≤cap∧cap≤maxLen∧(A=none→cap=0)∧E64s es∧
  (0<es.length→ ∃b off,A=some ⟨b,off,none⟩∧b<w.heap.size∧ ∀k (hk:k<es.length),w.cell? ⟨b,off+k*3,none⟩=some (.int .i64 es[k].1)∧w.cell? ⟨b,off+k*3+1,none⟩=some (.int .i64 es[k].2.1)∧w.cell? ⟨b,off+k*3+2,none⟩=some (.int .i64 es[k].2.2))
def OwE (w:World) (base:Nat) (v:Value) (es:List EdD):Prop:=w.ownsRow base 154 3 v es.length (edCs es)∧E64s es
def ArgG (w:World) (v:Value) (g:GrD):Prop:= ∃s,v= .agg #[.int .i64 g.1, .int .i64 g.2.1,s]∧I64 g.1∧I64 g.2.1∧ArgE w s g.2.2
def OwG (w:World) (base:Nat) (v:Value) (g:GrD):Prop:= ∃s,v= .agg #[.int .i64 g.1, .int .i64 g.2.1,s]∧I64 g.1∧I64 g.2.1∧OwE w base s g.2.2
section
variable {w w':World} {v:Value} {es:List EdD} {g:GrD} {base:Nat}
theorem ArgE.below (h:ArgE w v es) (hb:Below w.heap.size w w'):ArgE w' v es:=by
 obtain⟨A,cap,hv,hc,hm,hn,hr,hx⟩:=h;refine⟨A,cap,hv,hc,hm,hn,hr,fun h0=> ?_⟩;obtain⟨b,off,hA,ac,hx⟩:=hx h0;have:=hb.size
 refine⟨b,off,hA,tO,fun k hk=> ?_⟩;obtain⟨h1,h2,h3⟩:=hx k hk;exact⟨(hb.cell (p:=⟨b,_,none⟩) ac).trans h1,(hb.cell (p:=⟨b,_,none⟩) ac).trans h2,(hb.cell (p:=⟨b,_,none⟩) ac).trans h3⟩
theorem ArgE.drew (h:ArgE w v es):ArgE w.drew v es:=h
theorem ArgE.alloc (h:ArgE w v es) (o:Obj):ArgE (w.alloc o) v es:=h.below ((zac _ _).alloc (zag _) _)
theorem ArgE.form (h:ArgE w v es): ∃A cap,v= .slice A es.length cap:=by
 obtain⟨A,cap,hv,_⟩:=h;exact⟨A,cap,hv⟩
theorem ArgE.at {A:Option Addr} {m cap:Nat} (h:ArgE w (.slice A m cap) es) {k:Nat} (hk:k<es.length):
  ∃b off,A=some ⟨b,off,none⟩∧b<w.heap.size∧w.cell? ⟨b,off+k*3,none⟩=some (.int .i64 es[k].1)∧w.cell? ⟨b,off+k*3+1,none⟩=some (.int .i64 es[k].2.1)∧w.cell? ⟨b,off+k*3+2,none⟩=some (.int .i64 es[k].2.2)∧E64 es[k]:=by
 obtain⟨A',cap',hv,hc,hm,hn,hr,hx⟩:=h;obtain⟨b,off,hA,ac,hx⟩:=hx tO;injection hv with e1 e2 e3
 obtain⟨h1,h2,h3⟩:=hx k hk;exact⟨b,off,e1.trans hA,ac,h1,h2,h3,hr _ (by simp)⟩
theorem OwE.arg (h:OwE w base v es):ArgE w v es:=by
 obtain⟨ho,hr⟩:=h;obtain⟨A,cap,hv,hc,hm,hn,hx⟩:=qr ho;refine⟨A,cap,hv,hc,hm,hn,hr,fun h0=> ?_⟩;obtain⟨g,hA,fd,dC⟩:=hx h0;subst hv hA;refine⟨g,0,rfl,dC,fun k hk=> ?_⟩;have c:=fun j (hj:j<3)=>ho.cellAt (k*3+j) tO;have c0:=c 0 tO;have c1:=c 1 tO;have c2:=c 2 tO;rw[qHl es k _ hk tO] at c0 c1 c2;simp only[edC,zav,zaF,Nat.add_zero] at c0 c1 c2;simp only[za7];exact⟨c0,c1,c2⟩
theorem OwE.mono {base':Nat} (h:OwE w base v es) (hb:base'≤base):OwE w base' v es:=by
 refine⟨⟨h.1.1,?_⟩,h.2⟩;rcases h.1.2 with h0 | ⟨g,cap,cur,hv,hg,r⟩
 ·exact .inl h0
 ·exact .inr ⟨g,cap,cur,hv,zas hb hg,r⟩
theorem OwE.below (h:OwE w base v es) (hb:Below w.heap.size w w'):OwE w' base v es:=⟨ql h.1 hb,h.2⟩
theorem OwE.drewN (h:OwE w base v es) (k:Nat):OwE (w.drewN k) base v es:=h
theorem OwE.drew (h:OwE w base v es):OwE w.drew base v es:=h
theorem OwE.alloc (h:OwE w base v es) (o:Obj):OwE (w.alloc o) base v es:=⟨h.1.alloc o,h.2⟩
theorem OwE.far (h:OwE w base v es) {p:Addr} (hp:p.block<base) (u:Value):OwE (w.setCell p u) base v es:=⟨ownsRow_setCell_below h.1 hp u,h.2⟩
theorem OwE.form (h:OwE w base v es): ∃A cap,v= .slice A es.length cap∧es.length≤cap∧cap≤maxLen∧(A=none→cap=0)∧(0<es.length→ ∃g,A=some ⟨g,0,none⟩∧base≤g∧g<w.heap.size):=qr h.1
theorem OwE.keep (h:OwE w base v es) (hb: ∀b,v.ownBlock=some b→w'.heap[b]? =w.heap[b]?):OwE w' base v es:=by
 refine⟨⟨h.1.1,?_⟩,h.2⟩;rcases h.1.2 with h0 | ⟨g,cap,cur,hv,hg,hh,r⟩
 ·exact .inl h0
 ·exact .inr ⟨g,cap,cur,hv,hg,by rw[hb g (by rw[hv];rfl)];exact hh,r⟩
theorem OwE.nil:OwE w base (.slice none 0 0) []:=⟨⟨rfl, .inl ⟨rfl,rfl⟩⟩,qLX⟩
theorem qKE (w:World) {base:Nat} (hb:base≤w.heap.size):OwE (w.alloc (.cells #[] 154)) base (.slice (some ⟨w.heap.size,0,none⟩) 0 0) []:=
 ⟨by have:=zaG (e:=154) (size:=3) (base:=base) w #[] 0 hb (by unfold maxLen;omega) (by simp);simpa[edCs] using this,qLX⟩
theorem ArgE.cut {A:Option Addr} {m cap k:Nat} (h:ArgE w (.slice A m cap) es) (hk:k≤es.length):ArgE w (.slice (if cap=k then A else A.map (·.add (k*3))) (es.length-k) (cap-k)) (es.drop k):=by
 obtain⟨A',cap',hv,hc,hm,hn,hr,hx⟩:=h;injection hv with e1 e2 e3
 subst e1 e2 e3;refine⟨_,_,by rw[zbc],by simp;omega,tO,?_,fun x hx=>hr x (za1 hx),fun h0=> ?_⟩
 ·split
  ·intro _;omega
  ·intro hA;cases A with
   | none=>have:=hn rfl;omega
   | some a=>cases hA
 ·simp at h0
  obtain⟨b,off,rfl,ac,hx⟩:=hx tO;rw[if_neg tO];refine⟨b,off+k*3,by simp[Addr.add_lit],ac,fun j hj=> ?_⟩;simp only[zbc] at hj;have:=hx (k+j) tO
  rw[za9];have e:off+k*3+j*3=off+(k+j)*3:=tO;rw[e];exact this
theorem ArgG.below (h:ArgG w v g) (hb:Below w.heap.size w w'):ArgG w' v g:=by
 obtain⟨s,hv,h1,h2,ha⟩:=h;exact⟨s,hv,h1,h2,ha.below hb⟩
theorem OwG.arg (h:OwG w base v g):ArgG w v g:=by
 obtain⟨s,hv,h1,h2,ha⟩:=h;exact⟨s,hv,h1,h2,ha.arg⟩
end
theorem qEG:(Tryz.prog.info? 154).map (fun i=>(i.zero,i.size,i.bytes))=some (some (.agg #[.int .i64 0, .int .i64 0, .int .i64 0]),3,24):=by kernel_rfl
theorem qOH (es:List EdD) (k:Nat) (hk:k<es.length) (x y z:Int):(((edCs es).set (k*3) (.int .i64 x)).set (k*3+1) (.int .i64 y)).set (k*3+2) (.int .i64 z)=edCs (es.set k (x,y,z)):=by
 induction es generalizing k with
 | nil=>cases hk
 | cons e es ih=>
   match k with
   | 0=>simp[qDB,edC]
   | k+1=>
     have h3:(edC e).length=3:=rfl;rw[List.set_cons_succ,qDB,qDB,←ih k (by simpa using hk)];rw[zaq _ _ (by rw[h3];omega),zaq _ _ (by rw[h3];omega),zaq _ _ (by rw[h3];omega),h3];congr 2
     ·congr 1
      ·congr 1;omega
      ·omega
     ·omega
theorem OwE.set {w:World} {base n g cap:Nat} {es:List EdD} (h:OwE w base (.slice (some ⟨g,0,none⟩) n cap) es) (k:Nat) (hk:k<es.length) {x y z:Int} (hx:I64 x) (hy:I64 y) (hz:I64 z):
  OwE (((w.setCell ⟨g,k*3,none⟩ (.int .i64 x)).setCell ⟨g,k*3+1,none⟩ (.int .i64 y)).setCell ⟨g,k*3+2,none⟩ (.int .i64 z)) base (.slice (some ⟨g,0,none⟩) n cap) (es.set k (x,y,z))∧
  w.grownBy (((w.setCell ⟨g,k*3,none⟩ (.int .i64 x)).setCell ⟨g,k*3+1,none⟩ (.int .i64 y)).setCell ⟨g,k*3+2,none⟩ (.int .i64 z)) (some g):=by
 have hn:n=es.length:=by
  rcases h.1.2 with ⟨hv,_⟩ | ⟨g',cap',cur,hv,_⟩
  ·cases hv
  ·injection hv
 subst hn;obtain⟨h1,g1⟩:=h.1.stored (k*3) (.int .i64 x);obtain⟨h2,g2⟩:=h1.stored (k*3+1) (.int .i64 y);obtain⟨h3,g3⟩:=h2.stored (k*3+2) (.int .i64 z);refine⟨⟨?_,fun e he=> ?_⟩,(g1.trans g2).trans g3⟩
 ·rw[qOH es k hk] at h3;rw[zbd];exact h3
 ·rcases zaP he with he | rfl
  ·exact h.2 e he
  ·exact⟨hx,hy,hz⟩
theorem OwE.cellAt {w:World} {base n g cap:Nat} {es:List EdD} (h:OwE w base (.slice (some ⟨g,0,none⟩) n cap) es) (k:Nat) (hk:k<es.length):
  w.cell? ⟨g,k*3,none⟩=some (.int .i64 es[k].1)∧w.cell? ⟨g,k*3+1,none⟩=some (.int .i64 es[k].2.1)∧w.cell? ⟨g,k*3+2,none⟩=some (.int .i64 es[k].2.2):=by
 obtain⟨b,off,hA,_,c0,c1,c2,_⟩:=h.arg.at hk;injection hA with e
 injection e with e1 e2
 subst e1 e2;rw[za7] at c0 c1 c2;exact⟨c0,c1,c2⟩
theorem OwE.free {w:World} {base n g cap:Nat} {es:List EdD} (h:OwE w base (.slice (some ⟨g,0,none⟩) n cap) es) (j:Nat):w.frozen? ⟨g,j,none⟩=false:=by
 have hn:n=es.length:=by
  rcases h.1.2 with ⟨hv,_⟩ | ⟨g',cap',cur,hv,_⟩
  ·cases hv
  ·injection hv
 subst hn;exact h.1.frozenAt j
def cmpI (a b:Int):Int:=if a<b then-1 else if b<a then 1 else 0
def cmpL (a b:Int):Int:=
 if a=b then 0 else if a= -9223372036854775808 then 1 else if b= -9223372036854775808 then-1
 else if cmpI (max a (-a)) (max b (-b))≠0 then cmpI (max a (-a)) (max b (-b)) else cmpI b a
def rk (x:Int):Int:=if x<0 then wrap64 (wrap64 (-2*x)-1) else wrap64 (wrap64 (2*x)-2)
theorem qKY {x:Int} (h1: -3≤x) (h2:x≤3):rk x=if x<0 then-2*x-1 else 2*x-2:=by
 unfold rk;split
 ·rw[IntWalk.wrap64_in (-2*x) ⟨tO,tO⟩];exact IntWalk.wrap64_in _ ⟨tO,tO⟩
 ·rw[IntWalk.wrap64_in (2*x) ⟨tO,tO⟩];exact IntWalk.wrap64_in _ ⟨tO,tO⟩
theorem qQi {a b:Int} (h1: -3≤a) (h2:a≤3) (h3:a≠0) (h4: -3≤b) (h5:b≤3) (h6:b≠0):rk b≤rk a↔0≤cmpL a b:=by
 rw[qKY h1 h2,qKY h4 h5];unfold cmpL cmpI;repeat' split
 all_goals omega
theorem qq (x:Int) (w:World):
  Calls Tryz.prog 100 #[.int .i64 x] w fun e w'=>e= .returned (.int .i64 (rk x))∧w=w':=by
 go_enter Tryz.func100,Tryz.ntmps100
 go_wp2
 all_goals go_ret
 all_goals (refine⟨?_,rfl⟩;unfold rk;simp_all)
 omega
theorem qV (a b:Int) (w:World):
  Calls Tryz.prog 101 #[.int .i64 a, .int .i64 b] w fun e w'=>e= .returned (.int .i64 (cmpI a b))∧w=w':=by
 rcases Int.lt_trichotomy a b with h | h | h
 ·go_enter Tryz.func101,Tryz.ntmps101
  go_wp2;go_ret;exact⟨qU (by unfold cmpI;rw[if_pos h]),rfl⟩
 ·subst h;go_enter Tryz.func101,Tryz.ntmps101
  go_wp2;go_ret;exact⟨qU (by unfold cmpI;simp),rfl⟩
 ·have h': ¬a<b:=tO;go_enter Tryz.func101,Tryz.ntmps101
  go_wp2;go_ret;exact⟨qU (by unfold cmpI;rw[if_neg tO,if_pos h]),rfl⟩
theorem qAF (a b:Int) (w:World) (ha:I64 a) (hb:I64 b):
  Calls Tryz.prog 58 #[.int .i64 a, .int .i64 b] w fun e w'=>e= .returned (.int .i64 (cmpL a b))∧w=w':=by
 have Bx:=ha.1;have DA:=ha.2;have cL:=hb.1;have bD:=hb.2;clear ha hb;rcases e1:(a==b) with _ | _
 ·rcases e2:(a== -9223372036854775808) with _ | _
  ·rcases e3:(b== -9223372036854775808) with _ | _
   ·have n1:a≠b:=by simpa using e1
    have n2:a≠ -9223372036854775808:=by simpa using e2
    have n3:b≠ -9223372036854775808:=by simpa using e3
    have F:Hid (cmpL a b=if cmpI (max a (-a)) (max b (-b))≠0 then cmpI (max a (-a)) (max b (-b)) else cmpI b a):=qA (by unfold cmpL;rw[if_neg n1,if_neg n2,if_neg n3]);have Ed: -9223372036854775808<a:=tO;have mV: -9223372036854775808<b:=tO;clear n1 n2 n3;rcases Int.lt_or_le a 0 with sa | sa<;>rcases Int.lt_or_le b 0 with sb | sb
    ·have m1:Hid (max a (-a)= -a):=qA tO;have m2:Hid (max b (-b)= -b):=qA tO;have G:=F.out;rw[m1.out,m2.out] at G;have FG:=qA G;clear G F;have p1:a< -a:=tO;have p2:b< -b:=tO;rcases e4:(cmpI (-a) (-b) != 0) with _ | _
     ·have H:Hid (cmpL a b=cmpI b a):=qA (by rw[FG.out,if_neg (by simpa using e4)]);go_enter Tryz.func58,Tryz.ntmps58
      go_wp2_with (go_at_call 101;refine(qV _ _ _).mono ?_;rintro e w' ⟨rfl,rfl⟩)
      go_ret;exact⟨qU H.out.symm,rfl⟩
     ·have H:Hid (cmpL a b=cmpI (-a) (-b)):=qA (by rw[FG.out,if_pos (by simpa using e4)]);go_enter Tryz.func58,Tryz.ntmps58
      go_wp2_with (go_at_call 101;refine(qV _ _ _).mono ?_;rintro e w' ⟨rfl,rfl⟩)
      go_ret;exact⟨qU H.out.symm,rfl⟩
    ·have m1:Hid (max a (-a)= -a):=qA tO;have m2:Hid (max b (-b)=b):=qA tO;have G:=F.out;rw[m1.out,m2.out] at G;have FG:=qA G;clear G F;have p1:a< -a:=tO;have p2: ¬b< -b:=tO;rcases e4:(cmpI (-a) (b) != 0) with _ | _
     ·have H:Hid (cmpL a b=cmpI b a):=qA (by rw[FG.out,if_neg (by simpa using e4)]);go_enter Tryz.func58,Tryz.ntmps58
      go_wp2_with (go_at_call 101;refine(qV _ _ _).mono ?_;rintro e w' ⟨rfl,rfl⟩)
      go_ret;exact⟨qU H.out.symm,rfl⟩
     ·have H:Hid (cmpL a b=cmpI (-a) (b)):=qA (by rw[FG.out,if_pos (by simpa using e4)]);go_enter Tryz.func58,Tryz.ntmps58
      go_wp2_with (go_at_call 101;refine(qV _ _ _).mono ?_;rintro e w' ⟨rfl,rfl⟩)
      go_ret;exact⟨qU H.out.symm,rfl⟩
    ·have m1:Hid (max a (-a)=a):=qA tO;have m2:Hid (max b (-b)= -b):=qA tO;have G:=F.out;rw[m1.out,m2.out] at G;have FG:=qA G;clear G F;have p1: ¬a< -a:=tO;have p2:b< -b:=tO;rcases e4:(cmpI (a) (-b) != 0) with _ | _
     ·have H:Hid (cmpL a b=cmpI b a):=qA (by rw[FG.out,if_neg (by simpa using e4)]);go_enter Tryz.func58,Tryz.ntmps58
      go_wp2_with (go_at_call 101;refine(qV _ _ _).mono ?_;rintro e w' ⟨rfl,rfl⟩)
      go_ret;exact⟨qU H.out.symm,rfl⟩
     ·have H:Hid (cmpL a b=cmpI (a) (-b)):=qA (by rw[FG.out,if_pos (by simpa using e4)]);go_enter Tryz.func58,Tryz.ntmps58
      go_wp2_with (go_at_call 101;refine(qV _ _ _).mono ?_;rintro e w' ⟨rfl,rfl⟩)
      go_ret;exact⟨qU H.out.symm,rfl⟩
    ·have m1:Hid (max a (-a)=a):=qA tO;have m2:Hid (max b (-b)=b):=qA tO;have G:=F.out;rw[m1.out,m2.out] at G;have FG:=qA G;clear G F;have p1: ¬a< -a:=tO;have p2: ¬b< -b:=tO;rcases e4:(cmpI (a) (b) != 0) with _ | _
     ·have H:Hid (cmpL a b=cmpI b a):=qA (by rw[FG.out,if_neg (by simpa using e4)]);go_enter Tryz.func58,Tryz.ntmps58
      go_wp2_with (go_at_call 101;refine(qV _ _ _).mono ?_;rintro e w' ⟨rfl,rfl⟩)
      go_ret;exact⟨qU H.out.symm,rfl⟩
     ·have H:Hid (cmpL a b=cmpI (a) (b)):=qA (by rw[FG.out,if_pos (by simpa using e4)]);go_enter Tryz.func58,Tryz.ntmps58
      go_wp2_with (go_at_call 101;refine(qV _ _ _).mono ?_;rintro e w' ⟨rfl,rfl⟩)
      go_ret;exact⟨qU H.out.symm,rfl⟩
   ·have H:Hid (cmpL a b= -1):=qA (by unfold cmpL;simp at e1 e2 e3;rw[if_neg e1,if_neg e2,if_pos e3]);go_enter Tryz.func58,Tryz.ntmps58
    go_wp2;go_ret;exact⟨qU H.out.symm,rfl⟩
  ·have H:Hid (cmpL a b=1):=qA (by unfold cmpL;simp at e1 e2;rw[if_neg e1,if_pos e2]);go_enter Tryz.func58,Tryz.ntmps58
   go_wp2;go_ret;exact⟨qU H.out.symm,rfl⟩
 ·have H:Hid (cmpL a b=0):=qA (by unfold cmpL;simp at e1;rw[if_pos e1]);go_enter Tryz.func58,Tryz.ntmps58
  go_wp2;go_ret;exact⟨qU H.out.symm,rfl⟩
def edV (e:EdD):Value:= .agg #[.int .i64 e.1, .int .i64 e.2.1, .int .i64 e.2.2]
theorem qIR (a b:EdD) (w:World):(Op.equalIn 10000 154 (edV a) (edV b)).run Tryz.prog w= .ok (decide (a=b)) w:=by
 have u3:=Tryz.underlying3;have a3:=Tryz.isAgg3;have z3:=Tryz.sizeOf3;have hS:Tryz.prog.underlying 154=some (.struct (Tryz.prog.fieldsOf 154)):=by kernel_rfl
 have hp:Tryz.prog.stoodInHeld 154=false:=by kernel_rfl
 obtain⟨x,y,z⟩:=a;obtain⟨x',y',z'⟩:=b;simp only[edV];rw[show(10000:Nat)=9999+1 from rfl,run_equalIn_agg w 9999 154 _ _ hS hp];simp only[Program.fieldsOf,Tryz.underlying154];go_simp;by_cases h1:x=x'<;>by_cases h2:y=y'<;>by_cases h3:z=z'<;>simp[h1,h2,h3]
theorem qID (a b:EdD) (w:World):(binOp .neq 154 (edV a) (edV b)).run Tryz.prog w= .ok (.bool (!decide (a=b))) w:=by
 have:=qIR a b w
 unfold edV at this⊢;rw[run_neq_struct,this];rfl
theorem qLR (a b:EdD) (w:World):(binOp .eql 154 (edV a) (edV b)).run Tryz.prog w= .ok (.bool (decide (a=b))) w:=by
 have:=qIR a b w
 unfold edV at this⊢;rw[run_eql_struct,this];rfl
theorem qDd:Tryz.prog.eqGuardType Tryz.prog.depth 154=false:=by kernel_rfl
theorem qDw (v u:Value) (d d':GrD) (w:World) (h:ArgG w v d) (h':ArgG w u d'):
  Calls Tryz.prog 188 #[v,u] w fun e w'=>e= .returned (.bool (decide (d=d')))∧Below w.heap.size w w':=by
 obtain⟨s,rfl,_,_,ha⟩:=h;obtain⟨s',rfl,_,_,cN⟩:=h';obtain⟨x,y,es⟩:=d;obtain⟨x',y',es'⟩:=d';have H:=qA ha;have H':=qA cN;obtain⟨A,cap,rfl,aj,hm,_⟩:=ha;obtain⟨A',cap',rfl,cV,ch,_⟩:=cN;unfold maxLen at hm ch;rcases e1:(x != x') with _ | _
 ·rcases e2:(y != y') with _ | _
  ·by_cases ai:es.length=es'.length
   ·have F:Hid (decide ((x,y,es)=(x',y',es'))=decide (es=es')):=qA (by simp at e1 e2;simp[e1,e2]);have hd:((es.length:Int) != (es'.length:Int))=false:=by simp[ai]
    have bk:=qA ai;clear ai;go_enter Tryz.func188,Tryz.ntmps188
    go_wp2;have hb:Below w.heap.size w ((w.alloc (.cells #[.int .i64 x,.int .i64 y, .slice A es.length cap] 82)).alloc (.cells #[.int .i64 x',.int .i64 y', .slice A' es'.length cap'] 82)):=(by repeat(first | exact .refl _ _ | (refine BxS ?_ _) | (refine qB ?_ _) | (refine zad ?_) | (refine BxA ?_ _)));have q0:((w.alloc (.cells #[.int .i64 x,.int .i64 y, .slice A es.length cap] 82)).alloc (.cells #[.int .i64 x',.int .i64 y', .slice A' es'.length cap'] 82)).cell? ⟨w.heap.size,2,none⟩=some (.slice A es.length cap):=by simp[go_sem]
    have q1:((w.alloc (.cells #[.int .i64 x,.int .i64 y, .slice A es.length cap] 82)).alloc (.cells #[.int .i64 x',.int .i64 y', .slice A' es'.length cap'] 82)).cell? ⟨w.heap.size+1,2,none⟩=some (.slice A' es'.length cap'):=by simp[go_sem]
    generalize (w.alloc (.cells #[.int .i64 x,.int .i64 y, .slice A es.length cap] 82)).alloc (.cells #[.int .i64 x',.int .i64 y', .slice A' es'.length cap'] 82)=w2 at hb q0 q1⊢;have HB:=qA hb;clear hb;go_loopw [5] (fun i wr=> ∃k:Nat,k≤es.length∧i= .int .i64 k∧es.take k=es'.take k∧ ∃n,wr=w2.drewN n) (fun i _=>es.length-(intOf i).toNat)
    case atStart=>exact⟨0,zak _,rfl,by simp,0,rfl⟩
    case round=>
     obtain⟨k,hk,rfl,cP,n,rfl⟩:=hrel;have bN:=qA cP;clear cP;by_cases ac:k<es.length
     ·have an:k<es'.length:=by have:=bk.out;omega
      obtain⟨g,off,rfl,hg,c0,c1,c2,_⟩:=(H.out.below HB.out).at ac;obtain⟨g',off',rfl,CQ,vY,dX,eS,_⟩:=(H'.out.below HB.out).at an;have HQ:Hid (es.take (k+1)=es'.take (k+1)↔es[k]=es'[k]):=qA ⟨fun e=>by
       have:=congrArg (fun l=>l[k]?) e
       simpa[ac,an] using this,fun e=>qAn bN.out ac an e⟩
      have HN:Hid (es[k]≠es'[k]→es≠es'):=qA (fun e1 e2=>by subst e2;exact e1 rfl);generalize es[k]=d at*;generalize es'[k]=d' at*;have fc:=fun w=>qID d d' w;have bO:=qDd;unfold edV at fc;rcases e3:decide (d=d') with _ | _
      ·rw[e3] at fc;go_wp2;go_quiet (fail)
       go_wp2;go_ret;exact⟨qC (by rw[F.out];symm;rw[decide_eq_false_iff_not];exact HN.out (by simpa using e3)),qB (qB HB.out _) _⟩
      ·rw[e3] at fc;go_wp2;go_quiet (fail)
       go_wp2;go_roundw
       case rel=>exact⟨k+1,tO,by go_num,HQ.out.2 (by simpa using e3),_,rfl⟩
       case measure=>simp[intOf];omega
     ·obtain rfl:k=es.length:=tO
      go_wp2;go_ret;refine⟨qC ?_,qB HB.out _⟩;have h1:=bN.out;rw[zap,bk.out,zap] at h1;rw[F.out];simp[h1]
   ·have hd:((es.length:Int) != (es'.length:Int))=true:=by simp;omega
    go_enter Tryz.func188,Tryz.ntmps188
    go_wp2;go_ret;have F:es≠es':=fun e=>ai (by rw[e]);exact⟨qC (by simp[F]),(by repeat(first | exact .refl _ _ | (refine BxS ?_ _) | (refine qB ?_ _) | (refine zad ?_) | (refine BxA ?_ _)))⟩
  ·go_enter Tryz.func188,Tryz.ntmps188
   go_wp2;go_ret;exact⟨qC (by simp at e2;simp[e2]),(by repeat(first | exact .refl _ _ | (refine BxS ?_ _) | (refine qB ?_ _) | (refine zad ?_) | (refine BxA ?_ _)))⟩
 ·go_enter Tryz.func188,Tryz.ntmps188
  go_wp2;go_ret;exact⟨qC (by simp at e1;simp[e1]),(by repeat(first | exact .refl _ _ | (refine BxS ?_ _) | (refine qB ?_ _) | (refine zad ?_) | (refine BxA ?_ _)))⟩
theorem qFX (v u:Value) (es es':List EdD) (w:World) (h:ArgE w v es) (h':ArgE w u es'):
  Calls Tryz.prog 157 #[v,u] w fun e w'=>e= .returned (.bool (decide (es=es')))∧ ∃n,w'=w.drewN n:=by
 have H:=qA h;have H':=qA h';obtain⟨A,cap,rfl,aj,hm,_⟩:=h;obtain⟨A',cap',rfl,cV,ch,_⟩:=h';unfold maxLen at hm ch;by_cases ai:es.length=es'.length
 ·have hd:((es.length:Int) != (es'.length:Int))=false:=by simp[ai]
  have bk:=qA ai;clear ai;go_enter Tryz.func157,Tryz.ntmps157
  go_wp2;go_loopw [13] (fun i wr=> ∃k:Nat,k≤es.length∧i= .int .i64 k∧es.take k=es'.take k∧ ∃n,wr=w.drewN n) (fun i _=>es.length-(intOf i).toNat)
  case atStart=>exact⟨0,zak _,rfl,by simp,0,rfl⟩
  case round=>
   obtain⟨k,hk,rfl,cP,n,rfl⟩:=hrel;have bN:=qA cP;clear cP;by_cases ac:k<es.length
   ·have an:k<es'.length:=by have:=bk.out;omega
    obtain⟨g,off,rfl,hg,c0,c1,c2,_⟩:=H.out.at ac;obtain⟨g',off',rfl,CQ,vY,dX,eS,_⟩:=H'.out.at an;have HQ:Hid (es.take (k+1)=es'.take (k+1)↔es[k]=es'[k]):=qA ⟨fun e=>by
     have:=congrArg (fun l=>l[k]?) e
     simpa[ac,an] using this,fun e=>qAn bN.out ac an e⟩
    have HN:Hid (es[k]≠es'[k]→es≠es'):=qA (fun e1 e2=>by subst e2;exact e1 rfl);generalize es[k]=d at*;generalize es'[k]=d' at*;have fc:=fun w=>qID d d' w;have bO:=qDd;unfold edV at fc;rcases e3:decide (d=d') with _ | _
    ·rw[e3] at fc;go_wp2;go_quiet (fail)
     go_wp2;go_ret;exact⟨qC (by symm;rw[decide_eq_false_iff_not];exact HN.out (by simpa using e3)),_,World.drewN_drewN _ _ _⟩
    ·rw[e3] at fc;go_wp2;go_quiet (fail)
     go_wp2;go_roundw
     case rel=>exact⟨k+1,tO,by go_num,HQ.out.2 (by simpa using e3),_,rfl⟩
     case measure=>simp[intOf];omega
   ·obtain rfl:k=es.length:=tO
    go_wp2;go_ret;refine⟨qC ?_,n,rfl⟩;have h1:=bN.out;rw[zap,bk.out,zap] at h1;simp[h1]
 ·have hd:((es.length:Int) != (es'.length:Int))=true:=by simp;omega
  go_enter Tryz.func157,Tryz.ntmps157
  go_wp2;go_ret;exact⟨qC (by symm;rw[decide_eq_false_iff_not];rintro rfl;exact ai rfl),0,rfl⟩
theorem qED (v u:Value) (d d':GrD) (w:World) (h:ArgG w v d) (h':ArgG w u d'):
  Calls Tryz.prog 131 #[v,u] w fun e w'=>e= .returned (.bool (decide (d=d')))∧Below w.heap.size w w':=by
 obtain⟨s,rfl,_,_,ha⟩:=h;obtain⟨s',rfl,_,_,cN⟩:=h';obtain⟨x,y,es⟩:=d;obtain⟨x',y',es'⟩:=d';have H:=qA ha;have H':=qA cN;clear ha cN;rcases e1:(x==x') with _ | _
 ·go_enter Tryz.func131,Tryz.ntmps131
  go_wp2;go_ret;exact⟨qC (by simp at e1;simp[e1]),(by repeat(first | exact .refl _ _ | (refine BxS ?_ _) | (refine qB ?_ _) | (refine zad ?_) | (refine BxA ?_ _)))⟩
 ·rcases e2:(y==y') with _ | _
  ·go_enter Tryz.func131,Tryz.ntmps131
   go_wp2;go_ret;exact⟨qC (by simp at e2;simp[e2]),(by repeat(first | exact .refl _ _ | (refine BxS ?_ _) | (refine qB ?_ _) | (refine zad ?_) | (refine BxA ?_ _)))⟩
  ·have F:Hid (decide ((x,y,es)=(x',y',es'))=decide (es=es')):=qA (by simp at e1 e2;simp[e1,e2]);go_enter Tryz.func131,Tryz.ntmps131
   go_wp2_with fail;have hb:Below w.heap.size w ((w.alloc (.cells #[.int .i64 x,.int .i64 y,s] 82)).alloc (.cells #[.int .i64 x',.int .i64 y',s'] 82)):=(by repeat(first | exact .refl _ _ | (refine BxS ?_ _) | (refine qB ?_ _) | (refine zad ?_) | (refine BxA ?_ _)));refine(qFX _ _ es es' _ (H.out.below hb) (H'.out.below hb)).mono ?_
   rintro e w1 ⟨rfl,n,rfl⟩;have HB:=qA hb;clear hb;go_wp2;go_ret;exact⟨qC F.out.symm,qB HB.out _⟩
def cmpE (a b:EdD):Int:=if cmpI a.1 b.1≠0 then cmpI a.1 b.1 else if cmpI a.2.1 b.2.1≠0 then cmpI a.2.1 b.2.1 else cmpI a.2.2 b.2.2
theorem qm {a b:Int}:cmpI a b=0↔a=b:=by
 unfold cmpI;split
 ·constructor
  ·intro h;cases h
  ·omega
 ·split
  ·constructor
   ·intro h;cases h
   ·omega
  ·constructor
   ·omega
   ·intro _;rfl
def nth3 (x y z:Int):Nat→Int
 | 0=>x
 | 1=>y
 | _=>z
theorem qMF (x y z x' y' z':Int) (k:Nat) (hk:k<3) (h: ∀j,j<k→nth3 x y z j=nth3 x' y' z' j):(nth3 x y z k<nth3 x' y' z' k→cmpE (x,y,z) (x',y',z')= -1)∧(nth3 x' y' z' k<nth3 x y z k→cmpE (x,y,z) (x',y',z')=1):=by
 match k,hk with
 | 0,_=>
   simp only[nth3];refine⟨fun h=> ?_,fun h=> ?_⟩
   ·have:cmpI x x'= -1:=by unfold cmpI;rw[if_pos h]
    simp[cmpE,this]
   ·have:cmpI x x'=1:=by unfold cmpI;rw[if_neg tO,if_pos h]
    simp[cmpE,this]
 | 1,_=>
   have h0:x=x':=h 0 tO;simp only[nth3];refine⟨fun h=> ?_,fun h=> ?_⟩
   ·have:cmpI y y'= -1:=by unfold cmpI;rw[if_pos h]
    simp[cmpE,this,qm.2 h0]
   ·have:cmpI y y'=1:=by unfold cmpI;rw[if_neg tO,if_pos h]
    simp[cmpE,this,qm.2 h0]
 | 2,_=>
   have h0:x=x':=h 0 tO;have h1:y=y':=h 1 tO;simp only[nth3];refine⟨fun h=> ?_,fun h=> ?_⟩
   ·have:cmpI z z'= -1:=by unfold cmpI;rw[if_pos h]
    simp[cmpE,this,qm.2 h0,qm.2 h1]
   ·have:cmpI z z'=1:=by unfold cmpI;rw[if_neg tO,if_pos h]
    simp[cmpE,this,qm.2 h0,qm.2 h1]
theorem qMU (x y z x' y' z':Int) (h: ∀j,j<3→nth3 x y z j=nth3 x' y' z' j):cmpE (x,y,z) (x',y',z')=0:=by
 have h0:x=x':=h 0 tO;have h1:y=y':=h 1 tO;have h2:z=z':=h 2 tO;simp[cmpE,qm.2 h0,qm.2 h1,qm.2 h2]
def qAq (r n:Int) (e:EdD):Bool:=inB e.1 0 (wrap64 (n-1))&&inB e.2.2 0 (wrap64 (n-1))&&inB e.2.1 1 r
def okE (g:GrD) (k:Nat):Bool:=match g.2.2[k]? with
 | none=>true
 | some e=>qAq g.1 g.2.1 e&&(match k with
   | 0=>true
   | j+1=>match g.2.2[j]? with
     | none=>true
     | some d=>decide (cmpE d e<0))
def grB (g:GrD):Bool:=inB g.1 1 3&&inB g.2.1 1 40&&decide (g.2.2.length≤120)&&(zaC g.2.2.length).all (okE g)
theorem qJT {g:GrD} (k:Nat) (hk:k<g.2.2.length) (h:okE g k=false):grB g=false:=by
 unfold grB;have:(zaC g.2.2.length).all (okE g)=false:=by
  rw[List.all_eq_false];exact⟨k,zaz.2 hk,by simp[h]⟩
 rw[this,Bool.and_false]
theorem qPM {g:GrD} (h: ∀k,k<g.2.2.length→okE g k=true):grB g=(inB g.1 1 3&&inB g.2.1 1 40&&decide (g.2.2.length≤120)):=by
 unfold grB;have:(zaC g.2.2.length).all (okE g)=true:=by
  rw[zaD];intro k hk;exact h k (zaz.1 hk)
 rw[this,Bool.and_true]
theorem qFx {g:GrD} (h:0<g.2.2.length):okE g 0=qAq g.1 g.2.1 g.2.2[0]:=by
 unfold okE;rw[zau h];simp
theorem qGr {g:GrD} {k:Nat} (h0:0<k) (h:k<g.2.2.length):okE g k=(qAq g.1 g.2.1 g.2.2[k]&& !decide (0≤cmpE g.2.2[k-1] g.2.2[k])):=by
 obtain⟨j,rfl⟩: ∃j,k=j+1:=⟨k-1,tO⟩;unfold okE;rw[zau h];show(qAq g.1 g.2.1 _&&(match g.2.2[j]? with | none=>true | some d=>decide (cmpE d g.2.2[j+1]<0)))=_
 rw[zau (show j<g.2.2.length by omega)];simp only[Nat.add_sub_cancel];congr 1
 rw[Bool.eq_iff_iff];simp
theorem qR {g:GrD} (h:grB g=true):(1≤g.1∧g.1≤3)∧(1≤g.2.1∧g.2.1≤40)∧g.2.2.length≤120∧ ∀k,k<g.2.2.length→okE g k=true:=by
 unfold grB at h;simp only[zah,decide_eq_true_eq,zaD,zaz] at h;obtain⟨⟨⟨h1,h2⟩,h3⟩,h4⟩:=h;exact⟨qP.1 h1,qP.1 h2,h3,h4⟩
theorem qAu (a b:EdD) (w:World):
  Calls Tryz.prog 198 #[edV a,edV b] w fun e w'=>e= .returned (.int .i64 (cmpE a b))∧Below w.heap.size w w':=by
 obtain⟨x,y,z⟩:=a;obtain⟨x',y',z'⟩:=b;obtain⟨R,hR⟩: ∃R,R=cmpE (x,y,z) (x',y',z'):=⟨_,rfl⟩;rw[←hR];have HR:=qA hR;clear hR;unfold edV;go_enter Tryz.func198,Tryz.ntmps198
 go_wp2;have hb:Below w.heap.size w ((((w.alloc (.cells #[.int .i64 x,.int .i64 y,.int .i64 z] 154)).alloc (.cells #[.int .i64 x',.int .i64 y',.int .i64 z'] 154)).alloc (.cells #[.int .i64 x,.int .i64 y,.int .i64 z] 3)).alloc (.cells #[.int .i64 x',.int .i64 y',.int .i64 z'] 3)):=(by repeat(first | exact .refl _ _ | (refine BxS ?_ _) | (refine qB ?_ _) | (refine zad ?_) | (refine BxA ?_ _)));have hc: ∀j,j<3→((((w.alloc (.cells #[.int .i64 x,.int .i64 y,.int .i64 z] 154)).alloc (.cells #[.int .i64 x',.int .i64 y',.int .i64 z'] 154)).alloc (.cells #[.int .i64 x,.int .i64 y,.int .i64 z] 3)).alloc (.cells #[.int .i64 x',.int .i64 y',.int .i64 z'] 3)).cell? ⟨w.heap.size+1+1,j,none⟩=some (.int .i64 (nth3 x y z j))∧
   ((((w.alloc (.cells #[.int .i64 x,.int .i64 y,.int .i64 z] 154)).alloc (.cells #[.int .i64 x',.int .i64 y',.int .i64 z'] 154)).alloc (.cells #[.int .i64 x,.int .i64 y,.int .i64 z] 3)).alloc (.cells #[.int .i64 x',.int .i64 y',.int .i64 z'] 3)).cell? ⟨w.heap.size+1+1+1,j,none⟩=some (.int .i64 (nth3 x' y' z' j)):=by
  intro j hj;match j,hj with
  | 0,_=>simp[go_sem,nth3]
  | 1,_=>simp[go_sem,nth3]
  | 2,_=>simp[go_sem,nth3]
 generalize ((((w.alloc (.cells #[.int .i64 x,.int .i64 y,.int .i64 z] 154)).alloc (.cells #[.int .i64 x',.int .i64 y',.int .i64 z'] 154)).alloc (.cells #[.int .i64 x,.int .i64 y,.int .i64 z] 3)).alloc (.cells #[.int .i64 x',.int .i64 y',.int .i64 z'] 3))=w4 at hb hc⊢;have HC:=qA hc;have HB:=qA hb;clear hc hb;go_loopw [7] (fun i wr=> ∃k:Nat,k≤3∧i= .int .i64 k∧(∀j,j<k→nth3 x y z j=nth3 x' y' z' j)∧ ∃n,wr=w4.drewN n) (fun i _=>3-(intOf i).toNat)
 case atStart=>exact⟨0,zak _,rfl,fun j hj=>absurd hj tO,0,rfl⟩
 case round=>
  obtain⟨k,hk,rfl,cP,n,rfl⟩:=hrel;have bN:=qA cP;clear cP;by_cases ac:k<3
  ·obtain⟨c0,c1⟩:=HC.out k ac;have HL:=qA (qMF x y z x' y' z' k ac bN.out);have HN:Hid (nth3 x y z k=nth3 x' y' z' k→ ∀j,j<k+1→nth3 x y z j=nth3 x' y' z' j):=qA fun F j hj=>by
    rcases Nat.lt_or_eq_of_le (Nat.le_of_lt_succ hj) with hj | rfl
    ·exact bN.out j hj
    ·exact F
   generalize nth3 x y z k=p at*;generalize nth3 x' y' z' k=q at*;by_cases h1:p<q
   ·go_wp2;go_quiet (fail)
    go_wp2;go_ret;exact⟨qU (by rw[HR.out,HL.out.1 h1]),qB (qB HB.out _) _⟩
   ·by_cases h2:q<p
    ·go_wp2;go_quiet (fail)
     go_wp2;go_quiet (fail)
     go_wp2;go_ret;exact⟨qU (by rw[HR.out,HL.out.2 h2]),qB (qB (qB HB.out _) _) _⟩
    ·go_wp2;go_quiet (fail)
     go_wp2;go_quiet (fail)
     go_wp2;go_roundw
     case rel=>exact⟨k+1,tO,by go_num,HN.out tO,_,rfl⟩
     case measure=>simp[intOf];omega
  ·obtain rfl:k=3:=tO
   have F:Hid (R=0):=qA (by rw[HR.out];exact qMU x y z x' y' z' bN.out);go_wp2;go_ret;exact⟨qU F.out.symm,qB HB.out _⟩
theorem qBf (a b:EdD) (w:World):
  Calls Tryz.prog 176 #[edV a,edV b] w fun e w'=>e= .returned (.int .i64 (cmpE a b))∧Below w.heap.size w w':=by
 obtain⟨x,y,z⟩:=a;obtain⟨x',y',z'⟩:=b;unfold edV;rcases e1:(cmpI x x' != 0) with _ | _
 ·rcases e2:(cmpI y y' != 0) with _ | _
  ·have F:Hid (cmpE (x,y,z) (x',y',z')=cmpI z z'):=qA (by simp at e1 e2;simp[cmpE,e1,e2]);go_enter Tryz.func176,Tryz.ntmps176
   go_wp2_with (go_at_call 101;refine(qV _ _ _).mono ?_;rintro e w' ⟨rfl,rfl⟩)
   go_ret;exact⟨qU F.out.symm,(by repeat(first | exact .refl _ _ | (refine BxS ?_ _) | (refine qB ?_ _) | (refine zad ?_) | (refine BxA ?_ _)))⟩
  ·have F:Hid (cmpE (x,y,z) (x',y',z')=cmpI y y'):=qA (by simp at e1 e2;simp[cmpE,e1,e2]);go_enter Tryz.func176,Tryz.ntmps176
   go_wp2_with (go_at_call 101;refine(qV _ _ _).mono ?_;rintro e w' ⟨rfl,rfl⟩)
   go_ret;exact⟨qU F.out.symm,(by repeat(first | exact .refl _ _ | (refine BxS ?_ _) | (refine qB ?_ _) | (refine zad ?_) | (refine BxA ?_ _)))⟩
 ·have F:Hid (cmpE (x,y,z) (x',y',z')=cmpI x x'):=qA (by simp at e1;simp[cmpE,e1]);go_enter Tryz.func176,Tryz.ntmps176
  go_wp2_with (go_at_call 101;refine(qV _ _ _).mono ?_;rintro e w' ⟨rfl,rfl⟩)
  go_ret;exact⟨qU F.out.symm,(by repeat(first | exact .refl _ _ | (refine BxS ?_ _) | (refine qB ?_ _) | (refine zad ?_) | (refine BxA ?_ _)))⟩
theorem qHI (r n:Int) (A:Option Addr) (m cap:Nat) (e:EdD) (w:World):
  Calls Tryz.prog 197 #[.agg #[.int .i64 r, .int .i64 n, .slice A m cap],edV e] w fun e' w'=>e'= .returned (.bool (qAq r n e))∧Below w.heap.size w w':=by
 obtain⟨x,y,z⟩:=e;unfold edV;rcases e1:inB x 0 (wrap64 (n-1)) with _ | _
 ·go_enter Tryz.func197,Tryz.ntmps197
  go_wp2_with (go_at_call 64;refine(qI _ _ _ _).mono ?_;rintro e w' ⟨rfl,rfl⟩)
  go_ret;exact⟨qC (by simp[qAq,e1]),(by repeat(first | exact .refl _ _ | (refine BxS ?_ _) | (refine qB ?_ _) | (refine zad ?_) | (refine BxA ?_ _)))⟩
 ·rcases e2:inB z 0 (wrap64 (n-1)) with _ | _
  ·go_enter Tryz.func197,Tryz.ntmps197
   go_wp2_with (go_at_call 64;refine(qI _ _ _ _).mono ?_;rintro e w' ⟨rfl,rfl⟩)
   go_ret;exact⟨qC (by simp[qAq,e1,e2]),(by repeat(first | exact .refl _ _ | (refine BxS ?_ _) | (refine qB ?_ _) | (refine zad ?_) | (refine BxA ?_ _)))⟩
  ·go_enter Tryz.func197,Tryz.ntmps197
   go_wp2_with (go_at_call 64;refine(qI _ _ _ _).mono ?_;rintro e w' ⟨rfl,rfl⟩)
   go_ret;exact⟨qC (by simp[qAq,e1,e2]),(by repeat(first | exact .refl _ _ | (refine BxS ?_ _) | (refine qB ?_ _) | (refine zad ?_) | (refine BxA ?_ _)))⟩
theorem qDR (r n:Int) (A:Option Addr) (m cap:Nat) (x:Int) (w:World):
  Calls Tryz.prog 170 #[.agg #[.int .i64 r, .int .i64 n, .slice A m cap], .int .i64 x] w fun e' w'=>e'= .returned (.bool (inB x 0 (wrap64 (n-1))))∧Below w.heap.size w w':=by
 go_enter Tryz.func170,Tryz.ntmps170
 go_wp2_with (go_at_call 56;refine(qX _ _ _ _).mono ?_;rintro e w' ⟨rfl,rfl⟩)
 go_ret;exact⟨rfl,(by repeat(first | exact .refl _ _ | (refine BxS ?_ _) | (refine qB ?_ _) | (refine zad ?_) | (refine BxA ?_ _)))⟩
theorem qGZ (r n:Int) (A:Option Addr) (m cap:Nat) (e:EdD) (w:World):
  Calls Tryz.prog 175 #[.agg #[.int .i64 r, .int .i64 n, .slice A m cap],edV e] w fun e' w'=>e'= .returned (.bool (qAq r n e))∧Below w.heap.size w w':=by
 obtain⟨x,y,z⟩:=e;unfold edV;rcases e1:inB x 0 (wrap64 (n-1)) with _ | _
 ·go_enter Tryz.func175,Tryz.ntmps175
  go_wp2_with fail;refine(qDR _ _ _ _ _ _ _).mono ?_
  rintro e w1 ⟨rfl,b1⟩;have B1:=qA b1;obtain⟨hc,hf⟩:=qBM b1;have hz:=b1.size;simp at hz
  clear b1;rw[e1];go_wp2;go_ret;exact⟨qC (by simp[qAq,e1]),(by repeat(first | exact .refl _ _ | (refine BxS ?_ _) | (refine qB ?_ _) | (refine zad ?_) | (refine BxA ?_ _) | (refine BxT ?_ (Hid.out B1))))⟩
 ·go_enter Tryz.func175,Tryz.ntmps175
  go_wp2_with fail;refine(qDR _ _ _ _ _ _ _).mono ?_
  rintro e w1 ⟨rfl,b1⟩;have B1:=qA b1;obtain⟨hc,hf⟩:=qBM b1;have hz:=b1.size;simp at hz
  clear b1;rw[e1];go_wp2_with fail;refine(qDR _ _ _ _ _ _ _).mono ?_
  rintro e w2 ⟨rfl,b2⟩;have B2:=qA b2;obtain⟨dG,dq⟩:=qBM b2;have aP:=b2.size;have k0:w2.cell? ⟨w.heap.size,0,none⟩=some (.int .i64 r):=by rw[dG _ _ tO,hc _ _ (by simp;omega)];simp[go_sem]
  have k1:w2.cell? ⟨w.heap.size+1,1,none⟩=some (.int .i64 y):=by rw[dG _ _ tO,hc _ _ (by simp)];simp[go_sem]
  clear b2 hc hf dG dq;rcases e2:inB z 0 (wrap64 (n-1)) with _ | _
  ·go_wp2;go_ret;exact⟨qC (by simp[qAq,e1,e2]),(by repeat(first | exact .refl _ _ | (refine BxS ?_ _) | (refine qB ?_ _) | (refine zad ?_) | (refine BxA ?_ _) | (refine BxT ?_ (Hid.out B2)) | (refine BxT ?_ (Hid.out B1))))⟩
  ·go_wp2_with fail;refine(qX _ _ _ _).mono ?_
   rintro e w' ⟨rfl,rfl⟩;rcases e3:inB y 1 r with _ | _
   ·go_wp2;go_ret;exact⟨qC (by simp[qAq,e1,e2,e3]),(by repeat(first | exact .refl _ _ | (refine BxS ?_ _) | (refine qB ?_ _) | (refine zad ?_) | (refine BxA ?_ _) | (refine BxT ?_ (Hid.out B2)) | (refine BxT ?_ (Hid.out B1))))⟩
   ·go_wp2;go_ret;exact⟨qC (by simp[qAq,e1,e2,e3]),(by repeat(first | exact .refl _ _ | (refine BxS ?_ _) | (refine qB ?_ _) | (refine zad ?_) | (refine BxA ?_ _) | (refine BxT ?_ (Hid.out B2)) | (refine BxT ?_ (Hid.out B1))))⟩
structure TOrd {α:Type} (c:α→α→Int):Prop where
 zero: ∀ {a b},c a b=0↔a=b
 anti: ∀ {a b},c a b<0↔0<c b a
 trans: ∀ {a b d},c a b<0→c b d<0→c a d<0
theorem qCk {a b:Int}:cmpI a b<0↔a<b:=by
 unfold cmpI;split
 ·simp[*]
 ·split<;>omega
theorem qFt {a b:Int}:0<cmpI a b↔b<a:=by
 unfold cmpI;split
 ·omega
 ·split<;>omega
theorem qPD:TOrd cmpI:=⟨qm,by intro a b;rw[qCk,qFt],by intro a b d h1 h2;rw[qCk] at*;omega⟩
theorem qFj {a b:EdD}:cmpE a b<0↔a.1<b.1∨(a.1=b.1∧(a.2.1<b.2.1∨(a.2.1=b.2.1∧a.2.2<b.2.2))):=by
 unfold cmpE;split
 ·rename_i h
  have h':a.1≠b.1:=fun e=>h (qm.2 e);rw[qCk];omega
 ·rename_i h
  have h':a.1=b.1:=qm.1 (by simpa using h);split
  ·rename_i h2
   have sG:a.2.1≠b.2.1:=fun e=>h2 (qm.2 e);rw[qCk];omega
  ·rename_i h2
   have sG:a.2.1=b.2.1:=qm.1 (by simpa using h2);rw[qCk];omega
theorem qKP {a b:EdD}:0<cmpE a b↔b.1<a.1∨(a.1=b.1∧(b.2.1<a.2.1∨(a.2.1=b.2.1∧b.2.2<a.2.2))):=by
 unfold cmpE;split
 ·rename_i h
  have h':a.1≠b.1:=fun e=>h (qm.2 e);rw[qFt];omega
 ·rename_i h
  have h':a.1=b.1:=qm.1 (by simpa using h);split
  ·rename_i h2
   have sG:a.2.1≠b.2.1:=fun e=>h2 (qm.2 e);rw[qFt];omega
  ·rename_i h2
   have sG:a.2.1=b.2.1:=qm.1 (by simpa using h2);rw[qFt];omega
theorem qCY {a b:EdD}:cmpE a b=0↔a=b:=by
 obtain⟨x,y,z⟩:=a;obtain⟨x',y',z'⟩:=b;have h1:= @qFj (x,y,z) (x',y',z');have h2:= @qKP (x,y,z) (x',y',z');simp only at h1 h2
 constructor
 ·intro h;have n1: ¬cmpE (x,y,z) (x',y',z')<0:=tO;have n2: ¬0<cmpE (x,y,z) (x',y',z'):=tO;rw[h1] at n1;rw[h2] at n2;have e1:x=x':=tO;have e2:y=y':=tO;have e3:z=z':=tO;rw[e1,e2,e3]
 ·intro h;injection h with e1 h
  injection h with e2 e3
  have n1: ¬cmpE (x,y,z) (x',y',z')<0:=by rw[h1];omega
  have n2: ¬0<cmpE (x,y,z) (x',y',z'):=by rw[h2];omega
  omega
theorem qAf:TOrd cmpE:=⟨qCY,by intro a b;rw[qFj,qKP];omega,by intro a b d h1 h2;rw[qFj] at*;omega⟩
section
variable {α:Type} {c:α→α→Int}
def Srt (c:α→α→Int) (l:List α):Prop:=l.Pairwise fun a b=>c a b<0
theorem TOrd.irrefl (h:TOrd c) (a:α): ¬c a a<0:=by
 have:=(h.zero (a:=a) (b:=a)).2 rfl
 omega
theorem Srt.ext (h:TOrd c): ∀ {l l':List α},Srt c l→Srt c l'→(∀x,x∈l↔x∈l')→l=l'
 | [],[],_,_,_=>rfl
 | [],b::l',_,_,hm=>absurd ((hm b).2 (by simp)) (by simp)
 | a::l,[],_,_,hm=>absurd ((hm a).1 (by simp)) (by simp)
 | a::l,b::l',h1,h2,hm=>by
   have p1:=zax.1 h1;have p2:=zax.1 h2;have e:a=b:=by
    have ha:=(hm a).1 (by simp);have hb:=(hm b).2 (by simp);rcases zar.1 ha with e | ha
    ·exact e
    ·rcases zar.1 hb with e | hb
     ·exact e.symm
     ·exact absurd (h.trans (p1.1 b hb) (p2.1 a ha)) (h.irrefl a)
   subst e;congr 1
   refine Srt.ext h p1.2 p2.2 fun x=>⟨fun hx=> ?_,fun hx=> ?_⟩
   ·rcases zar.1 ((hm x).1 (by simp[hx])) with rfl | h'
    ·exact absurd (p1.1 x hx) (h.irrefl x)
    ·exact h'
   ·rcases zar.1 ((hm x).2 (by simp[hx])) with rfl | h'
    ·exact absurd (p2.1 x hx) (h.irrefl x)
    ·exact h'
def insS (c:α→α→Int) (x:α) (s:List α×Bool) (y:α):List α×Bool:=
 if c x y=0 then(s.1++ [y],true) else if c x y<0∧s.2=false then(s.1++ [x,y],true) else(s.1++ [y],s.2)
def insF (c:α→α→Int) (l:List α) (x:α):List α:=if(l.foldl (insS c x) ([],false)).2 then(l.foldl (insS c x) ([],false)).1 else(l.foldl (insS c x) ([],false)).1++ [x]
def insR (c:α→α→Int) (x:α):List α→List α
 | []=> [x]
 | y::l=>if c x y=0 then y::l else if c x y<0 then x::y::l else y::insR c x l
theorem qIu (x:α) (l acc:List α):l.foldl (insS c x) (acc,true)=(acc++l,true):=by
 induction l generalizing acc with
 | nil=>simp
 | cons y l ih=>
   rw[zaL];have:insS c x (acc,true) y=(acc++ [y],true):=by unfold insS;split<;>simp
   rw[this,ih];simp
theorem qGo (l:List α) (x:α):insF c l x=insR c x l:=by
 have key: ∀l acc:List α,(if(l.foldl (insS c x) (acc,false)).2 then(l.foldl (insS c x) (acc,false)).1 else(l.foldl (insS c x) (acc,false)).1++ [x])=acc++insR c x l:=by
  intro l;induction l with
  | nil=>intro acc;simp[insR]
  | cons y l ih=>
    intro acc;rw[zaL];by_cases h0:c x y=0
    ·have:insS c x (acc,false) y=(acc++ [y],true):=by unfold insS;rw[if_pos h0]
     rw[this,qIu];simp[insR,h0]
    ·by_cases h1:c x y<0
     ·have:insS c x (acc,false) y=(acc++ [x,y],true):=by unfold insS;rw[if_neg h0,if_pos ⟨h1,rfl⟩]
      rw[this,qIu];simp[insR,h0,h1]
     ·have:insS c x (acc,false) y=(acc++ [y],false):=by unfold insS;rw[if_neg h0,if_neg (fun h=>h1 h.1)]
      rw[this,ih];simp[insR,h0,h1]
 simpa[insF] using key l []
theorem qHj (x:α) (l:List α) (h:TOrd c) (y:α):y∈insR c x l↔y=x∨y∈l:=by
 induction l with
 | nil=>simp[insR]
 | cons a l ih=>
   unfold insR;split
   ·rename_i h0
    have:=h.zero.1 h0
    subst this;simp
   ·split
    ·simp
    ·simp only[zar,ih];constructor
     ·rintro(e | e | e)
      ·exact .inr (.inl e)
      ·exact .inl e
      ·exact .inr (.inr e)
     ·rintro(e | e | e)
      ·exact .inr (.inl e)
      ·exact .inl e
      ·exact .inr (.inr e)
theorem qOb (h:TOrd c) (x:α) (l:List α) (hl:Srt c l):Srt c (insR c x l):=by
 induction l with
 | nil=>simp[insR,Srt]
 | cons a l ih=>
   have p:=zax.1 hl;unfold insR;split
   ·exact hl
   ·rename_i h0
    split
    ·rename_i h1
     refine zax.2 ⟨fun y hy=> ?_,hl⟩;rcases zar.1 hy with rfl | hy
     ·exact h1
     ·exact h.trans h1 (p.1 y hy)
    ·rename_i h1
     refine zax.2 ⟨fun y hy=> ?_,ih p.2⟩;rcases(qHj x l h y).1 hy with rfl | hy
     ·have:=(h.anti (a:=a) (b:=y)).2 tO
      exact this
     ·exact p.1 y hy
theorem qEJ (l:List α) (x:α):(insF c l x).length≤l.length+1:=by
 rw[qGo];induction l with
 | nil=>simp[insR]
 | cons a l ih=>
   unfold insR;split
   ·simp
   ·split
    ·simp
    ·simp only[zaB];omega
def srt (c:α→α→Int) (L:List α):List α:=L.foldl (insF c) []
theorem qCG (h:TOrd c) (L:List α):Srt c (srt c L)∧ ∀x,x∈srt c L↔x∈L:=by
 have key: ∀L acc:List α,Srt c acc→Srt c (L.foldl (insF c) acc)∧ ∀x,x∈L.foldl (insF c) acc↔x∈acc∨x∈L:=by
  intro L;induction L with
  | nil=>intro acc hs;exact⟨hs,fun x=>by simp⟩
  | cons y L ih=>
    intro acc hs;rw[zaL];obtain⟨h1,h2⟩:=ih (insF c acc y) (by rw[qGo];exact qOb h y acc hs);refine⟨h1,fun x=> ?_⟩;rw[h2,qGo,qHj y acc h];simp only[zar];constructor
    ·rintro((e | e) | e)
     ·exact .inr (.inl e)
     ·exact .inl e
     ·exact .inr (.inr e)
    ·rintro(e | e | e)
     ·exact .inl (.inr e)
     ·exact .inl (.inl e)
     ·exact .inr e
 obtain⟨h1,h2⟩:=key L [] List.Pairwise.nil;exact⟨h1,fun x=>by simpa[srt] using h2 x⟩
theorem qKV (h:TOrd c) {L l:List α} (hs:Srt c l) (hm: ∀x,x∈l↔x∈L):l=srt c L:=
 Srt.ext h hs (qCG h L).1 fun x=>by rw[hm,(qCG h L).2]
theorem qOQ (L:List α) (k:Nat) (hk:k<L.length):srt c (L.take (k+1))=insF c (srt c (L.take k)) L[k]:=by
 unfold srt;rw[zaj hk,zba];rfl
theorem qDT (L:List α):(srt c L).length≤L.length:=by
 have key: ∀L acc:List α,(L.foldl (insF c) acc).length≤acc.length+L.length:=by
  intro L;induction L with
  | nil=>intro acc;simp
  | cons y L ih=>
    intro acc;have h1:=ih (insF c acc y);have h2:=qEJ (c:=c) acc y;simp only[zaL,zaB];omega
 simpa[srt] using key L []
end
structure BelW (w:World) where
 W:World
 h:Below w.heap.size w W
instance (w:World):Inhabited (BelW w):=⟨⟨w,zac _ _⟩⟩
theorem qK {P:Program} {id:Nat} {Q:Exit→Act→World→Prop} {a:Act} {w:World} {l:List Oper} (hm:P.follows .mixedOrders=true) (hB:Region.lexB .any l.toArray=true)
  (h:wpQuiet P l.toArray (fun w'=> ∃p:BelW w,w'=p.W) (fun a'=> ∀w',(∃p:BelW w,w'=p.W)→Q .normal a' w') l a):(Code.region id l.toArray true).wp P Q a w:=
 wp_region_quiet (C:=fun w'=> ∃p:BelW w,w'=p.W) hm hB ⟨⟨w.drew,(zac _ _).drew⟩,rfl⟩ (by simpa using h)
theorem Calls.bel_of {P:Program} {f:FuncId} {args:Array Value} {w:World} {p:BelW w} {v:Value}
  (h:Calls P f args p.W fun e w'=>e= .returned v∧Below p.W.heap.size p.W w'):Calls P f args p.W fun e w''=>e= .returned v∧ ∃q:BelW w,w''=q.W:=
 h.mono fun _ w' ⟨he,hb⟩=>⟨he,⟨w',p.h.trans (hb.mono p.h.size)⟩,rfl⟩
theorem Calls.bel_same {P:Program} {f:FuncId} {args:Array Value} {w:World} {p:BelW w} {v:Value}
  (h:Calls P f args p.W fun e w'=>e= .returned v∧p.W=w'):Calls P f args p.W fun e w''=>e= .returned v∧ ∃q:BelW w,w''=q.W:=
 h.mono fun _ w' ⟨he,hb⟩=>⟨he,p,hb.symm⟩
theorem BelW.cell {w:World} {b o:Nat} {v:Value} (h:w.cell? ⟨b,o,none⟩=some v) (ac:b<w.heap.size) (p:BelW w):p.W.cell? ⟨b,o,none⟩=some v:=
 (p.h.cell (p:=⟨b,o,none⟩) ac).trans h
def dumL:List Oper→List Oper
 | []=> []
 | [o]=> [{o with op:= .move (.const (.bool false))}]
 | o::o'::r=>o::dumL (o'::r)
def qJG:List Oper→List Oper
 | []=> []
 | [o]=> [o]
 | _::o'::r=>qJG (o'::r)
theorem qHu: ∀l:List Oper,(dumL l).length=l.length
 | []=>rfl
 | [_]=>rfl
 | _::o'::r=>by show(dumL (o'::r)).length+1=_;rw[qHu (o'::r)];rfl
theorem qHw: ∀(l:List Oper) (j:Nat),j+1<l.length→(dumL l)[j]? =l[j]?
 | [],_,h=>by simp at h
 | [_],j,h=>by simp at h
 | _::_::_,0,_=>rfl
 | _::o'::r,j+1,h=>by
   show(dumL (o'::r))[j]? =(o'::r)[j]?
   exact qHw (o'::r) j (by simp at h⊢;omega)
theorem qJa: ∀(l:List Oper) (n:Nat),l.length=n+1→ ∃st,l[n]? =some st∧qJG l= [st]∧(dumL l)[n]? =some {st with op:= .move (.const (.bool false))}
 | [],n,h=>by simp at h
 | [o], n, h => by obtain rfl:n=0:=by simpa using h.symm
                   exact⟨o,rfl,rfl,rfl⟩
 | _::o'::r,0,h=>by simp at h
 | _::o'::r,n+1,h=>by
   obtain⟨st,h1,h2,h3⟩:=qJa (o'::r) n (by simpa using h);exact⟨st,h1,h2,h3⟩
def qLi (ops:Array Oper) (n:Nat):Bool:=
 (zaC ops.size).all (fun i=>match ops[i]? with | some o=>o.after.all (fun e=> !Region.binds .any e||decide (e.on<i)) | none=>true)&&
 (zaC n).all (fun i=>(zaC ops.size).any fun j=>decide (i<j)&&match ops[j]? with | some o=>o.after.any (fun e=>Region.binds .any e&&e.on==i) | none=>false)&&
 match ops[n]? with | some o=>o.dst.isNone&&o.guard.isNone | none=>false
section
variable {P:Program} {ops ops':Array Oper} {n:Nat} {C:World→Prop}
structure LastOk (ops ops':Array Oper) (n:Nat) (st st':Oper):Prop where
 size:ops.size=n+1
 size':ops'.size=n+1
 like: ∀j,j<n→(ops'[j]?).map (·.after)=(ops[j]?).map (·.after)∧(ops'[j]?).bind (·.dst)=(ops[j]?).bind (·.dst)
 hst:ops[n]? =some st
 hst':ops'[n]? =some st'
 after:st'.after=st.after
 dst:st.dst=none
 dst':st'.dst=none
 guard:st.guard=none
 guard':st'.guard=none
 back: ∀i o,ops[i]? =some o→ ∀e∈o.after,Region.binds .any e=true→e.on<i
 chain: ∀i,i<n→ ∃j o,i<j∧ops[j]? =some o∧ ∃e∈o.after,Region.binds .any e=true∧e.on=i
variable {st st':Oper}
theorem LastOk.get (h:LastOk ops ops' n st st') (j:Nat):(ops'[j]?).map (·.after)=(ops[j]?).map (·.after)∧(ops'[j]?).bind (·.dst)=(ops[j]?).bind (·.dst):=by
 rcases Nat.lt_trichotomy j n with hj | rfl | hj
 ·exact h.like j hj
 ·rw[h.hst,h.hst'];simp[h.after,h.dst,h.dst']
 ·rw[zay (by rw[h.size'];omega),zay (by rw[h.size];omega)];exact⟨rfl,rfl⟩
theorem LastOk.ready (h:LastOk ops ops' n st st') (listed:Array Bool):Region.ready .any ops' listed=Region.ready .any ops listed:=by
 unfold Region.ready;rw[h.size,h.size'];refine List.filter_congr fun i _=> ?_;have:=(h.get i).1
 congr 1
 cases e1:ops'[i]? <;>cases e2:ops[i]? <;>rw[e1,e2] at this<;>simp at this⊢
 rw[this]
theorem LastOk.yielded (h:LastOk ops ops' n st st') (t:Array Value):yielded ops' t=yielded ops t:=by
 funext j
 unfold Go.yielded;rw[(h.get j).2]
def Cl (ops:Array Oper) (listed:Array Bool):Prop:=
 listed.size=ops.size∧ ∀j o,ops[j]? =some o→listed.getD j false=true→ ∀e∈o.after,Region.binds .any e=true→listed.getD e.on false=true
theorem qAc {l:Array Bool} {i:Nat} (hi:i<l.size):l.getD i true=l.getD i false:=by simp[hi]
theorem Cl.set {listed:Array Bool} (h:Cl ops listed) {i:Nat} (hi:i∈Region.ready .any ops listed):Cl ops (listed.setIfInBounds i true):=by
 refine⟨by rw[Array.size_setIfInBounds];exact h.1,fun j o ho hl e he hb=> ?_⟩;by_cases dh:i=j
 ·subst dh;obtain⟨_,o',bi,az⟩:=mem_ready.1 hi;rw[ho] at bi;injection bi with bi
  subst bi;exact getD_set_true (az e he hb)
 ·rw[getD_set_ne false dh] at hl;exact getD_set_true (h.2 j o ho hl e he hb)
theorem LastOk.all (h:LastOk ops ops' n st st') {listed:Array Bool} (hc:Cl ops listed) (hr:n∈Region.ready .any ops listed):
  ∀(d i:Nat),n-i=d→i<n→listed.getD i false=true:=by
 intro d;induction d using zaW with
 | _ d ih=>
   intro i hd hi;obtain⟨j,o,dh,ho,e,he,hb,rfl⟩:=h.chain i hi;have hj:j<n+1:=by rw[←h.size];exact(zae.1 ho).1
   by_cases jV:j=n
   ·subst jV;obtain⟨_,o',bi,az⟩:=mem_ready.1 hr;rw[ho] at bi;injection bi with bi
    subst bi;exact az e he hb
   ·exact hc.2 j o ho (ih (n-j) tO j rfl tO) e he hb
theorem LastOk.done (h:LastOk ops ops' n st st') {listed:Array Bool} (hc:Cl ops listed) (hr:n∈Region.ready .any ops listed):
  Region.ready .any ops (listed.setIfInBounds n true)= []:=by
 rw[List.eq_nil_iff_forall_not_mem];intro j hj;obtain⟨h0,o,ho,_⟩:=mem_ready.1 hj;have jV:j<n+1:=by rw[←h.size];exact(zae.1 ho).1
 have hs:listed.size=n+1:=hc.1.trans h.size;by_cases e:n=j
 ·subst e;simp[hs] at h0
 ·rw[getD_set_ne true e,qAc tO,h.all hc hr _ j rfl tO] at h0;cases h0
theorem LastOk.stuck (h:LastOk ops ops' n st st') {listed:Array Bool} (hs:listed.size=ops.size): ∀i,i<ops.size→listed.getD i true=false→Region.ready .any ops listed≠ []:=by
 intro i;induction i using zaW with
 | _ i ih=>
   intro hi hl;have ho:ops[i]? =some ops[i]:=by simp[hi]
   by_cases az: ∀e∈ops[i].after,Region.binds .any e=true→listed.getD e.on false=true
   ·exact List.ne_nil_of_mem (mem_ready.2 ⟨hl,_,ho,az⟩)
   ·simp only[Classical.not_forall] at az;obtain⟨e,he,hb,hn⟩:=az;have ac:=h.back i _ ho e he hb;exact ih e.on ac tO (by rw[qAc tO];simpa using hn)
theorem qHq (h:LastOk ops ops' n st st') (hsame: ∀j,j<n→ops'[j]? =ops[j]?) {Q:Act→Prop} {Q':Exit→Act→World→Prop}
  (hQ: ∀a w,C w→Q a→st.wp P a w (fun a w=>Q' .normal a w) Q'∨(st.asks P a w∧LetsOut Q')):
  ∀(fuel:Nat) (listed:Array Bool) (a:Act) (w:World),C w→Cl ops listed→listed.getD n true=false→
  wpAnyQ P .any ops' C Q fuel listed a→wpAny P .any ops Q' fuel listed a w:=by
 intro fuel;induction fuel with
 | zero=>
   intro listed a w hw hc hn hh;have:=hh.1
   rw[h.ready] at this;exact absurd this (h.stuck hc.1 n (by rw[h.size];omega) hn)
 | succ fuel ih=>
   intro listed a w hw hc hn hh;refine⟨fun h0=>absurd h0 (h.stuck hc.1 n (by rw[h.size];omega) hn),fun i hi=> ?_⟩;have hq:=hh.2 i (by rw[h.ready];exact hi);by_cases bQ:i=n
   ·subst bQ;have hd:=h.done hc hi;unfold wpOp;unfold qOp at hq;simp only[h.hst,h.hst'] at hq⊢;have w1:Region.wanted st (Go.yielded ops a.tmps)=true:=by unfold Region.wanted;rw[h.guard]
    have w2:Region.wanted st' (Go.yielded ops' a.tmps)=true:=by unfold Region.wanted;rw[h.guard']
    rw[if_pos w1];rw[if_pos w2] at hq;obtain⟨v,_,hK⟩:=hq;rw[h.dst'] at hK;have Fy:Q a:=by
     cases fuel with
     | zero=>exact hK.2
     | succ _=>exact hK.1 (by rw[h.ready];exact hd)
    exact(hQ a w hw Fy).imp (Oper.wp_mono fun a' w' ru=>wpAny_done hd ru fuel) id
   ·have hs:=h.size;obtain⟨_,o,ho,_⟩:=mem_ready.1 hi;have ac:i<n:=by have:=(zae.1 ho).1;omega
    have e:wpOp P ops Q' i (wpAny P .any ops Q' fuel (listed.setIfInBounds i true)) a w=wpOp P ops' Q' i (wpAny P .any ops Q' fuel (listed.setIfInBounds i true)) a w:=by
     unfold wpOp;rw[hsame i ac,h.yielded]
    rw[e];exact wpOp_of_qOp hw (fun a' w' hw' hk=>ih _ a' w' hw' (hc.set hi) (by rw[getD_set_ne true bQ];exact hn) hk) hq
end
theorem qJE {l:List Oper} {n:Nat} (hl:l.length=n+1) (hB:qLi l.toArray n=true): ∃st,qJG l= [st]∧LastOk l.toArray (dumL l).toArray n st {st with op:= .move (.const (.bool false))}:=by
 obtain⟨st,h1,h2,h3⟩:=qJa l n hl;refine⟨st,h2,?_⟩;unfold qLi at hB;simp only[zah,zaD,zaz,zaU,decide_eq_true_eq] at hB;obtain⟨⟨hb,hc⟩,hg⟩:=hB;have hst:l.toArray[n]? =some st:=by simpa using h1
 rw[hst] at hg;simp only[zah,zaE] at hg;have iT: ∀j,j<n→((dumL l).toArray[j]?).map (·.after)=(l.toArray[j]?).map (·.after)∧((dumL l).toArray[j]?).bind (·.dst)=(l.toArray[j]?).bind (·.dst):=fun j hj=>by
  have e:(dumL l).toArray[j]? =l.toArray[j]? :=by simpa using qHw l j tO
  rw[e];exact⟨rfl,rfl⟩
 refine⟨by simpa using hl,by simpa[qHu] using hl,fun j hj=>iT j hj,hst,by simpa using h3,rfl,hg.1,hg.1,hg.2,hg.2,fun i o ho e he hbd=> ?_,fun i hi=> ?_⟩
 ·have hi:=(zae.1 ho).1;have:=hb i hi
  rw[ho] at this;have:=zaH.1 this e he
  rw[hbd] at this;simpa using this
 ·obtain⟨j,_,dh,hm⟩:=hc i hi;cases ho:l.toArray[j]? with
  | none=>rw[ho] at hm;cases hm
  | some o=>
    rw[ho] at hm;obtain⟨e,he,aE⟩:=za8.1 hm;simp only[zah,beq_iff_eq] at aE;exact⟨j,o,dh,ho,e,he,aE⟩
theorem qAD (n i:Nat):(zaX n false).getD i false=false:=by
 by_cases h:i<n<;>simp[h]
theorem qDk {P:Program} {id:Nat} {Q:Exit→Act→World→Prop} {a:Act} {w:World} {l:List Oper} (n:Nat) (hm:P.follows .mixedOrders=true) (hl:l.length=n+1) (hB:Region.lexB .any (dumL l).toArray=true) (hL:qLi l.toArray n=true)
  (h:wpQuiet P (dumL l).toArray (fun w'=> ∃p:BelW w,w'=p.W) (fun a'=> ∀w',(∃p:BelW w,w'=p.W)→wpList P (qJG l).toArray Q (qJG l) a' w') (dumL l) a):(Code.region id l.toArray true).wp P Q a w:=by
 obtain⟨st,e,ar⟩:=qJE hl hL;have bO:=ar.guard;simp only[Region.lexB,zah] at hB;refine wp_region_any hm (qHq (C:=fun w'=> ∃p:BelW w,w'=p.W) ar (fun j hj=>by simpa using qHw l j tO) (Q:=fun a'=> ∀w',(∃p:BelW w,w'=p.W)→wpList P (qJG l).toArray Q (qJG l) a' w') (fun a' w' hw' hq=> ?_) _ _ _ _ ⟨⟨w.drew,(zac _ _).drew⟩,rfl⟩ ⟨by simp,?_⟩ ?_ ?_)
 ·have:=hq w' hw'
  rw[e] at this;unfold wpList at this;rw[if_pos (by unfold Region.wanted;rw[bO])] at this;exact this
 ·intro j o ho hj;exfalso
  rw[qAD] at hj;cases hj
 ·rw[qAc (by simp[hl]),qAD]
 ·have:=wpAnyQ_lex (P:=P) (C:=fun w'=> ∃p:BelW w,w'=p.W) (md:= .any) hB.1 (dumL l) 0 (zaX (dumL l).toArray.size false) a (by simp) (by simpa using hB.2) h
  simpa[qHu] using this
def dumO (o:Oper):Oper:= {o with op:= .move (.const (.bool false))}
def dum3:List Oper→List Oper
 | a::b::c::d::r=>a::dum3 (b::c::d::r)
 | [oc,om,st]=> [dumO oc,om,dumO st]
 | l=>l
def qOh:List Oper→List Oper
 | _::b::c::d::r=>qOh (b::c::d::r)
 | l=>l
theorem qHi: ∀l:List Oper,(dum3 l).length=l.length
 | _::b::c::d::r=>by show(dum3 (b::c::d::r)).length+1=_;rw[qHi (b::c::d::r)];rfl
 | [_,_,_]=>rfl
 | []=>rfl
 | [_]=>rfl
 | [_,_]=>rfl
theorem qJS: ∀(l:List Oper) (c:Nat),l.length=c+3→ ∃oc om st,l[c]? =some oc∧l[c+1]? =some om∧l[c+2]? =some st∧qOh l= [oc,om,st]∧(dum3 l)[c]? =some (dumO oc)∧(dum3 l)[c+1]? =some om∧(dum3 l)[c+2]? =some (dumO st)∧ ∀j,j<c→(dum3 l)[j]? =l[j]?
 | a::b::x::d::r,0,h=>by simp at h
 | a::b::x::d::r,c+1,h=>by
   obtain⟨oc,om,st,h1,h2,h3,h4,h5,h6,h7,h8⟩:=qJS (b::x::d::r) c (by simpa using h);refine⟨oc,om,st,h1,h2,h3,h4,h5,h6,h7,fun j hj=> ?_⟩;cases j with
   | zero=>rfl
   | succ j=>exact h8 j tO
 | [oc,om,st],c,h=>by
   obtain rfl:c=0:=by simpa using h.symm
   exact⟨oc,om,st,rfl,rfl,rfl,rfl,rfl,rfl,rfl,fun j hj=>tO⟩
 | [],c,h=>by simp at h
 | [_],c,h=>by simp at h
 | [_,_],c,h=>by simp at h
def qNC (ops:Array Oper) (j i:Nat):Bool:=match ops[j]? with | some o=>o.after.any (fun e=>Region.binds .any e&&e.on==i) | none=>false
theorem qGQ {ops:Array Oper} {j i:Nat} (h:qNC ops j i=true): ∃o,ops[j]? =some o∧ ∃e∈o.after,Region.binds .any e=true∧e.on=i:=by
 unfold qNC at h;cases ho:ops[j]? with
 | none=>rw[ho] at h;cases h
 | some o=>
   rw[ho] at h;obtain⟨e,he,aE⟩:=za8.1 h;simp only[zah,beq_iff_eq] at aE;exact⟨o,rfl,e,he,aE⟩
def qMK (ops:Array Oper) (c:Nat):Bool:=
 qLi ops (c+2)&&(zaC c).all (fun i=>(zaC (c+1)).any fun j=>decide (i<j)&&qNC ops j i)&&
 match ops[c]?,ops[c+1]? with
 | some oc,some om=>oc.guard.isNone&&om.guard.isNone&&oc.apart ops om&&(match oc.dst with | some d=> !(oc.looksAt ops).contains d | none=>false)&&(match om.dst with | some d=> !(om.looksAt ops).contains d | none=>false)&&(match oc.op with | .select _ _=>false | _=>true)&&(match om.op with | .select _ _=>false | _=>true)
 | _,_=>false
structure C3 (ops ops':Array Oper) (c:Nat) (oc om st:Oper) (d tm:Tmp):Prop where
 ok:LastOk ops ops' (c+2) st (dumO st)
 getc:ops[c]? =some oc
 getc':ops'[c]? =some (dumO oc)
 getm:ops[c+1]? =some om
 getm':ops'[c+1]? =some om
 gc:oc.guard=none
 gm:om.guard=none
 dc:oc.dst=some d
 dm:om.dst=some tm
 ap:oc.apart ops om=true
 self:d∉oc.looksAt ops
 selfm:tm∉om.looksAt ops
 sc: ∀cs b,oc.op≠ .select cs b
 sm: ∀cs b,om.op≠ .select cs b
 sink: ∀i,i<c→ ∃j o,i<j∧j≤c∧ops[j]? =some o∧ ∃e∈o.after,Region.binds .any e=true∧e.on=i
section
variable {P:Program} {ops ops':Array Oper} {c:Nat} {oc om st:Oper} {d tm:Tmp}
theorem qAT {o:Oper} (h:o.guard=none) (y:Nat→Option Bool):Region.wanted o y=true:=by unfold Region.wanted;rw[h]
theorem C3.head (h:C3 ops ops' c oc om st d tm) {listed:Array Bool} (hc:Cl ops listed) (hr:c∈Region.ready .any ops listed):
  ∀(x i:Nat),c-i=x→i<c→listed.getD i false=true:=by
 intro x;induction x using zaW with
 | _ x ih=>
   intro i hd hi;obtain⟨j,o,dh,pd,ho,e,he,hb,rfl⟩:=h.sink i hi;by_cases jV:j=c
   ·subst jV;obtain⟨_,o',bi,az⟩:=mem_ready.1 hr;rw[ho] at bi;injection bi with bi
    subst bi;exact az e he hb
   ·exact hc.2 j o ho (ih (c-j) tO j rfl tO) e he hb
def Near (c:Nat) (listed:Array Bool):Prop:=listed.getD (c+2) true=false∧ ∀i,i<c+2→listed.getD i false=true
theorem C3.only (h:C3 ops ops' c oc om st d tm) {listed:Array Bool} (hc:Cl ops listed) (hn:Near c listed):Region.ready .any ops listed≠ []∧ ∀i∈Region.ready .any ops listed,i=c+2:=by
 have hs:listed.size=c+3:=hc.1.trans h.ok.size;refine⟨h.ok.stuck hc.1 (c+2) (by rw[h.ok.size];omega) hn.1,fun i hi=> ?_⟩;obtain⟨h0,o,ho,_⟩:=mem_ready.1 hi;have ac:i<c+3:=by rw[←h.ok.size];exact(zae.1 ho).1
 by_cases bH:i<c+2
 ·rw[qAc tO,hn.2 i bH] at h0;cases h0
 ·omega
theorem C3.getQ (h:C3 ops ops' c oc om st d tm) {C:World→Prop} {Q:Act→Prop} {listed:Array Bool} (hc:Cl ops listed) (hn:Near c listed):
  ∀ {fuel:Nat} {b:Act},wpAnyQ P .any ops' C Q fuel listed b→Q b:=by
 intro fuel b hh;obtain⟨ai,az⟩:=h.only hc hn;obtain⟨i,hi⟩:=zaS _ ai;have bQ:=az i hi;subst bQ;cases fuel with
 | zero=>have h1:=hh.1;rw[h.ok.ready] at h1;exact absurd h1 ai
 | succ f=>
   have hq:=hh.2 (c+2) (by rw[h.ok.ready];exact hi);unfold qOp at hq;simp only[h.ok.hst'] at hq;rw[if_pos (qAT h.ok.guard' _)] at hq;obtain⟨v,_,hK⟩:=hq;rw[h.ok.dst'] at hK;have hd:=h.ok.done hc hi;cases f with
   | zero=>exact hK.2
   | succ _=>exact hK.1 (by rw[h.ok.ready];exact hd)
theorem C3.fin (h:C3 ops ops' c oc om st d tm) {Q':Exit→Act→World→Prop} {listed:Array Bool} (hc:Cl ops listed) (hn:Near c listed) {a:Act} {w:World}
  (hw:wpList P #[st] Q' [st] a w): ∀fuel,wpAny P .any ops Q' (fuel+1) listed a w:=by
 intro fuel;obtain⟨ai,az⟩:=h.only hc hn;refine⟨fun h0=>absurd h0 ai,fun i hi=> ?_⟩;have bQ:=az i hi;subst bQ;unfold wpOp;simp only[h.ok.hst];rw[if_pos (qAT h.ok.guard _)];unfold wpList at hw;rw[if_pos (qAT h.ok.guard _)] at hw;exact hw.imp (Oper.wp_mono fun a' w' ru=>wpAny_done (h.ok.done hc hi) ru fuel) id
def qND (P:Program) (C:World→Prop) (Q':Exit→Act→World→Prop) (oc om st:Oper) (d:Tmp) (b:Act):Prop:=
 (∃vm,∀w2,(execOp b.eval om).run P w2= .ok (.value vm) w2)∧
 ∀wx,C wx→ ∃f args,(execOp b.eval oc).run P wx= .ok (.enter f args) wx∧Calls P f args wx fun e w2=> ∃v,e= .returned v∧wpList P #[st] Q' [st] (b.put (some d) v) w2
theorem qMJ (a:Act) (d:Tmp) (u v:Value):(a.put (some d) u).put (some d) v=a.put (some d) v:=by
 simp[Act.put,Array.setIfInBounds_setIfInBounds]
theorem C3.main (h:C3 ops ops' c oc om st d tm) {C:World→Prop} {Q':Exit→Act→World→Prop} (hsame: ∀j,j<c→ops'[j]? =ops[j]?):
  ∀(fuel:Nat) (listed:Array Bool) (a:Act) (w:World),C w→Cl ops listed→listed.getD c true=false→listed.getD (c+2) true=false→
  wpAnyQ P .any ops' C (qND P C Q' oc om st d) fuel listed a→wpAny P .any ops Q' fuel listed a w:=by
 intro fuel;have apx:=Oper.apart_spec h.ap;have nP:some d≠some tm:=fun e=>apx.2.1 d h.dc (by rw[h.dm,e]);have e_c: ∀(a:Act) v,execOp (a.put (some d) v).eval oc=execOp a.eval oc:=fun a v=>execOp_put (ops:=ops) oc h.sc a (some d) v fun x hx=>by injection hx with hx;subst hx;exact h.self
 have e_cm: ∀(a:Act) v,execOp (a.put (some tm) v).eval oc=execOp a.eval oc:=fun a v=>execOp_put (ops:=ops) oc h.sc a (some tm) v fun x hx=>apx.2.2 x (by rw[h.dm,hx]);have e_m: ∀(a:Act) v,execOp (a.put (some d) v).eval om=execOp a.eval om:=fun a v=>execOp_put (ops:=ops) om h.sm a (some d) v fun x hx=>apx.1 x (by rw[h.dc,hx]);have e_mm: ∀(a:Act) v,execOp (a.put (some tm) v).eval om=execOp a.eval om:=fun a v=>execOp_put (ops:=ops) om h.sm a (some tm) v fun x hx=>by injection hx with hx;subst hx;exact h.selfm
 induction fuel with
 | zero=>
   intro listed a w hw hc hcn hn hh;have:=hh.1
   rw[h.ok.ready] at this;exact absurd this (h.ok.stuck hc.1 (c+2) (by rw[h.ok.size];omega) hn)
 | succ fuel ih=>
   intro listed a w hw hc hcn hn hh;have hs:listed.size=c+3:=hc.1.trans h.ok.size;refine⟨fun h0=>absurd h0 (h.ok.stuck hc.1 (c+2) (by rw[h.ok.size];omega) hn),fun i hi=> ?_⟩;have hq:=hh.2 i (by rw[h.ok.ready];exact hi);obtain⟨a7,o,ho,_⟩:=mem_ready.1 hi;have ac:i<c+3:=by rw[←h.ok.size];exact(zae.1 ho).1
   have bQ:i≠c+2:=by
    intro e;subst e;have:=h.ok.all hc hi _ c rfl tO
    rw[qAc tO,this] at hcn;cases hcn
   by_cases hic:i=c
   ·subst hic;have cH:=hc.set hi;have kr:=h.head hc hi;unfold wpOp;unfold qOp at hq;simp only[h.getc,h.getc'] at hq⊢;rw[if_pos (qAT h.gc _)];rw[if_pos (qAT (show(dumO oc).guard=none from h.gc) _)] at hq;obtain⟨v0,_,hK⟩:=hq;rw[show(dumO oc).dst=some d from h.dc] at hK;refine .inl ?_;unfold Oper.wp;have ru:(listed.setIfInBounds i true).getD (i+2) true=false:=by rw[getD_set_ne true tO];exact hn
    by_cases gW:listed.getD (i+1) false=true
    ·have near:Near i (listed.setIfInBounds i true):=⟨ru,fun j hj=>by
      by_cases e:i=j
      ·subst e;simp[hs]
      ·rw[getD_set_ne false e];by_cases e1:j=i+1
       ·subst e1;exact gW
       ·exact kr _ j rfl tO⟩
     obtain⟨_,hB⟩:=h.getQ cH near hK;obtain⟨f,args,hr,aZ⟩:=hB w hw;rw[e_c] at hr;rw[hr];simp only[Oper.upon];refine aZ.mono fun e w2 he=> ?_;obtain⟨v,rfl,hl⟩:=he;rw[qMJ] at hl;show wpAny P .any ops Q' fuel (listed.setIfInBounds i true) (a.put oc.dst v) w2
     rw[h.dc];cases fuel with
     | zero=>have h1:=hK.1;rw[h.ok.ready] at h1;exact absurd h1 (h.only cH near).1
     | succ f=>exact h.fin cH near hl f
    ·have zF:listed.getD (i+1) true=false:=by rw[qAc tO];simpa using gW
     have po:(listed.setIfInBounds i true).getD (i+1) true=false:=by rw[getD_set_ne true tO];exact zF
     have mY: ∀j∈Region.ready .any ops (listed.setIfInBounds i true),j=i+1:=fun j hj=>by
      obtain⟨rS,oj,sM,_⟩:=mem_ready.1 hj;have Iy:j<i+3:=by rw[←h.ok.size];exact(zae.1 sM).1
      by_cases e2:j=i+2
      ·subst e2;have:=h.ok.all cH hj _ (i+1) rfl tO
       rw[qAc (by simp[hs]),this] at po;cases po
      ·by_cases e0:i=j
       ·subst e0;simp[hs] at rS
       ·by_cases e1:j=i+1
        ·exact e1
        ·rw[getD_set_ne true e0,qAc tO,kr _ j rfl tO] at rS;cases rS
     have ai:=h.ok.stuck cH.1 (i+1) (by rw[h.ok.size];omega) po;have xK:i+1∈Region.ready .any ops (listed.setIfInBounds i true):=by
      obtain⟨j,hj⟩:=zaS _ ai;have:=mY j hj
      subst this;exact hj
     cases fuel with
     | zero=>have h1:=hK.1;rw[h.ok.ready] at h1;exact absurd h1 ai
     | succ f=>
       have pu:=hK.2 (i+1) (by rw[h.ok.ready];exact xK);unfold qOp at pu;simp only[h.getm'] at pu;rw[if_pos (qAT h.gm _)] at pu;obtain⟨um,m8,xZ⟩:=pu;rw[h.dm] at xZ;have dG:=cH.set xK;have near:Near i ((listed.setIfInBounds i true).setIfInBounds (i+1) true):=⟨by rw[getD_set_ne true tO];exact ru,fun j hj=>by
        by_cases e1:i+1=j
        ·subst e1;simp[hs]
        ·rw[getD_set_ne false e1];by_cases e:i=j
         ·subst e;simp[hs]
         ·rw[getD_set_ne false e];exact kr _ j rfl tO⟩
       obtain⟨⟨vm,uB⟩,hB⟩:=h.getQ dG near xZ;have hu:=m8 w hw;unfold Oper.quietAt at hu;rw[e_mm] at uB;rw[uB w] at hu;obtain⟨_,hu⟩:=hu;obtain⟨f2,args,hr,aZ⟩:=hB w hw;rw[e_cm,e_c] at hr;rw[hr];simp only[Oper.upon];refine aZ.mono fun e w2 he=> ?_;obtain⟨v,rfl,hl⟩:=he;rw[Act.put_comm (a.put (some d) v0) um v (fun x hx=>by injection hx with hx;subst hx;exact nP),qMJ,←hu] at hl;show wpAny P .any ops Q' (f+1) (listed.setIfInBounds i true) (a.put oc.dst v) w2
       rw[h.dc];refine⟨fun h0=>absurd h0 ai,fun j hj=> ?_⟩;have ed:=mY j hj;subst ed;unfold wpOp;simp only[h.getm];rw[if_pos (qAT h.gm _)];refine .inl ?_;unfold Oper.wp;rw[e_m,←e_m a v0,uB w2];show wpAny P .any ops Q' f _ ((a.put (some d) v).put om.dst vm) w2
       rw[h.dm];cases f with
       | zero=>have h1:=xZ.1;rw[h.ok.ready] at h1;exact absurd h1 (h.only dG near).1
       | succ f=>exact h.fin dG near hl f
   ·have nG:wpOp P ops Q' i (wpAny P .any ops Q' fuel (listed.setIfInBounds i true)) a w=wpOp P ops' Q' i (wpAny P .any ops Q' fuel (listed.setIfInBounds i true)) a w:=by
     unfold wpOp;rw[h.ok.yielded];by_cases e1:i=c+1
     ·subst e1;rw[h.getm,h.getm']
     ·rw[hsame i tO]
    rw[nG];exact wpOp_of_qOp hw (fun a' w' hw' hk=>ih _ a' w' hw' (hc.set hi) (by rw[getD_set_ne true hic];exact hcn) (by rw[getD_set_ne true bQ];exact hn) hk) hq
end
theorem qQq {l:List Oper} {c:Nat} (hl:l.length=c+3) (hB:qMK l.toArray c=true): ∃oc om st d tm,qOh l= [oc,om,st]∧C3 l.toArray (dum3 l).toArray c oc om st d tm∧ ∀j,j<c→(dum3 l).toArray[j]? =l.toArray[j]? :=by
 obtain⟨oc,om,st,h1,h2,h3,h4,h5,h6,h7,h8⟩:=qJS l c hl;unfold qMK at hB;simp only[zah,zaD,zaz,zaU,decide_eq_true_eq] at hB;obtain⟨⟨hL,hS⟩,hM⟩:=hB;have e1:l.toArray[c]? =some oc:=by simpa using h1
 have e2:l.toArray[c+1]? =some om:=by simpa using h2
 have e3:l.toArray[c+2]? =some st:=by simpa using h3
 have f1:(dum3 l).toArray[c]? =some (dumO oc):=by simpa using h5
 have f2:(dum3 l).toArray[c+1]? =some om:=by simpa using h6
 have f3:(dum3 l).toArray[c+2]? =some (dumO st):=by simpa using h7
 have f4: ∀j,j<c→(dum3 l).toArray[j]? =l.toArray[j]? :=fun j hj=>by simpa using h8 j hj
 rw[e1,e2] at hM;simp only[zah,zaE] at hM;obtain⟨⟨⟨⟨⟨⟨gc,gm⟩,ap⟩,sd⟩,sm⟩,nsc⟩,nsm⟩:=hM;obtain⟨d,dc⟩: ∃d,oc.dst=some d:=by
  cases h:oc.dst with
  | none=>rw[h] at sd;cases sd
  | some d=>exact⟨d,rfl⟩
 obtain⟨tm,dm⟩: ∃d,om.dst=some d:=by
  cases h:om.dst with
  | none=>rw[h] at sm;cases sm
  | some d=>exact⟨d,rfl⟩
 rw[dc] at sd;rw[dm] at sm;refine⟨oc,om,st,d,tm,h4,?_,f4⟩;unfold qLi at hL;simp only[zah,zaD,zaz,zaU,decide_eq_true_eq] at hL;obtain⟨⟨hb,hc⟩,hg⟩:=hL;rw[e3] at hg;simp only[zah,zaE] at hg;have iT: ∀j,j<c+2→((dum3 l).toArray[j]?).map (·.after)=(l.toArray[j]?).map (·.after)∧((dum3 l).toArray[j]?).bind (·.dst)=(l.toArray[j]?).bind (·.dst):=fun j hj=>by
  rcases za5 j c with h | h
  ·rw[f4 j h];exact⟨rfl,rfl⟩
  ·rcases(show j=c∨j=c+1 by omega) with rfl | rfl
   ·rw[e1,f1];exact⟨rfl,rfl⟩
   ·rw[e2,f2];exact⟨rfl,rfl⟩
 have ok:LastOk l.toArray (dum3 l).toArray (c+2) st (dumO st):=by
  refine⟨by simpa using hl,by simpa[qHi] using hl,iT,e3,f3,rfl,hg.1,hg.1,hg.2,hg.2,fun i o ho e he hbd=> ?_,fun i hi=> ?_⟩
  ·have hi:=(zae.1 ho).1;have:=hb i hi
   rw[ho] at this;have:=zaH.1 this e he
   rw[hbd] at this;simpa using this
  ·obtain⟨j,_,dh,hm⟩:=hc i hi;obtain⟨o,ho,h⟩:=qGQ (ops:=l.toArray) (j:=j) (i:=i) hm;exact⟨j,o,dh,ho,h⟩
 refine⟨ok,e1,f1,e2,f2,gc,gm,dc,dm,ap,by simpa using sd,by simpa using sm,fun cs b h=>(by rw[h] at nsc;cases nsc),fun cs b h=>(by rw[h] at nsm;cases nsm),fun i hi=> ?_⟩;obtain⟨j,hj,dh,hw⟩:=hS i hi;obtain⟨o,ho,h⟩:=qGQ hw;exact⟨j,o,dh,tO,ho,h⟩
theorem qBI {P:Program} {id:Nat} {Q:Exit→Act→World→Prop} {a:Act} {w:World} {l:List Oper} {oc om st:Oper} {d:Tmp} (c:Nat) (hm:P.follows .mixedOrders=true) (hl:l.length=c+3) (hB:Region.lexB .any (dum3 l).toArray=true) (hL:qMK l.toArray c=true)
  (h3:qOh l= [oc,om,st]) (hd:oc.dst=some d)
  (h:wpQuiet P (dum3 l).toArray (fun w'=> ∃p:BelW w,w'=p.W) (qND P (fun w'=> ∃p:BelW w,w'=p.W) Q oc om st d) (dum3 l) a):(Code.region id l.toArray true).wp P Q a w:=by
 obtain⟨oc',om',st',d',tm,e,ar,hs⟩:=qQq hl hL;rw[h3] at e;injection e with x1 e
 injection e with x2 e
 injection e with x3 _
 subst x1 x2 x3;have vC:d=d':=by have:=ar.dc;rw[hd] at this;injection this
 subst vC;simp only[Region.lexB,zah] at hB;refine wp_region_any hm (ar.main (C:=fun w'=> ∃p:BelW w,w'=p.W) hs _ _ _ _ ⟨⟨w.drew,(zac _ _).drew⟩,rfl⟩ ⟨by simp,?_⟩ ?_ ?_ ?_)
 ·intro j o ho hj;exfalso
  rw[qAD] at hj;cases hj
 ·rw[qAc (by simp[hl]),qAD]
 ·rw[qAc (by simp[hl]),qAD]
 ·have:=wpAnyQ_lex (P:=P) (C:=fun w'=> ∃p:BelW w,w'=p.W) (md:= .any) hB.1 (dum3 l) 0 (zaX (dum3 l).toArray.size false) a (by simp) (by simpa using hB.2) h
  simpa[qHi] using this
theorem ArgE.cells {w:World} {ad:Addr} {m cap:Nat} {es:List EdD} (h:ArgE w (.slice (some ad) m cap) es): ∀j y,(edCs es)[j]? =some y→w.cell? (ad.add j)=some y:=by
 intro j y hj;have ac:j<es.length*3:=by
  have:=(zaQ.1 hj).1
  rw[qBr] at this;exact this
 have hk:j/3<es.length:=tO;obtain⟨b,off,hA,_,c0,c1,c2,_⟩:=h.at hk;injection hA with hA
 subst hA;have hg:=qHl es (j/3) (j%3) hk tO;have e:j/3*3+j%3=j:=tO;rw[e,hj] at hg;rw[Addr.add_lit];have hr:j%3=0∨j%3=1∨j%3=2:=tO;rcases hr with hr | hr | hr
 ·rw[hr] at hg;simp only[edC,zav] at hg;rw[hg,←c0];congr 2;omega
 ·rw[hr] at hg;simp only[edC,zav,zaF] at hg;rw[hg,←c1];congr 2;omega
 ·rw[hr] at hg;simp only[edC,zav,zaF] at hg;rw[hg,←c2];congr 2;omega
theorem qCS {w:World} {ops:Array Oper} {rest:List Oper} {o:Oper} {a:Act} {Q:Exit→Act→World→Prop} (bO:o.guard=none) (s x:Operand)
  (ho:o.op= .call {callee:= .builtin .append,args:= #[s,x],argTypes:= #[80,80]})
  (base:Nat) (v:Value) (es:List EdD) (ab:OwE w base v es) (hs:a.eval s=v) (b:Nat) (e:EdD) (hx:a.eval x= .slice (some ⟨b,0,none⟩) 1 1)
  (hc: ∀j u,(edC e)[j]? =some u→w.cell? ⟨b,j,none⟩=some u) (he:E64 e) (hl:es.length≤1073741824) (aq:base≤w.heap.size)
  (h: ∀v' w',OwE w' base v' (es++ [e])→w.grownBy w' v.ownBlock→(v'.ownBlock=v.ownBlock∨v'.ownBlock=some w.heap.size)→wpList Tryz.prog ops Q rest (a.put o.dst v') w'):
  wpList Tryz.prog ops Q (o::rest) a w:=by
 obtain⟨i0,a7,aS,ao,aP⟩:=info_parts qEG;refine wpList_append_own_at _ bO s x 80 ho base 154 i0 _ 3 24 Tryz.underlying80 a7 aS ao aP rfl (by decide) v es.length (edCs es) hs ab.1 ⟨b,0,none⟩ 1 1 (edC e) hx rfl ?_ ?_ (by unfold maxLen;omega) tO aq ?_
 ·intro j u hj;rw[Addr.add_lit,za7];exact hc j u hj
 ·intro u hu;simp[edC] at hu
  rcases hu with rfl | rfl | rfl<;>rfl
 ·intro v' w' h1 h2 h3 h5;refine h v' w' ⟨?_,qEB ab.2 (qKw he)⟩ h2 h5;have e1:edCs (es++ [e])=edCs es++edC e:=by rw[qCg];simp[edCs]
  rw[e1,zaw];exact h1
theorem qDS {w:World} {o:Oper} {a:Act} {K:Act→World→Prop} {Q:Exit→Act→World→Prop} (s x:Operand)
  (ho:o.op= .call {callee:= .builtin .append,args:= #[s,x],argTypes:= #[80,80]})
  (base:Nat) (v:Value) (xs:List EdD) (ab:OwE w base v xs) (hs:a.eval s=v) (u:Value) (ys:List EdD) (hr:ArgE w u ys) (hx:a.eval x=u)
  (hl:xs.length+ys.length≤1073741824) (aq:base≤w.heap.size)
  (h: ∀v' w',OwE w' base v' (xs++ys)→w.grownBy w' v.ownBlock→(v'.ownBlock=v.ownBlock∨v'.ownBlock=some w.heap.size)→K (a.put o.dst v') w'):
  o.wp Tryz.prog a w K Q:=by
 obtain⟨i0,a7,aS,ao,aP⟩:=info_parts qEG;have tH:=hr;obtain⟨A,cap,rfl,hc,hm,hn,hE,hb⟩:=hr;rcases A with _ | ad
 ·have h0:ys= []:=zao (by
   rcases za6 ys.length with h0 | h0
   ·exact h0
   ·obtain⟨_,_,h,_⟩:=hb h0;cases h)
  subst h0;obtain rfl:=hn rfl
  have ce:=run_append_owned_none (P:=Tryz.prog) w base 80 o.type 154 i0 3 Tryz.underlying80 a7 v xs.length (edCs xs) ab.1;unfold Oper.wp execOp;simp only[ho,resolve,invoke,builtin,Sem.run_bind,Sem.run_pure,Result.andThen_ok,zaA,zal,zaJ,hs,hx,zbe,ce];exact h v w (by simpa using ab) (zbf.refl _ _) (.inl rfl)
 ·obtain⟨v',w',ce,h1,h2,_,h5⟩:=run_append_own_at (P:=Tryz.prog) w base 80 o.type 154 i0 _ 3 24 Tryz.underlying80 a7 aS ao aP rfl (by decide) v xs.length (edCs xs) ab.1 ad ys.length cap (edCs ys) (by rw[qBr])
   tH.cells (fun u hu=>qOI hu) (by unfold maxLen;omega) tO aq
  unfold Oper.wp execOp;simp only[ho,resolve,invoke,builtin,Sem.run_bind,Sem.run_pure,Result.andThen_ok,zaA,zal,zaJ,hs,hx,ce];exact h v' w' ⟨by rw[qCg,zaw];exact h1,qEB ab.2 hE⟩ h2 h5
theorem qFR {w:World} {ops:Array Oper} {rest:List Oper} {o:Oper} {a:Act} {Q:Exit→Act→World→Prop} (bO:o.guard=none) (s x:Operand)
  (ho:o.op= .call {callee:= .builtin .append,args:= #[s,x],argTypes:= #[80,80]})
  (base:Nat) (v:Value) (xs:List EdD) (ab:OwE w base v xs) (hs:a.eval s=v) (u:Value) (ys:List EdD) (hr:ArgE w u ys) (hx:a.eval x=u)
  (hl:xs.length+ys.length≤1073741824) (aq:base≤w.heap.size)
  (h: ∀v' w',OwE w' base v' (xs++ys)→w.grownBy w' v.ownBlock→(v'.ownBlock=v.ownBlock∨v'.ownBlock=some w.heap.size)→wpList Tryz.prog ops Q rest (a.put o.dst v') w'):
  wpList Tryz.prog ops Q (o::rest) a w:=
 wpList_plain bO fun _ hK=>qDS s x ho base v xs ab hs u ys hr hx hl aq fun v' w' h1 h2 h3=>hK _ _ (h v' w' h1 h2 h3)
theorem qCX {w:World} {ops:Array Oper} {o:Oper} {a:Act} {K:Act→World→Prop} {Q:Exit→Act→World→Prop} {E:Prop} (bO:o.guard=none) (s x:Operand)
  (ho:o.op= .call {callee:= .builtin .append,args:= #[s,x],argTypes:= #[80,80]})
  (base:Nat) (v:Value) (xs:List EdD) (ab:OwE w base v xs) (hs:a.eval s=v) (u:Value) (ys:List EdD) (hr:ArgE w u ys) (hx:a.eval x=u)
  (hl:xs.length+ys.length≤1073741824) (aq:base≤w.heap.size)
  (h: ∀v' w',OwE w' base v' (xs++ys)→w.grownBy w' v.ownBlock→(v'.ownBlock=v.ownBlock∨v'.ownBlock=some w.heap.size)→K (a.put o.dst v') w'):
  if Region.wanted o (yielded ops a.tmps)=true then Oper.wp Tryz.prog o a w K Q else E:=by
 have hw:Region.wanted o (yielded ops a.tmps)=true:=by simp[Region.wanted,bO]
 rw[if_pos hw];exact qDS s x ho base v xs ab hs u ys hr hx hl aq h
theorem qHz (w:World) (N:Nat) (hN:w.heap.size=N) {base:Nat} (hb:base≤N):OwE (w.alloc (.cells #[] 154)) base (.slice (some ⟨N,0,none⟩) 0 0) []:=by
 subst hN;exact qKE w hb
theorem qCa (v:Value) (g:GrD) (w:World) (h:ArgG w v g) (hl:g.2.2.length≤1073741824):
  Calls Tryz.prog 181 #[v] w fun e w'=> ∃r,e= .returned r∧OwG w' w.heap.size r g∧Below w.heap.size w w':=by
 obtain⟨s,rfl,h1,h2,ha⟩:=h;have H:=qA ha;obtain⟨A,cap,rfl⟩:=ha.form;clear ha;go_enter Tryz.func181,Tryz.ntmps181
 go_wp2_with fail;go_region_held3 (fun w'=>w'.cell? ⟨w.heap.size,0,none⟩=some (.int .i64 g.1)∧w'.cell? ⟨w.heap.size,1,none⟩=some (.int .i64 g.2.1)∧w'.cell? ⟨w.heap.size,2,none⟩=some (.slice A g.2.2.length cap)) (first | go_keep | (refine⟨?_,?_,?_⟩<;>(rw[hc _ _ tO];simp[go_sem])))
  (first | (refine qCX rfl (.tmp 7) (.tmp 9) rfl (w.heap.size+1+1) _ [] (qHz _ (w.heap.size+1+1) (by simp[World.drew,World.drewN]) (zag _)) (by rfl) _ g.2.2 ?_ (by rfl) (by simp;omega) (by simp) ?_;(exact(by repeat(first | exact(Hid.out H) | (refine ArgE.drew ?_) | (refine ArgE.drewN ?_ _) | (refine ArgE.alloc ?_ _))));intro v1 w1 o1 g1 p1;have O1:=qA o1;have cL:=(zac (w.heap.size+1+1) _).grown g1 (by simp) (fun k hk=>by simp[zan] at hk;omega);have B1:=qA cL;obtain⟨A1,ah,rfl,_⟩:=OwE.form o1;obtain⟨hc,hf⟩:=qPT cL;have hz:w.heap.size+1+1<w1.heap.size:=(by have:=g1.size;simp at this;omega);clear o1 cL g1 p1))
 go_wp2;refine bodyPost_ret (v:= .agg #[.int .i64 g.1, .int .i64 g.2.1, .slice A1 g.2.2.length ah]) (by simp[results,Tryz.results181,go_sem,hc,hz]) rfl ⟨_,rfl,⟨_,rfl,h1,h2,?_⟩,?_⟩
 ·refine OwE.mono (base:=w.heap.size+1+1) ?_ tO;have O2:Hid (OwE w1 (w.heap.size+1+1) (.slice A1 g.2.2.length ah) g.2.2):=qA (by simpa using O1.out);exact(by repeat(first | exact(Hid.out O2) | exact(Hid.out O2).drewN _ | (refine OwE.far ?_ (by first | omega | (simp<;>omega)) _) | (refine OwE.alloc ?_ _) | (refine OwE.drew ?_) | (refine OwE.drewN ?_ _)))
 ·exact(by repeat(first | exact .refl _ _ | (refine BxS ?_ _) | (refine qB ?_ _) | (refine zad ?_) | (refine BxA ?_ _) | (refine BxT ?_ (Hid.out B1))))
theorem qBF (v:Value) (g:GrD) (w:World) (h:ArgG w v g) (hl:g.2.2.length≤1073741824):
  Calls Tryz.prog 150 #[v] w fun e w'=> ∃r,e= .returned r∧OwG w' w.heap.size r g∧Below w.heap.size w w':=by
 obtain⟨s,rfl,h1,h2,ha⟩:=h;have H:=qA ha;obtain⟨A,cap,rfl⟩:=ha.form;clear ha;go_enter Tryz.func150,Tryz.ntmps150
 go_wp2_with fail;go_region_held3 (fun w'=>w'.cell? ⟨w.heap.size,0,none⟩=some (.int .i64 g.1)∧w'.cell? ⟨w.heap.size,1,none⟩=some (.int .i64 g.2.1)∧w'.cell? ⟨w.heap.size,2,none⟩=some (.slice A g.2.2.length cap)) (first | go_keep | (refine⟨?_,?_,?_⟩<;>(rw[hc _ _ tO];simp[go_sem])))
  (first | (refine qCX rfl (.tmp 7) (.tmp 9) rfl (w.heap.size+1+1) _ [] (qHz _ (w.heap.size+1+1) (by simp[World.drew,World.drewN]) (zag _)) (by rfl) _ g.2.2 ?_ (by rfl) (by simp;omega) (by simp) ?_;(exact(by repeat(first | exact(Hid.out H) | (refine ArgE.drew ?_) | (refine ArgE.drewN ?_ _) | (refine ArgE.alloc ?_ _))));intro v1 w1 o1 g1 p1;have O1:=qA o1;have cL:=(zac (w.heap.size+1+1) _).grown g1 (by simp) (fun k hk=>by simp[zan] at hk;omega);have B1:=qA cL;obtain⟨A1,ah,rfl,_⟩:=OwE.form o1;obtain⟨hc,hf⟩:=qPT cL;have hz:w.heap.size+1+1<w1.heap.size:=(by have:=g1.size;simp at this;omega);clear o1 cL g1 p1))
 go_wp2;refine bodyPost_ret (v:= .agg #[.int .i64 g.1, .int .i64 g.2.1, .slice A1 g.2.2.length ah]) (by simp[results,Tryz.results150,go_sem,hc,hz]) rfl ⟨_,rfl,⟨_,rfl,h1,h2,?_⟩,?_⟩
 ·refine OwE.mono (base:=w.heap.size+1+1) ?_ tO;have O2:Hid (OwE w1 (w.heap.size+1+1) (.slice A1 g.2.2.length ah) g.2.2):=qA (by simpa using O1.out);exact(by repeat(first | exact(Hid.out O2) | exact(Hid.out O2).drewN _ | (refine OwE.far ?_ (by first | omega | (simp<;>omega)) _) | (refine OwE.alloc ?_ _) | (refine OwE.drew ?_) | (refine OwE.drewN ?_ _)))
 ·exact(by repeat(first | exact .refl _ _ | (refine BxS ?_ _) | (refine qB ?_ _) | (refine zad ?_) | (refine BxA ?_ _) | (refine BxT ?_ (Hid.out B1))))
def degE (v:Int) (e:EdD):Nat:=(if e.1=v then 1 else 0)+(if e.2.2=v then 1 else 0)
def degL (es:List EdD) (v:Int):Nat:=(es.map (degE v)).sum
theorem qIl (es:List EdD) (v:Int) (k:Nat) (h:k<es.length):degL (es.take (k+1)) v=degL (es.take k) v+degE v es[k]:=by
 unfold degL;rw[zaj h,zaK,List.sum_append];simp
theorem qIE (es:List EdD) (v:Int) (k:Nat):degL (es.take k) v≤2*k:=by
 have key: ∀l:List EdD,degL l v≤2*l.length:=by
  intro l;unfold degL;induction l with
  | nil=>simp
  | cons e l ih=>
    simp only[zal,List.sum_cons,zaB];have:degE v e≤2:=by unfold degE;split<;>split<;>omega
    omega
 have:=key (es.take k)
 rw[zbb] at this;omega
theorem qFi (v:Value) (g:GrD) (u:Int) (w:World) (h:ArgG w v g) (hl:g.2.2.length≤1073741824):
  Calls Tryz.prog 200 #[v, .int .i64 u] w fun e w'=>e= .returned (.int .i64 (degL g.2.2 u))∧Below w.heap.size w w':=by
 obtain⟨s,rfl,_,_,ha⟩:=h;have H:=qA ha;obtain⟨A,cap,rfl,aj,hm,_⟩:=ha;unfold maxLen at hm;go_enter Tryz.func200,Tryz.ntmps200
 go_wp2;have hb:Below w.heap.size w (w.alloc (.cells #[.int .i64 g.1,.int .i64 g.2.1, .slice A g.2.2.length cap] 82)):=(by repeat(first | exact .refl _ _ | (refine BxS ?_ _) | (refine qB ?_ _) | (refine zad ?_) | (refine BxA ?_ _)));have k2:(w.alloc (.cells #[.int .i64 g.1,.int .i64 g.2.1, .slice A g.2.2.length cap] 82)).cell? ⟨w.heap.size,2,none⟩=some (.slice A g.2.2.length cap):=by simp[go_sem]
 generalize w.alloc (.cells #[.int .i64 g.1,.int .i64 g.2.1, .slice A g.2.2.length cap] 82)=w1 at hb k2⊢;have HB:=qA hb;clear hb;go_loop [5,6] (fun n i=> ∃k:Nat,k≤g.2.2.length∧i= .int .i64 k∧n= .int .i64 (degL (g.2.2.take k) u)) (fun _ i=>g.2.2.length-(intOf i).toNat)
 case atStart=>exact⟨0,zak _,rfl,rfl⟩
 case round=>
  obtain⟨k,hk,rfl,rfl⟩:=hrel;by_cases ac:k<g.2.2.length
  ·obtain⟨b,off,rfl,aM,c0,c1,c2,_⟩:=(H.out.below HB.out).at ac;have HS:=qA (qIl g.2.2 u k ac);have fe:=qIE g.2.2 u k;generalize g.2.2[k]=e at*;generalize degL (g.2.2.take k) u=d at*;rcases e1:(e.1==u) with _ | _
   ·rcases e2:(e.2.2==u) with _ | _
    ·have F:Hid (degL (g.2.2.take (k+1)) u=d):=qA (by rw[HS.out];simp at e1 e2;simp[degE,e1,e2]);go_wp2;go_round
     case rel=>exact⟨k+1,tO,by go_num,by rw[F.out]⟩
     case measure=>simp[intOf];omega
    ·have F:Hid (degL (g.2.2.take (k+1)) u=d+1):=qA (by rw[HS.out];simp at e1 e2;simp[degE,e1,e2]);go_wp2;go_round
     case rel=>exact⟨k+1,tO,by go_num,by rw[F.out];go_num⟩
     case measure=>simp[intOf];omega
   ·rcases e2:(e.2.2==u) with _ | _
    ·have F:Hid (degL (g.2.2.take (k+1)) u=d+1):=qA (by rw[HS.out];simp at e1 e2;simp[degE,e1,e2]);go_wp2;go_round
     case rel=>exact⟨k+1,tO,by go_num,by rw[F.out];go_num⟩
     case measure=>simp[intOf];omega
    ·have F:Hid (degL (g.2.2.take (k+1)) u=d+2):=qA (by rw[HS.out];simp at e1 e2;simp[degE,e1,e2]);go_wp2;go_round
     case rel=>exact⟨k+1,tO,by go_num,by rw[F.out];go_num⟩
     case measure=>simp[intOf];omega
  ·obtain rfl:k=g.2.2.length:=tO
   rw[zap];go_wp2;go_ret;exact⟨rfl,HB.out⟩
theorem qFh (v:Value) (g:GrD) (u:Int) (w:World) (h:ArgG w v g) (hl:g.2.2.length≤1073741824):
  Calls Tryz.prog 154 #[v, .int .i64 u] w fun e w'=>e= .returned (.int .i64 (degL g.2.2 u))∧Below w.heap.size w w':=by
 obtain⟨s,rfl,_,_,ha⟩:=h;have H:=qA ha;obtain⟨A,cap,rfl,aj,hm,_⟩:=ha;unfold maxLen at hm;go_enter Tryz.func154,Tryz.ntmps154
 go_wp2;have hb:Below w.heap.size w (w.alloc (.cells #[.int .i64 g.1,.int .i64 g.2.1, .slice A g.2.2.length cap] 82)):=(by repeat(first | exact .refl _ _ | (refine BxS ?_ _) | (refine qB ?_ _) | (refine zad ?_) | (refine BxA ?_ _)));generalize w.alloc (.cells #[.int .i64 g.1,.int .i64 g.2.1, .slice A g.2.2.length cap] 82)=w1 at hb⊢;have HB:=qA hb;clear hb;go_loopw [5,11] (fun n i wr=> ∃k:Nat,k≤g.2.2.length∧i= .int .i64 k∧n= .int .i64 (degL (g.2.2.take k) u)∧Below w.heap.size w wr) (fun _ i _=>g.2.2.length-(intOf i).toNat)
 case atStart=>exact⟨0,zak _,rfl,rfl,HB.out⟩
 case round=>
  obtain⟨k,hk,rfl,rfl,aa⟩:=hrel;have au:=qA aa;have ak:=aa.size;clear aa;by_cases ac:k<g.2.2.length
  ·obtain⟨b,off,rfl,aM,c0,c1,c2,_⟩:=(H.out.below au.out).at ac;have HS:=qA (qIl g.2.2 u k ac);have fe:=qIE g.2.2 u k;generalize g.2.2[k]=e at*;generalize degL (g.2.2.take k) u=d at*;rcases e1:(e.1==u) with _ | _
   ·rcases e2:(e.2.2==u) with _ | _
    ·have F:Hid (degL (g.2.2.take (k+1)) u=d):=qA (by rw[HS.out];simp at e1 e2;simp[degE,e1,e2]);go_wp2;go_roundw
     case rel=>exact⟨k+1,tO,by go_num,by rw[F.out],au.out.alloc ak _⟩
     case measure=>simp[intOf];omega
    ·have F:Hid (degL (g.2.2.take (k+1)) u=d+1):=qA (by rw[HS.out];simp at e1 e2;simp[degE,e1,e2]);go_wp2;go_roundw
     case rel=>exact⟨k+1,tO,by go_num,by rw[F.out];go_num,au.out.alloc ak _⟩
     case measure=>simp[intOf];omega
   ·rcases e2:(e.2.2==u) with _ | _
    ·have F:Hid (degL (g.2.2.take (k+1)) u=d+1):=qA (by rw[HS.out];simp at e1 e2;simp[degE,e1,e2]);go_wp2;go_roundw
     case rel=>exact⟨k+1,tO,by go_num,by rw[F.out];go_num,au.out.alloc ak _⟩
     case measure=>simp[intOf];omega
    ·have F:Hid (degL (g.2.2.take (k+1)) u=d+2):=qA (by rw[HS.out];simp at e1 e2;simp[degE,e1,e2]);go_wp2;go_roundw
     case rel=>exact⟨k+1,tO,by go_num,by rw[F.out];go_num,au.out.alloc ak _⟩
     case measure=>simp[intOf];omega
  ·obtain rfl:k=g.2.2.length:=tO
   rw[zap];go_wp2;go_ret;exact⟨rfl,au.out⟩
theorem qFE (w:World) (e:EdD) (t:TypeId) (j:Nat) (u:Value) (h:(edC e)[j]? =some u):(w.alloc (.cells #[.int .i64 e.1, .int .i64 e.2.1, .int .i64 e.2.2] t)).cell? ⟨w.heap.size,j,none⟩=some u:=by
 match j with
 | 0=>simp[edC] at h;subst h;simp[go_sem]
 | 1=>simp[edC] at h;subst h;simp[go_sem]
 | 2=>simp[edC] at h;subst h;simp[go_sem]
 | n+3=>simp[edC] at h
theorem qBq {B base:Nat} {w0 w w1:World} {v:Value} {o:Obj} {es:List EdD} (hb:Below B w0 w) (hB:B≤w.heap.size) (ho:OwE w base v es) (vR:B≤base) (hg:(w.alloc o).grownBy w1 v.ownBlock):Below B w0 w1:=
 qQ hb hB ho.1 vR hg
def insE (e:EdD) (es:List EdD) (k:Nat):List EdD×Bool:=(es.take k).foldl (insS cmpE e) ([],false)
theorem qIN (y:EdD) (xs:List EdD) (k:Nat) (h:k<xs.length):insE y xs (k+1)=insS cmpE y (insE y xs k) xs[k]:=by
 unfold insE;rw[zaj h,zba];rfl
theorem qNx (y:EdD) (xs:List EdD) (k:Nat) (h:k≤xs.length):(insE y xs k).1.length≤2*k:=by
 induction k with
 | zero=>simp[insE]
 | succ k ih=>
   rw[qIN y xs k tO];have:=ih tO
   unfold insS;split
   ·simp;omega
   ·split<;>(simp;omega)
theorem qGn (v:Value) (es:List EdD) (e:EdD) (w:World) (h:ArgE w v es) (he:E64 e) (hl:es.length≤268435456):
  Calls Tryz.prog 194 #[v,edV e] w fun e' w'=> ∃r,e'= .returned r∧OwE w' w.heap.size r (insF cmpE es e)∧Below w.heap.size w w':=by
 have H:=qA h;obtain⟨A,cap,rfl,aj,hm,_,hr,_⟩:=h;have HR:=qA hr;have HE:=qA he;unfold maxLen at hm;clear hr he;unfold edV;go_enter Tryz.func194,Tryz.ntmps194
 go_wp2;have hb:Below w.heap.size w ((w.alloc (.cells #[.int .i64 e.1,.int .i64 e.2.1,.int .i64 e.2.2] 154)).alloc (.cells #[] 154)):=(by repeat(first | exact .refl _ _ | (refine BxS ?_ _) | (refine qB ?_ _) | (refine zad ?_) | (refine BxA ?_ _)));have k0:((w.alloc (.cells #[.int .i64 e.1,.int .i64 e.2.1,.int .i64 e.2.2] 154)).alloc (.cells #[] 154)).cell? ⟨w.heap.size,0,none⟩=some (.int .i64 e.1):=by simp[go_sem]
 have k1:((w.alloc (.cells #[.int .i64 e.1,.int .i64 e.2.1,.int .i64 e.2.2] 154)).alloc (.cells #[] 154)).cell? ⟨w.heap.size,1,none⟩=some (.int .i64 e.2.1):=by simp[go_sem]
 have k2:((w.alloc (.cells #[.int .i64 e.1,.int .i64 e.2.1,.int .i64 e.2.2] 154)).alloc (.cells #[] 154)).cell? ⟨w.heap.size,2,none⟩=some (.int .i64 e.2.2):=by simp[go_sem]
 have aW:w.heap.size+1<((w.alloc (.cells #[.int .i64 e.1,.int .i64 e.2.1,.int .i64 e.2.2] 154)).alloc (.cells #[] 154)).heap.size:=by simp
 have o0:OwE ((w.alloc (.cells #[.int .i64 e.1,.int .i64 e.2.1,.int .i64 e.2.2] 154)).alloc (.cells #[] 154)) (w.heap.size+1) (.slice (some ⟨w.heap.size+1,0,none⟩) 0 0) []:=qHz (w.alloc (.cells #[.int .i64 e.1,.int .i64 e.2.1,.int .i64 e.2.2] 154)) (w.heap.size+1) (by simp) (zag _);generalize (w.alloc (.cells #[.int .i64 e.1,.int .i64 e.2.1,.int .i64 e.2.2] 154)).alloc (.cells #[] 154)=w1 at hb k0 k1 k2 aW o0⊢;have HB:=qA hb;have K0:=qA k0;have K1:=qA k1;have K2:=qA k2;have O0:=qA o0;clear hb k0 k1 k2 o0;go_loopw [5,6,7] (fun out p i wr=> ∃k:Nat,k≤es.length∧i= .int .i64 k∧p= .bool (insE e es k).2∧OwE wr (w.heap.size+1) out (insE e es k).1∧Below (w.heap.size+1) w1 wr)
  (fun _ _ i _=>es.length-(intOf i).toNat)
 case atStart=>exact⟨0,zak _,rfl,rfl,O0.out,zac _ _⟩
 case round=>
  obtain⟨k,hk,rfl,rfl,ab,aa⟩:=hrel;have ak:=aa.size;have du:=qNx e es k hk;have ax:=qA (HB.out.trans (aa.mono tO));have au:=qA aa;have p0:=(aa.cell (p:=⟨w.heap.size,0,none⟩) (show w.heap.size<w.heap.size+1 by omega)).trans K0.out;have p1:=(aa.cell (p:=⟨w.heap.size,1,none⟩) (show w.heap.size<w.heap.size+1 by omega)).trans K1.out;have p2:=(aa.cell (p:=⟨w.heap.size,2,none⟩) (show w.heap.size<w.heap.size+1 by omega)).trans K2.out;clear aa;by_cases ac:k<es.length
  ·obtain⟨b,off,rfl,dp,c0,c1,c2,_⟩:=H.out.at ac;have aM:b<wr.heap.size:=tO;have nN:w.heap.size<wr.heap.size:=tO;have Ec:=qA c0;have kw:=qA c1;have ik:=qA c2;replace c0:=(ax.out.cell (p:=⟨b,off+k*3,none⟩) dp).trans c0;replace c1:=(ax.out.cell (p:=⟨b,off+k*3+1,none⟩) dp).trans c1;replace c2:=(ax.out.cell (p:=⟨b,off+k*3+2,none⟩) dp).trans c2;have HS:=qA (qIN e es k ac);have HX:=qA (HR.out es[k] (by simp));generalize hs:insE e es k=s at ab HS du⊢;obtain⟨o,p⟩:=s;generalize es[k]=z at c0 c1 c2 Ec kw ik HS HX;clear hs;simp only at du
   obtain⟨A1,ah,rfl,aX,cJ,_,_⟩:=ab.form;have ge:=qA ab;clear ab;go_wp2_with fail;have f0:=BelW.cell p0 nN;have f1:=BelW.cell p1 nN;have f2:=BelW.cell p2 nN;have f3:=BelW.cell c0 aM;have f4:=BelW.cell c1 aM;have f5:=BelW.cell c2 aM;(refine qK tK tK ?_;(repeat(go_big_quiet_step (first | (go_at_call 198;exact Calls.bel_of (qAu e z _)))));refine wpQuiet_nil ?_;intro wq hw';obtain⟨pq,al⟩:=hw';have bq:=pq.h;rw[←al] at bq;clear al pq)
   replace p0:=f0 ⟨wq,bq⟩;replace p1:=f1 ⟨wq,bq⟩;replace p2:=f2 ⟨wq,bq⟩;replace c0:=f3 ⟨wq,bq⟩;replace c1:=f4 ⟨wq,bq⟩;replace c2:=f5 ⟨wq,bq⟩;simp only at p0 p1 p2 c0 c1 c2
   clear f0 f1 f2 f3 f4 f5;have Ai:=bq.size;have JC:b<wq.heap.size:=tO;have Kk:w.heap.size<wq.heap.size:=tO;have HO:=qA (ge.out.below bq);have rW:=qA (au.out.trans (bq.mono tO));have xM:=qA (ax.out.trans (bq.mono tO));clear bq;have fi:Hid (insE e es (k+1)=(if cmpE e z=0 then(o++ [z],true) else if cmpE e z<0∧p=false then(o++ [e,z],true) else(o++ [z],p))):=qA HS.out;have vj:Hid (cmpE e z=0∨cmpE e z<0∨0<cmpE e z):=qA tO;clear HS;generalize cmpE e z=c at*;rcases vj.out with hc | hc | hc
   ·subst hc;have F:Hid (insE e es (k+1)=(o++ [z],true)):=qA (by rw[fi.out];rfl);clear fi;go_wp2_with (at_builtin;refine qCS rfl (.tmp 34) (.tmp 39) rfl _ _ _ (HO.out.alloc _) rfl _ z rfl (qFE _ _ _) HX.out (by first | omega | (simp;omega)) (by first | omega | (simp;omega)) ?_;intro v2 wv2 o2 g2 p2)
    go_roundw
    case rel=>exact⟨k+1,tO,by go_num,by rw[F.out],by rw[F.out];exact o2,qBq rW.out tO HO.out (zag _) g2⟩
    case measure=>simp[intOf];omega
   ·have gI:(c==0)=false:=by simp;omega
    cases p
    ·have F:Hid (insE e es (k+1)=(o++ [e,z],true)):=qA (by rw[fi.out];rw[if_neg tO,if_pos ⟨hc,rfl⟩]);clear fi;go_wp2_with (first | (at_builtin;refine qCS rfl (.tmp 30) (.tmp 32) rfl _ _ _ (HO.out.alloc _) rfl _ e rfl (qFE _ _ _) HE.out (by first | omega | (simp;omega)) (by first | omega | (simp;omega)) ?_;intro v1 eq o1 g1 p1;have ao:=g1.size;simp at ao;have cL:=qBq xM.out (show w.heap.size≤wq.heap.size by omega) HO.out (show w.heap.size≤w.heap.size+1 by omega) g1;replace c0:=(cL.cell (p:=⟨b,off+k*3,none⟩) dp).trans Ec.out;replace c1:=(cL.cell (p:=⟨b,off+k*3+1,none⟩) dp).trans kw.out;replace c2:=(cL.cell (p:=⟨b,off+k*3+2,none⟩) dp).trans ik.out;have IM:b<eq.heap.size:=tO;clear cL) | (at_builtin;refine qCS rfl (.tmp 34) (.tmp 39) rfl _ _ _ (o1.alloc _) rfl _ z rfl (qFE _ _ _) HX.out (by first | omega | (simp;omega)) (by first | omega | (simp;omega)) ?_;intro v2 wv2 o2 g2 p2))
     go_roundw
     case rel=>
      have cL:=qBq rW.out (show w.heap.size+1≤wq.heap.size by omega) HO.out (zag _) g1;exact⟨k+1,tO,by go_num,by rw[F.out],by rw[F.out];simpa using o2,qBq cL tO o1 (zag _) g2⟩
     case measure=>simp[intOf];omega
    ·have F:Hid (insE e es (k+1)=(o++ [z],true)):=qA (by rw[fi.out];rw[if_neg tO,if_neg (by simp)]);clear fi;go_wp2_with (at_builtin;refine qCS rfl (.tmp 34) (.tmp 39) rfl _ _ _ (HO.out.alloc _) rfl _ z rfl (qFE _ _ _) HX.out (by first | omega | (simp;omega)) (by first | omega | (simp;omega)) ?_;intro v2 wv2 o2 g2 p2)
     go_roundw
     case rel=>exact⟨k+1,tO,by go_num,by rw[F.out],by rw[F.out];exact o2,qBq rW.out tO HO.out (zag _) g2⟩
     case measure=>simp[intOf];omega
   ·have gI:(c==0)=false:=by simp;omega
    have aC: ¬c<0:=tO;have F:Hid (insE e es (k+1)=(o++ [z],p)):=qA (by rw[fi.out];rw[if_neg tO,if_neg (fun h=>aC h.1)]);clear fi;go_wp2_with (at_builtin;refine qCS rfl (.tmp 34) (.tmp 39) rfl _ _ _ (HO.out.alloc _) rfl _ z rfl (qFE _ _ _) HX.out (by first | omega | (simp;omega)) (by first | omega | (simp;omega)) ?_;intro v2 wv2 o2 g2 p2)
    go_roundw
    case rel=>exact⟨k+1,tO,by go_num,by rw[F.out],by rw[F.out];exact o2,qBq rW.out tO HO.out (zag _) g2⟩
    case measure=>simp[intOf];omega
  ·obtain rfl:k=es.length:=tO
   have HF:Hid (insF cmpE es e=if(insE e es es.length).2 then(insE e es es.length).1 else(insE e es es.length).1++ [e]):=qA (by unfold insF insE;rw[zap]);have nN:w.heap.size<wr.heap.size:=tO;generalize insE e es es.length=s at ab HF du⊢;obtain⟨o,p⟩:=s;have HO:=qA ab;obtain⟨A1,ah,rfl,aX,cJ,_,_⟩:=ab.form;clear ab;simp only at du
   cases p
   ·go_wp2_with (at_builtin;refine qCS rfl (.tmp 43) (.tmp 45) rfl _ _ _ (HO.out.alloc _) rfl _ e rfl (qFE _ _ _) HE.out (by first | omega | (simp;omega)) (by first | omega | (simp;omega)) ?_;intro v2 wv2 o2 g2 p2)
    go_ret;exact⟨_,rfl,by rw[HF.out];exact o2.mono tO,qBq ax.out tO HO.out tO g2⟩
   ·go_wp2;go_ret;exact⟨_,rfl,by rw[HF.out];exact HO.out.mono tO,ax.out⟩
end Go.Proofs.YtlgcflpaekbopaaGreat
