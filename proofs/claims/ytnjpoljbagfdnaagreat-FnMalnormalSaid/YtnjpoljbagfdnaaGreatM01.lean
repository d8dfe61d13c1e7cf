/- Parts of the proof (1). -/
import Derived.BigQuiet
import Derived.Deep.AppendLies
import Derived.Deep.QuietTactic
import Derived.Deep.RegionHeld3
import Derived.Laws.StructEq
import Derived.Lib.Hide
import Derived.Maps.AppendAt
import Derived.Outline
import Derived.RegionTactic
import Derived.Test.YtnjpoljbagfdnaaGreatProg
import Derived.WalkKit
import Derived.WalkLawsBesides
import Derived.WalkSpells
set_option maxRecDepth 100000
set_option maxHeartbeats 16000000
set_option linter.unusedVariables false
set_option linter.unusedSimpArgs false
namespace Go.Proofs.YtnjpoljbagfdnaaGreat
open Go.RowKit
open Go.RowKit renaming Below→Wf,Hid→Wi
open Go renaming Calls→Wk,Value→Wh,World→Wg,bodyPost_ret→Wj
open _root_.Nat renaming le_refl->zaa,zero_le->zah,lt_of_lt_of_le->zaj,le_trans->zar,min_eq_left->zaE,lt_or_eq_of_le->zaH,le_of_lt_succ->zaJ,strongRecOn->zaR,mul_le_mul_right->zaY,lt_or_ge->zaZ,eq_zero_or_pos->za0,add_zero->za1,zero_add->za2
open Go.RowKit.Below renaming refl->zab,drew->zac
open _root_.List renaming mem_append->zad,take_succ_eq_append_getElem->zag,take_length->zak,eq_nil_of_length_eq_zero->zal,getElem?_cons_zero->zam,mem_cons->zan,pairwise_cons->zao,mem_range->zas,range->zat,all_eq_true->zau,getElem?_eq_getElem->zaw,getElem?_cons_succ->zax,map_cons->zay,map_toArray->zaz,mem_flatten->zaA,any_eq_true->zaB,set_append_right->zaD,foldl_cons->zaF,nodup_append->zaI,mem_or_eq_of_mem_set->zaK,getElem?_eq_some_iff->zaL,exists_mem_of_ne_nil->zaM,map_nil->zaN,mem_map->zaO,getElem_mem->zaP,length_cons->zaQ,filterMap_append->zaV,mem_of_mem_drop->zaW,mem_of_mem_take->zaX,length_append->za4,getElem_drop->za5,foldl_append->za6,length_take->za7,length_drop->za8,length_set->za9,length_nil->zba
open _root_.Array renaming getElem?_eq_some_iff->zae,getElem?_eq_none->zap,all_eq_true_iff_forall_mem->zaC,replicate->zaS,any_eq_true'->za3
open Go.World renaming cell?_of_block->zaf,ownsRow_lit->zaq,frozen?_of_block->zaT,cell?_alloc_past->zaU,grownBy->zbb
open _root_.Bool renaming and_eq_true->zai
open _root_.Option renaming isNone_iff_eq_none->zav
open Go.Value renaming ownBlock->zaG
theorem _root_.Go.RowKit.Hid.o {p:Prop} (h:Go.RowKit.Hid p):p:=h
theorem _root_.Go.Shut.o {p:Prop} (h:Go.Shut p):p:=h.out
instance:Coe Wg Nat:=⟨fun w=>w.heap.size⟩
universe uu
theorem Wm {c:Prop} {_:Decidable c} (h:c) {α:Sort uu} {t e:α}:ite c t e=t:=if_pos h
theorem Wn {c:Prop} {_:Decidable c} (h:¬c) {α:Sort uu} {t e:α}:ite c t e=e:=if_neg h
theorem tO {P:Prop} (h:P:=by omega):P:=h
theorem tK {P:Prop} (h:P:=by kernel_rfl):P:=h
theorem tB {P:Prop} (h:P:=by first | omega | (dsimp only;omega) | (simp<;>omega)):P:=h
theorem tZ {P:Prop} (h:P:=by simp):P:=h
theorem tD {P:Prop} (h:P:=by decide):P:=h
theorem tM {P:Prop} (h:P:=by simp[intOf];omega):P:=h
theorem BxT {n m:Nat} {w v u:Wg} (h:Wf n w v) (k:Wf m v u) (hm:n<=m:=by first | omega | (simp<;>omega)):Wf n w u:=h.trans (k.mono hm)
theorem BxS {n:Nat} {w v:Wg} (h:Wf n w v) {a:Addr} (x:Wh) (hp:n<=a.block:=by first | omega | (simp<;>omega)):Wf n w (v.setCell a x):=h.setCell hp x
theorem BxA {n:Nat} {w v:Wg} (h:Wf n w v) (o:Obj) (hp:n<=v.heap.size:=by first | omega | (simp<;>omega)):Wf n w (v.alloc o):=h.alloc hp o
def xPA:Prop:=True
def xPB:Prop:=∀n:Nat,n=n
theorem xPa:xPA:=trivial
theorem xPb:xPB:=fun _=>rfl
theorem qA {P : Prop} (h : P) : Wi P := Lib.hid h
def I64 (n:Int):Prop:= -9223372036854775808<=n/\n<=9223372036854775807
abbrev I64s (xs:List Int):Prop:= ∀x∈xs,I64 x
abbrev ints (xs:List Int):List Wh:=xs.map (Value.int .i64)
theorem qGg (xs:List Int):(ints xs).length=xs.length:=by simp[ints]
theorem qKf (xs:List Int) (i:Nat) (h:i<xs.length):(ints xs)[i]'(by simpa[ints] using h)= .int .i64 xs[i]:=by simp[ints]
def RdV (t:TypeId) (size:Nat) (w:Wg) (v:Wh) (n:Nat) (cs:List Wh):Prop:=
 cs.length=n*size/\ ∃A cap,v= .slice A n cap/\n<=cap/\cap<=maxLen/\(A=none->cap=0)/\
  (0<n-> ∃b off cur fr,A=some ⟨b,off,none⟩/\w.heap[b]? =some (.cells cur t fr)/\ ∀i (hi:i<cs.length),cur[off+i]? =some cs[i])
def RdI (w:Wg) (v:Wh) (xs:List Int):Prop:=RdV 3 1 w v xs.length (ints xs)/\I64s xs
def OwI (w:Wg) (base:Nat) (v:Wh) (xs:List Int):Prop:=w.ownsRow base 3 1 v xs.length (ints xs)/\I64s xs
def RdII (w:Wg) (v:Wh) (L:List (List Int)):Prop:=
 ∃vs:List Wh,vs.length=L.length/\RdV 37 1 w v L.length vs/\ ∀i (h:i<L.length) (h':i<vs.length),RdI w vs[i] L[i]
def ArgI (w:Wg) (v:Wh) (xs:List Int):Prop:=
 ∃A cap,v= .slice A xs.length cap/\xs.length<=cap/\cap<=maxLen/\I64s xs/\
  (0<xs.length-> ∃b off,A=some ⟨b,off,none⟩/\ ∀i (hi:i<xs.length),w.cell? ⟨b,off+i,none⟩=some (.int .i64 xs[i]))
theorem qEG:(Tryz.prog.info? 3).map (fun i=>(i.zero,i.size,i.bytes))=some (some (.int .i64 0),1,8):=by kernel_rfl
section
variable {t:TypeId} {size:Nat} {w w':Wg} {v:Wh} {n:Nat} {cs:List Wh} {xs:List Int} {base:Nat}
theorem qDz {b:Nat} {o:Obj} (h:w.heap[b]? =some o):b<w.heap.size:=by
 rcases zaZ b w.heap.size with h' | h'
 ·exact h'
 ·rw[zap h'] at h;cases h
theorem RdV.mono (h:RdV t size w v n cs) (hk: ∀b,v.ownBlock=some b->b<w.heap.size->w'.heap[b]? =w.heap[b]?):RdV t size w' v n cs:=by
 obtain⟨hl,A,cap,hv,hc,hm,hn,hb⟩:=h;refine⟨hl,A,cap,hv,hc,hm,hn,fun h0=> ?_⟩;obtain⟨b,off,cur,fr,hA,hh,hx⟩:=hb h0;exact⟨b,off,cur,fr,hA,by rw[hk b (by rw[hv,hA];rfl) (qDz hh)];exact hh,hx⟩
theorem RdV.below (h:RdV t size w v n cs) (hb:Wf w w w'):RdV t size w' v n cs:=h.mono fun b _ ac=>hb.block b ac
theorem RdV.alloc (h:RdV t size w v n cs) (o:Obj):RdV t size (w.alloc o) v n cs:=h.mono fun b _ ac=>Below.heap_alloc w o b ac
theorem RdV.grown (h:RdV t size w v n cs) {row:Option Nat} (hg:w.grownBy w' row) (ai: ∀b,v.ownBlock=some b->row=some b->False):RdV t size w' v n cs:=
 h.mono fun b hv ac=>hg.block b ac (fun e=>ai b hv e.symm)
theorem RdV.of_own (h:w.ownsRow base t size v n cs):RdV t size w v n cs:=by
 refine⟨h.1,?_⟩;rcases h.2 with ⟨rfl,rfl⟩ | ⟨g,cap,cur,rfl,hg,hh,hnc,ke,iz,htake⟩
 ·exact⟨none,0,rfl,zaa _,by simp[maxLen],fun _=>rfl,fun h=>absurd h tZ⟩
 ·refine⟨_,cap,rfl,hnc,ke,(fun h=>by cases h),fun _=>⟨g,0,cur,_,rfl,hh,fun i hi=> ?_⟩⟩;have dB:i<n*size:=by rw[<-h.1];exact hi
  have:(cur.toList.take (n*size))[i]? =cs[i]? :=by rw[htake]
  rw[List.getElem?_take,Wm dB] at this;simpa[hi] using this
theorem RdV.cell (h:RdV t size w v n cs): ∃A cap,v= .slice A n cap/\n<=cap/\cap<=maxLen/\(A=none->cap=0)/\
  (0<n-> ∃b off,A=some ⟨b,off,none⟩/\b<w.heap.size/\ ∀i (hi:i<cs.length),w.cell? ⟨b,off+i,none⟩=some cs[i]):=by
 obtain⟨hl,A,cap,hv,hc,hm,hn,hb⟩:=h;refine⟨A,cap,hv,hc,hm,hn,fun h0=> ?_⟩;obtain⟨b,off,cur,fr,hA,hh,hx⟩:=hb h0;exact⟨b,off,hA,qDz hh,fun i hi=>by rw[cell_of_row w b (off+i) cur _ fr hh];exact hx i hi⟩
theorem OwI.set {g cap:Nat} (h:OwI w base (.slice (some ⟨g,0,none⟩) n cap) xs) (j:Nat) (z:Int) (hz:I64 z):
  OwI (w.setCell ⟨g,j,none⟩ (.int .i64 z)) base (.slice (some ⟨g,0,none⟩) n cap) (xs.set j z)/\w.grownBy (w.setCell ⟨g,j,none⟩ (.int .i64 z)) (some g):=by
 have hn:n=xs.length:=by
  rcases h.1.2 with ⟨hv,_⟩ | ⟨g',cap',cur,hv,_⟩
  ·cases hv
  ·injection hv
 subst hn;obtain⟨h1,h2⟩:=h.1.stored j (.int .i64 z);refine⟨⟨?_,fun y hy=> ?_⟩,h2⟩
 ·rw[za9];simpa[ints,List.map_set] using h1
 ·rcases zaK hy with hy | rfl
  ·exact h.2 y hy
  ·exact hz
theorem OwI.cellAt {g cap:Nat} (h:OwI w base (.slice (some ⟨g,0,none⟩) n cap) xs) (j:Nat) (hj:j<xs.length):w.cell? ⟨g,j,none⟩=some (.int .i64 xs[j]):=by
 have hn:n=xs.length:=by
  rcases h.1.2 with ⟨hv,_⟩ | ⟨g',cap',cur,hv,_⟩
  ·cases hv
  ·injection hv
 subst hn;rw[h.1.cellAt j tO];simp[ints,hj]
theorem OwI.free {g cap:Nat} (h:OwI w base (.slice (some ⟨g,0,none⟩) n cap) xs) (j:Nat):w.frozen? ⟨g,j,none⟩=false:=by
 have hn:n=xs.length:=by
  rcases h.1.2 with ⟨hv,_⟩ | ⟨g',cap',cur,hv,_⟩
  ·cases hv
  ·injection hv
 subst hn;exact h.1.frozenAt j
theorem RdV.cut (h:RdV t 1 w v n cs) {k cap:Nat} {A:Option Addr} (hv:v= .slice A n cap) (hk:k<=n):
  RdV t 1 w (.slice (if cap=k then A else A.map (·.add k)) (n-k) (cap-k)) (n-k) (cs.drop k):=by
 obtain⟨hl,A',cap',kC,hc,hm,hn,hb⟩:=h;rw[kC] at hv;obtain⟨rfl,-,rfl⟩:A'=A/\True/\cap'=cap:=by simpa using hv
 refine⟨by simp[hl],_,_,rfl,tO,tO,?_,fun h0=> ?_⟩
 ·split
  ·omega
  ·intro h;cases A' with
   | none=>have:=hn rfl;omega
   | some a=>cases h
 ·obtain⟨b,off,cur,fr,rfl,hh,hx⟩:=hb tO;rw[Wn tO];refine⟨b,off+k,cur,fr,by simp[Addr.add_lit],hh,fun i hi=> ?_⟩;rw[za5,Nat.add_assoc];exact hx _ _
theorem RdV.head (h:RdV t 1 w v n cs) {k cap:Nat} {A:Option Addr} (hv:v= .slice A n cap) (hk:k<=n):RdV t 1 w (.slice A k cap) k (cs.take k):=by
 obtain⟨hl,A',cap',kC,hc,hm,hn,hb⟩:=h;rw[kC] at hv;obtain⟨rfl,-,rfl⟩:A'=A/\True/\cap'=cap:=by simpa using hv
 refine⟨by simp[hl];omega,_,_,rfl,tO,hm,hn,fun h0=> ?_⟩;obtain⟨b,off,cur,fr,rfl,hh,hx⟩:=hb tO;refine⟨b,off,cur,fr,rfl,hh,fun i hi=> ?_⟩;rw[List.getElem_take];exact hx _ _
theorem RdI.arg (h:RdI w v xs):ArgI w v xs:=by
 obtain⟨A,cap,hv,hc,hm,_,hb⟩:=h.1.cell;refine⟨A,cap,hv,hc,hm,h.2,fun h0=> ?_⟩;obtain⟨b,off,hA,_,hx⟩:=hb h0;refine⟨b,off,hA,fun i hi=> ?_⟩;rw[hx i (by rw[qGg];exact hi),qKf]
theorem RdI.at {A:Option Addr} {m cap:Nat} (h:RdI w (.slice A m cap) xs) (h0:0<xs.length):
  ∃b off,A=some ⟨b,off,none⟩/\b<w.heap.size/\ ∀i (hi:i<xs.length),w.cell? ⟨b,off+i,none⟩=some (.int .i64 xs[i]):=by
 obtain⟨A',cap',hv,hc,hm,_,hb⟩:=h.1.cell;obtain⟨b,off,hA,ac,hx⟩:=hb h0;injection hv with hv
 refine⟨b,off,hv.trans hA,ac,fun i hi=> ?_⟩;rw[hx i (by rw[qGg];exact hi),qKf]
theorem RdI.below (h:RdI w v xs) (hb:Wf w w w'):RdI w' v xs:=⟨h.1.below hb,h.2⟩
theorem RdI.drewN (h:RdI w v xs) (n:Nat):RdI (w.drewN n) v xs:=h
theorem RdI.drew (h:RdI w v xs):RdI w.drew v xs:=h
theorem RdI.alloc (h:RdI w v xs) (o:Obj):RdI (w.alloc o) v xs:=⟨h.1.alloc o,h.2⟩
theorem RdI.grown (h:RdI w v xs) {row:Option Nat} (hg:w.grownBy w' row) (ai: ∀b,v.ownBlock=some b->row=some b->False):RdI w' v xs:=⟨h.1.grown hg ai,h.2⟩
theorem RdI.cut (h:RdI w v xs) {k cap:Nat} {A:Option Addr} (hv:v= .slice A xs.length cap) (hk:k<=xs.length):
  RdI w (.slice (if cap=k then A else A.map (·.add k)) (xs.length-k) (cap-k)) (xs.drop k):=by
 refine⟨?_,fun x hx=>h.2 x (zaW hx)⟩;have:=h.1.cut hv hk
 simpa[ints] using this
theorem RdI.head (h:RdI w v xs) {k cap:Nat} {A:Option Addr} (hv:v= .slice A xs.length cap) (hk:k<=xs.length):RdI w (.slice A k cap) (xs.take k):=by
 refine⟨?_,fun x hx=>h.2 x (zaX hx)⟩;have:=h.1.head hv hk
 simpa[ints,zaE hk] using this
theorem RdII.below {L:List (List Int)} (h:RdII w v L) (hb:Wf w w w'):RdII w' v L:=by
 obtain⟨vs,h1,h2,h3⟩:=h;exact⟨vs,h1,h2.below hb,fun i hi dB=>(h3 i hi dB).below hb⟩
theorem RdII.drewN {L:List (List Int)} (h:RdII w v L) (k:Nat):RdII (w.drewN k) v L:=h
theorem RdII.form {L:List (List Int)} (h:RdII w v L): ∃A cap,v= .slice A L.length cap/\L.length<=cap/\cap<=maxLen/\(A=none->cap=0):=by
 obtain⟨vs,h1,h2,h3⟩:=h;obtain⟨A,cap,hv,hc,hm,hn,_⟩:=h2.cell;exact⟨A,cap,hv,hc,hm,hn⟩
theorem RdII.at {A:Option Addr} {m cap:Nat} {L:List (List Int)} (h:RdII w (.slice A m cap) L) {k:Nat} (hk:k<L.length):
  ∃b off A1 ak,A=some ⟨b,off,none⟩/\b<w.heap.size/\w.cell? ⟨b,off+k,none⟩=some (.slice A1 L[k].length ak)/\L[k].length<=ak/\ak<=maxLen/\RdI w (.slice A1 L[k].length ak) L[k]:=by
 obtain⟨vs,h1,h2,h3⟩:=h;obtain⟨A',cap',hv,hc,hm,_,hb⟩:=h2.cell;obtain⟨b,off,hA,ac,hx⟩:=hb tO;injection hv with hv
 have hr:=h3 k hk tO;obtain⟨A1,ak,pW,aJ,fM,_⟩:=hr.1.cell;refine⟨b,off,A1,ak,hv.trans hA,ac,?_,aJ,fM,?_⟩
 ·rw[hx k tO,pW]
 ·rw[<-pW];exact hr
theorem OwI.rd (h:OwI w base v xs):RdI w v xs:=⟨RdV.of_own h.1,h.2⟩
theorem OwI.mono {base':Nat} (h:OwI w base v xs) (hb:base'<=base):OwI w base' v xs:=by
 refine⟨⟨h.1.1,?_⟩,h.2⟩;rcases h.1.2 with h0 | ⟨g,cap,cur,hv,hg,r⟩
 ·exact .inl h0
 ·exact .inr ⟨g,cap,cur,hv,zar hb hg,r⟩
theorem qP {e:TypeId} {sz:Nat} (h:w.ownsRow base e sz v n cs) (hb:Wf w w w'):w'.ownsRow base e sz v n cs:=by
 refine⟨h.1,?_⟩;rcases h.2 with h0 | ⟨g,cap,cur,hv,hg,hh,r⟩
 ·exact .inl h0
 ·exact .inr ⟨g,cap,cur,hv,hg,by rw[hb.block g (qDz hh)];exact hh,r⟩
theorem OwI.drew (h:OwI w base v xs):OwI w.drew base v xs:=h
theorem OwI.far (h:OwI w base v xs) {p:Addr} (hp:p.block<base) (u:Wh):OwI (w.setCell p u) base v xs:=⟨ownsRow_setCell_below h.1 hp u,h.2⟩
theorem OwI.below (h:OwI w base v xs) (hb:Wf w w w'):OwI w' base v xs:=⟨qP h.1 hb,h.2⟩
theorem OwI.drewN (h:OwI w base v xs) (k:Nat):OwI (w.drewN k) base v xs:=h
theorem OwI.kept {row:Option Nat} (h:OwI w base v xs) (hg:w.grownBy w' row) (ai:v.ownBlock=none\/v.ownBlock≠row):OwI w' base v xs:=⟨h.1.kept hg ai,h.2⟩
theorem qAE {e:TypeId} {sz:Nat} (h:w.ownsRow base e sz v n cs): ∃A cap,v= .slice A n cap/\n<=cap/\cap<=maxLen/\(A=none->cap=0)/\(0<n-> ∃g,A=some ⟨g,0,none⟩/\base<=g/\g<w.heap.size):=by
 rcases h.2 with ⟨rfl,rfl⟩ | ⟨g,cap,cur,rfl,hg,hh,hnc,ke,_⟩
 ·exact⟨none,0,rfl,zaa _,by simp[maxLen],fun _=>rfl,fun h=>absurd h tZ⟩
 ·exact⟨_,cap,rfl,hnc,ke,(fun h=>by cases h),fun _=>⟨g,rfl,hg,qDz hh⟩⟩
theorem qJS {e:TypeId} {sz:Nat} (h:w.ownsRow base e sz v n cs) {A:Option Addr} {cap k:Nat} (hv:v= .slice A n cap) (hk:k<=n):w.ownsRow base e sz (.slice A k cap) k (cs.take (k*sz)):=by
 refine⟨by rw[za7,h.1];exact zaE (zaY _ hk),?_⟩;rcases h.2 with ⟨kC,rfl⟩ | ⟨g,cap',cur,kC,hg,hh,hnc,ke,iz,htake⟩
 ·rw[kC] at hv;obtain⟨rfl,-,rfl⟩:none=A/\True/\0=cap:=by simpa using hv
  exact .inl ⟨by obtain rfl:k=0:=tO
                 rfl,tO⟩
 ·rw[kC] at hv;obtain⟨rfl,-,rfl⟩:some ⟨g,0,none⟩=A/\True/\cap'=cap:=by simpa using hv
  refine .inr ⟨g,_,cur,rfl,hg,hh,tO,ke,iz,?_⟩;rw[<-htake,List.take_take,zaE (zaY _ hk)]
theorem qC {B:Nat} {a:Wg} (h:Wf B a w) (k:Nat):Wf B a (w.drewN k):=⟨h.os,h.tape,h.output,h.size,h.block⟩
theorem ZZ {n:Nat} {w v:Wg} (h:Wf n w v:=by repeat(first | exact .refl _ _ | (refine BxS ?_ _) | (refine qC ?_ _) | (refine Go.RowKit.Below.drew ?_) | (refine BxA ?_ _))):Wf n w v:=h
end
theorem qBJ {P:Program} {f:FuncId} {args:Array Wh} {w:Wg} {a n:Nat} {v:Wh}
  (h:Wk P f args (w.drewN (a+n)) fun e w'=>e= .returned v/\w.drewN (a+n)=w'):
  Wk P f args (w.drewN (a+n)) fun e w''=>e= .returned v/\ ∃m,w''=w.drewN (a+m):=
 h.mono fun _ _ ⟨he,hm⟩=>⟨he,n,hm.symm⟩
theorem qDI (x:Int):IntKind.i64.wrap x=wrap64 x:=by
 rw[IntKind.wrap_i64];unfold wrap64;rfl
theorem qt:I64s []:=fun _ h=>by cases h
theorem qp (w:Wg) (xs:List Int) (hx:I64s xs) (hl:xs.length<=1099511627776) {base:Nat} (hb:base<=w.heap.size):OwI (w.alloc (.cells (ints xs).toArray 3)) base (.slice (some ⟨w,0,none⟩) xs.length xs.length) xs:=
 ⟨by have:=zaq (e:=3) (size:=1) w (ints xs).toArray xs.length hb (by unfold maxLen;omega) tZ;simpa using this,hx⟩
theorem qAc (w:Wg) (xs:List Int) (N:Nat) (hN:w.heap.size=N) (hx:I64s xs) (hl:xs.length<=1099511627776) {base:Nat} (hb:base<=N):OwI (w.alloc (.cells (ints xs).toArray 3)) base (.slice (some ⟨N,0,none⟩) xs.length xs.length) xs:=by
 subst hN;exact qp w xs hx hl hb
theorem qQT {W w1:Wg} (hb:Wf W W w1):(∀b o,b<W.heap.size->w1.cell? ⟨b,o,none⟩=W.cell? ⟨b,o,none⟩)/\(∀b o,b<W.heap.size->w1.frozen? ⟨b,o,none⟩=W.frozen? ⟨b,o,none⟩):=
 ⟨fun b o h=>hb.cell (p:=⟨b,o,none⟩) h,fun b o h=>hb.frozen (p:=⟨b,o,none⟩) h⟩
theorem qHj {N:Nat} {W w1:Wg} (hb:Wf N W w1):(∀b o,b<N->w1.cell? ⟨b,o,none⟩=W.cell? ⟨b,o,none⟩)/\(∀b o,b<N->w1.frozen? ⟨b,o,none⟩=W.frozen? ⟨b,o,none⟩):=
 ⟨fun b o h=>hb.cell (p:=⟨b,o,none⟩) h,fun b o h=>hb.frozen (p:=⟨b,o,none⟩) h⟩
theorem qJ {a b:Bool} (h:a=b):Ending.returned (.bool a)= .returned (.bool b):=by rw[h]
theorem qAP {k:IntKind} {a b:Int} (h:a=b):Ending.returned (.int k a)= .returned (.int k b):=by rw[h]
theorem qDy {α} {xs ys:List α} {k:Nat} (h:xs.take k=ys.take k) (hx:k<xs.length) (hy:k<ys.length) (he:xs[k]=ys[k]):xs.take (k+1)=ys.take (k+1):=by
 rw[zag hx,zag hy,h,he]
theorem qU (w:Wg) (u:Wh) (t:TypeId):(w.alloc (.cells #[u] t)).cell? ⟨w,0,none⟩=some u:=by
 exact cell_one_new w u t 0 u rfl
theorem OwI.alloc {w:Wg} {base:Nat} {v:Wh} {xs:List Int} (h:OwI w base v xs) (o:Obj):OwI (w.alloc o) base v xs:=⟨h.1.alloc o,h.2⟩
theorem qW {w:Wg} {ops:Array Oper} {rest:List Oper} {o:Oper} {a:Act} {Q:Exit->Act->Wg->Prop} (dq:o.guard=none) (s x:Operand)
  (ho:o.op= .call {callee:= .builtin .append,args:= #[s,x],argTypes:= #[37,37]})
  (base:Nat) (v:Wh) (xs:List Int) (aa:OwI w base v xs) (hs:a.eval s=v) (b:Nat) (z:Int) (hx:a.eval x= .slice (some ⟨b,0,none⟩) 1 1)
  (hc:w.cell? ⟨b,0,none⟩=some (.int .i64 z)) (hz:I64 z) (hl:xs.length<=1099511627776) (au:base<=w.heap.size)
  (h: ∀v' w',OwI w' base v' (xs++ [z])->w.grownBy w' v.ownBlock->(v'.ownBlock=v.ownBlock\/v'.ownBlock=some w)->wpList Tryz.prog ops Q rest (a.put o.dst v') w'):
  wpList Tryz.prog ops Q (o::rest) a w:=by
 obtain⟨i0,ci,cB,bi,bQ⟩:=info_parts qEG;refine wpList_append_own_at _ dq s x 37 ho base 3 i0 (.int .i64 0) 1 8 Tryz.underlying37 ci cB bi bQ rfl tD v xs.length (ints xs) hs aa.1 ⟨b,0,none⟩ 1 1 [.int .i64 z] hx rfl ?_ ?_ (by unfold maxLen;omega) tO au ?_
 ·intro j u hj;match j,hj with
  | 0,hj=>simp at hj;subst hj;simpa[Addr.add] using hc
 ·intro u hu;simp at hu;subst hu;rfl
 ·intro v' w' h1 h2 h3 h5;exact h v' w' ⟨by simpa[ints] using h1,fun y hy=>by
   rcases zad.1 hy with hy | hy
   ·exact aa.2 y hy
   ·simp at hy;subst hy;exact hz⟩ h2 h5
theorem qKX {w:Wg} {base:Nat} {A:Option Addr} {n cap:Nat} {xs:List Int} (h:OwI w base (.slice A n cap) xs) {k:Nat} (hk:k<=xs.length):OwI w base (.slice A k cap) (xs.take k):=by
 obtain⟨A',cap',hv,_⟩:=qAE h.1;injection hv with h1 h2 h3
 subst h2;refine⟨?_,fun x hx=>h.2 x (zaX hx)⟩;have:=qJS h.1 (k:=k) rfl hk
 simpa[ints,zaE hk] using this
theorem OwI.form {w:Wg} {base:Nat} {v:Wh} {xs:List Int} (h:OwI w base v xs): ∃A cap,v= .slice A xs.length cap/\xs.length<=cap/\cap<=maxLen/\(A=none->cap=0)/\(0<xs.length-> ∃g,A=some ⟨g,0,none⟩/\base<=g/\g<w.heap.size):=qAE h.1
theorem qER {w:Wg} {o:Oper} {a:Act} {K:Act->Wg->Prop} {Q:Exit->Act->Wg->Prop} (s x:Operand)
  (ho:o.op= .call {callee:= .builtin .append,args:= #[s,x],argTypes:= #[37,37]})
  (base:Nat) (v:Wh) (xs:List Int) (aa:OwI w base v xs) (hs:a.eval s=v) (u:Wh) (ys:List Int) (hr:RdI w u ys) (hx:a.eval x=u)
  (hl:xs.length+ys.length<=1099511627776) (au:base<=w.heap.size)
  (h: ∀v' w',OwI w' base v' (xs++ys)->w.grownBy w' v.ownBlock->(v'.ownBlock=v.ownBlock\/v'.ownBlock=some w)->K (a.put o.dst v') w'):
  o.wp Tryz.prog a w K Q:=by
 obtain⟨i0,ci,cB,bi,bQ⟩:=info_parts qEG;obtain⟨A,cap,rfl,hc,hm,hn,hb⟩:=hr.1.cell;rcases A with _ | ad
 ·have h0:ys= []:=zal (by
   rcases za0 ys.length with h0 | h0
   ·exact h0
   ·obtain⟨_,_,h,_⟩:=hb h0;cases h)
  subst h0;obtain rfl:=hn rfl
  have gV:=run_append_owned_none (P:=Tryz.prog) w base 37 o.type 3 i0 1 Tryz.underlying37 ci v xs.length (ints xs) aa.1;unfold Oper.wp execOp;simp only[ho,resolve,invoke,builtin,Sem.run_bind,Sem.run_pure,Result.andThen_ok,zaz,zay,zaN,hs,hx,zba,gV];exact h v w (by simpa using aa) (zbb.refl _ _) (.inl rfl)
 ·obtain⟨v',w',gV,h1,h2,_,h5⟩:=run_append_own_at (P:=Tryz.prog) w base 37 o.type 3 i0 (.int .i64 0) 1 8 Tryz.underlying37 ci cB bi bQ rfl tD v xs.length (ints xs) aa.1 ad ys.length cap (ints ys) tZ (by
   intro j y hj;have jR:j<ys.length:=by simpa using (zaL.1 hj).1
   obtain⟨b,off,Jx,_,aZ⟩:=hb tO;have Jx:=Option.some.inj Jx;subst Jx;rw[Addr.add_lit,aZ j (by simpa using jR),<-hj];simp[jR]) (ints_oneCell _ _) (by unfold maxLen;omega) tO au
  unfold Oper.wp execOp;simp only[ho,resolve,invoke,builtin,Sem.run_bind,Sem.run_pure,Result.andThen_ok,zaz,zay,zaN,hs,hx,gV];exact h v' w' ⟨by simpa[ints] using h1,fun y hy=>by
   rcases zad.1 hy with hy | hy
   ·exact aa.2 y hy
   ·exact hr.2 y hy⟩ h2 h5
theorem qBm {w:Wg} {ops:Array Oper} {rest:List Oper} {o:Oper} {a:Act} {Q:Exit->Act->Wg->Prop} (dq:o.guard=none) (s x:Operand)
  (ho:o.op= .call {callee:= .builtin .append,args:= #[s,x],argTypes:= #[37,37]})
  (base:Nat) (v:Wh) (xs:List Int) (aa:OwI w base v xs) (hs:a.eval s=v) (u:Wh) (ys:List Int) (hr:RdI w u ys) (hx:a.eval x=u)
  (hl:xs.length+ys.length<=1099511627776) (au:base<=w.heap.size)
  (h: ∀v' w',OwI w' base v' (xs++ys)->w.grownBy w' v.ownBlock->(v'.ownBlock=v.ownBlock\/v'.ownBlock=some w)->wpList Tryz.prog ops Q rest (a.put o.dst v') w'):
  wpList Tryz.prog ops Q (o::rest) a w:=
 wpList_plain dq fun _ hK=>qER s x ho base v xs aa hs u ys hr hx hl au fun v' w' h1 h2 h3=>hK _ _ (h v' w' h1 h2 h3)
theorem ql {w:Wg} {ops:Array Oper} {o:Oper} {a:Act} {K:Act->Wg->Prop} {Q:Exit->Act->Wg->Prop} {E:Prop} (dq:o.guard=none) (s x:Operand)
  (ho:o.op= .call {callee:= .builtin .append,args:= #[s,x],argTypes:= #[37,37]})
  (base:Nat) (v:Wh) (xs:List Int) (aa:OwI w base v xs) (hs:a.eval s=v) (u:Wh) (ys:List Int) (hr:RdI w u ys) (hx:a.eval x=u)
  (hl:xs.length+ys.length<=1099511627776) (au:base<=w.heap.size)
  (h: ∀v' w',OwI w' base v' (xs++ys)->w.grownBy w' v.ownBlock->(v'.ownBlock=v.ownBlock\/v'.ownBlock=some w)->K (a.put o.dst v') w'):
  if Region.wanted o (yielded ops a.tmps)=true then Oper.wp Tryz.prog o a w K Q else E:=by
 have hw:Region.wanted o (yielded ops a.tmps)=true:=by simp[Region.wanted,dq]
 rw[Wm hw];exact qER s x ho base v xs aa hs u ys hr hx hl au h
theorem qJM:(Tryz.prog.info? 37).map (fun i=>(i.zero,i.size,i.bytes))=some (some (.slice none 0 0),1,24):=by kernel_rfl
theorem qOW (w:Wg) (vs:List Wh) (hl:vs.length<=1099511627776) {base:Nat} (hb:base<=w.heap.size):(w.alloc (.cells vs.toArray 37)).ownsRow base 37 1 (.slice (some ⟨w,0,none⟩) vs.length vs.length) vs.length vs:=by
 have:=zaq (e:=37) (size:=1) w vs.toArray vs.length hb (by unfold maxLen;omega) tZ
 simpa using this
theorem qh {B base:Nat} {w0 w w1:Wg} {v:Wh} {o:Obj} {e:TypeId} {sz n:Nat} {cs:List Wh} (hb:Wf B w0 w) (hB:B<=w.heap.size) (ho:w.ownsRow base e sz v n cs) (hbB:B<=base) (hg:(w.alloc o).grownBy w1 v.ownBlock):Wf B w0 w1:=
 (hb.alloc hB o).grown hg (by simp;omega) fun k hk=>by have:=ho.lt k hk;omega
structure Tr (a b:Nat) (w w':Wg):Prop where
 os:w'.os=w.os
 tape:w'.tape=w.tape
 output:w'.output=w.output
 size:w.heap.size<=w'.heap.size
 block: ∀k,k<w.heap.size-> ¬(a<=k/\k<b)->w'.heap[k]? =w.heap[k]?
theorem Tr.below {w w':Wg} (h:Wf w w w'):Tr 0 0 w w':=⟨h.os,h.tape,h.output,h.size,fun k hk _=>h.block k hk⟩
theorem Tr.grown {w w':Wg} {row:Option Nat} (h:w.grownBy w' row) {a b:Nat} (hr: ∀k,row=some k->a<=k/\k<b):Tr a b w w':=
 ⟨h.os,h.tape,h.output,h.size,fun k hk hn=>h.block k hk (fun e=>hn (hr k e.symm))⟩
def Loc (O:Wg->Prop) (lo hi:Nat):Prop:= ∀w w':Wg,O w->(∀b,lo<=b->b<hi->w'.heap[b]? =w.heap[b]?)->O w'
structure Ob (O:Wg->Prop) (lo hi:Nat) (w:Wg):Prop where
 holds:O w
 loc:Loc O lo hi
 le:hi<=w.heap.size
theorem ArgI.form {w:Wg} {v:Wh} {xs:List Int} (h:ArgI w v xs): ∃A cap,v= .slice A xs.length cap:=by
 obtain⟨A,cap,hv,_⟩:=h;exact⟨A,cap,hv⟩
theorem Tr.trans {a b:Nat} {w w1 w2:Wg} (h:Tr a b w w1) (t:Tr a b w1 w2):Tr a b w w2:=
 ⟨t.os.trans h.os,t.tape.trans h.tape,t.output.trans h.output,zar h.size t.size,fun k hk hn=>(t.block k (zaj hk h.size) hn).trans (h.block k hk hn)⟩
theorem qII (w:Wg) (p:Addr) (u:Wh) (b:Nat) (h:b≠p.block):(w.setCell p u).heap[b]? =w.heap[b]? :=Below.heap_setCell w p u b h
theorem qFK (w:Wg) (g j:Nat) (u:Wh):w.grownBy (w.setCell ⟨g,j,none⟩ u) (some g):=
 ⟨rfl,rfl,rfl,tZ,fun b _ hb=>qII w _ u b (fun e=>hb (by rw[e]))⟩
def inB (x a b:Int):Bool:=decide (a<=x)&&decide (x<=b)
theorem qm {x a b:Int}:inB x a b=true↔a<=x/\x<=b:=by simp[inB]
def letB (r x:Int):Bool:=(x != 0)&&inB x (wrap64 (-r)) r
theorem qRK {r:Int} (h:inB r 1 3=true):wrap64 (-r)= -r:=by
 have:=qm.1 h
 exact IntWalk.wrap64_in _ ⟨tO,tO⟩
theorem qLG {r x:Int} (h:inB r 1 3=true):letB r x=true↔x≠0/\ -r<=x/\x<=r:=by
 unfold letB;rw[qRK h];simp[qm]
theorem I64.neg {x:Int} (h:I64 x) (h0:x≠ -9223372036854775808):wrap64 (-x)= -x:=by
 unfold I64 at h;exact IntWalk.wrap64_in _ ⟨tO,tO⟩
theorem qi (x a b:Int) (w:Wg):
  Wk Tryz.prog 138 #[.int .i64 x, .int .i64 a, .int .i64 b] w fun e w'=>e= .returned (.bool (inB x a b))/\w=w':=by
 go_enter Tryz.func138,Tryz.ntmps138
 go_wp2
 all_goals go_ret
 all_goals (refine⟨?_,rfl⟩;unfold inB;simp_all)
 omega
theorem qAn (x a b:Int) (w:Wg):
  Wk Tryz.prog 137 #[.int .i64 x, .int .i64 a, .int .i64 b] w fun e w'=>e= .returned (.bool (inB x a b))/\w=w':=by
 go_enter Tryz.func137,Tryz.ntmps137
 go_wp2
 all_goals go_ret
 all_goals (refine⟨?_,rfl⟩;unfold inB;simp_all)
 omega
theorem qBt (r x:Int) (w:Wg):
  Wk Tryz.prog 197 #[.int .i64 r, .int .i64 x] w fun e w'=>e= .returned (.bool (letB r x))/\w=w':=by
 go_enter Tryz.func197,Tryz.ntmps197
 go_wp2_with (go_at_call 137;refine(qAn _ _ _ _).mono ?_;rintro e w' ⟨rfl,rfl⟩)
 all_goals go_ret
 all_goals (refine⟨?_,rfl⟩;unfold letB;simp_all)
def invB (a b:Int):Bool:=(a != 0)&&(a != -9223372036854775808)&&(b== -a)
theorem qBq (a b:Int) (w:Wg) (ha:I64 a):
  Wk Tryz.prog 175 #[.int .i64 a, .int .i64 b] w fun e w'=>e= .returned (.bool (invB a b))/\w=w':=by
 by_cases h1:a= -9223372036854775808
 ·subst h1;go_enter Tryz.func175,Tryz.ntmps175
  go_wp2
  all_goals go_ret
  all_goals (refine⟨?_,rfl⟩;unfold invB;simp_all)
 ·have hn:=I64.neg ha h1;have HN:=qA hn;have US: -9223372036854775808<a:=by unfold I64 at ha;omega
  have V8:a<=9223372036854775807:=ha.2;clear hn ha;go_enter Tryz.func175,Tryz.ntmps175
  go_wp2
  all_goals go_ret
  all_goals (refine⟨?_,rfl⟩;unfold invB;simp_all)
abbrev El (α:Type):=Wg->List Wh->α->List Nat->Prop
def qJO {α:Type} (E:El α):Prop:= ∀w w' cs d F,E w cs d F->(∀b∈F,w'.heap[b]? =w.heap[b]?)->E w' cs d F
def OwLf {α:Type} (E:El α) (t:TypeId) (width:Nat) (w:Wg) (v:Wh) (ds:List α) (F:List Nat):Prop:=
 ∃es:List (List Wh×α×List Nat),es.map (·.2.1)=ds/\(∀e∈es,e.1.length=width/\E w e.1 e.2.1 e.2.2)/\
  w.ownsRow 0 t width v es.length (es.map (·.1)).flatten/\F=v.ownBlock.toList++(es.map (·.2.2)).flatten
theorem qBv {w w':Wg} {base:Nat} {e:TypeId} {sz n:Nat} {v:Wh} {cs:List Wh} (h:w.ownsRow base e sz v n cs) (hb: ∀b,v.ownBlock=some b->w'.heap[b]? =w.heap[b]?):w'.ownsRow base e sz v n cs:=by
 refine⟨h.1,?_⟩;rcases h.2 with h0 | ⟨g,cap,cur,hv,hg,hh,r⟩
 ·exact .inl h0
 ·exact .inr ⟨g,cap,cur,hv,hg,by rw[hb g (by rw[hv];rfl)];exact hh,r⟩
theorem OwLf.stable {α:Type} {E:El α} (hE:qJO E) {t:TypeId} {width:Nat} {w w':Wg} {v:Wh} {ds:List α} {F:List Nat}
  (h:OwLf E t width w v ds F) (hb: ∀b∈F,w'.heap[b]? =w.heap[b]?):OwLf E t width w' v ds F:=by
 obtain⟨es,h1,h2,h3,rfl⟩:=h;refine⟨es,h1,fun e he=>⟨(h2 e he).1,hE _ _ _ _ _ (h2 e he).2 fun b kF=>hb b ?_⟩,qBv h3 fun b hv=>hb b ?_,rfl⟩
 ·refine zad.2 (.inr (zaA.2 ⟨e.2.2,zaO.2 ⟨e,he,rfl⟩,kF⟩))
 ·refine zad.2 (.inl ?_);rw[hv];simp
def OwnL {α:Type} (E:El α) (t:TypeId) (width:Nat) (lo hi:Nat) (w:Wg) (v:Wh) (ds:List α):Prop:=
 ∃F,OwLf E t width w v ds F/\F.Nodup/\ ∀b∈F,lo<=b/\b<hi
section
variable {α:Type} {E:El α} {t:TypeId} {width:Nat} {w w' w1 w2:Wg} {v v':Wh} {ds:List α} {lo hi:Nat}
theorem OwnL.keep (h:OwnL E t width lo hi w v ds) (hE:qJO E) (hb: ∀b,lo<=b->b<hi->w'.heap[b]? =w.heap[b]?):OwnL E t width lo hi w' v ds:=by
 obtain⟨F,h1,h2,h3⟩:=h;exact⟨F,h1.stable hE fun b hbF=>hb b (h3 b hbF).1 (h3 b hbF).2,h2,h3⟩
theorem OwnL.widen (h:OwnL E t width lo hi w v ds) {lo' dB:Nat} (h1:lo'<=lo) (h2:hi<=dB):OwnL E t width lo' dB w v ds:=by
 obtain⟨F,a,b,c⟩:=h;exact⟨F,a,b,fun x hx=>⟨zar h1 (c x hx).1,zaj (c x hx).2 h2⟩⟩
theorem OwnL.len (h:OwnL E t width lo hi w v ds): ∃A cap,v= .slice A ds.length cap/\ds.length<=cap/\cap<=maxLen/\(A=none->cap=0)/\(0<ds.length-> ∃g,A=some ⟨g,0,none⟩/\lo<=g/\g<hi):=by
 obtain⟨F,⟨es,h1,h2,h3,rfl⟩,_,hF⟩:=h;have hl:es.length=ds.length:=by rw[<-h1];simp
 rw[hl] at h3;obtain⟨A,cap,hv,a,b,c,d⟩:=qAE h3;refine⟨A,cap,hv,a,b,c,fun h0=> ?_⟩;obtain⟨g,hA,_,_⟩:=d h0;exact⟨g,hA,hF g (by rw[hv,hA];simp[zaG])⟩
theorem OwnL.nil (hv:w.ownsRow 0 t width v 0 []) (hb: ∀b,v.ownBlock=some b->lo<=b/\b<hi):OwnL E t width lo hi w v []:=by
 refine⟨v.ownBlock.toList,⟨[],rfl,(fun e he=>by cases he),by simpa using hv,tZ⟩,?_,fun b aL=> ?_⟩
 ·cases v.ownBlock<;>simp
 ·exact hb b (by simpa using aL)
theorem OwnL.push (hE:qJO E) (h:OwnL E t width lo w w v ds) (ab:Wf w w w1) {cs:List Wh} {d:α} {Fe:List Nat} (iQ:E w1 cs d Fe) (l8:cs.length=width)
  (eL:Fe.Nodup) (hFe: ∀b∈Fe,w.heap.size<=b/\b<w1.heap.size) (iy:lo<=w.heap.size)
  (happ: ∀es:List (List Wh),w1.ownsRow 0 t width v ds.length es.flatten->w2.ownsRow 0 t width v' (ds.length+1) (es.flatten++cs)) (hg:w1.grownBy w2 v.ownBlock)
  (dY:v'.ownBlock=v.ownBlock\/v'.ownBlock=some w1) (ac: ∀b,v'.ownBlock=some b->b<w2.heap.size):OwnL E t width lo w2 w2 v' (ds++ [d]):=by
 obtain⟨F,⟨es,h1,h2,h3,rfl⟩,zc,hF⟩:=h;have ar:=ab.size;have nN:=hg.size;have hl:es.length=ds.length:=by rw[<-h1];simp
 have rU: ∀b,v.ownBlock=some b->lo<=b/\b<w.heap.size:=fun b hb=>hF b (by rw[hb];simp);have dx: ∀e∈es,∀b∈e.2.2,b∈(es.map (·.2.2)).flatten:=fun e he b hb=>zaA.2 ⟨e.2.2,zaO.2 ⟨e,he,rfl⟩,hb⟩;have n5: ∀b∈(es.map (·.2.2)).flatten,some b≠v.ownBlock:=by
  intro b hb hv;rw[<-hv] at zc;simp at zc
  obtain⟨h,_⟩:=zc;obtain⟨l,ri,cX⟩:=zaA.1 hb;obtain⟨e,he,rfl⟩:=zaO.1 ri;obtain⟨a1,a2,a3⟩:=e;exact h a3 a1 a2 he cX
 refine⟨v'.ownBlock.toList++((es.map (·.2.2)).flatten++Fe),⟨es++ [(cs,d,Fe)],by simp[h1],?_,?_,tZ⟩,?_,?_⟩
 ·intro e he;rcases zad.1 he with he | he
  ·refine⟨(h2 e he).1,hE _ _ _ _ _ (h2 e he).2 fun b hb=> ?_⟩;have cT:=(hF b (zad.2 (.inr (dx e he b hb)))).2;rw[hg.block b tO (n5 b (dx e he b hb)),ab.block b cT]
  ·simp at he
   subst he;refine⟨l8,hE _ _ _ _ _ iQ fun b hb=>hg.block b (hFe b hb).2 fun hv=> ?_⟩;have:=rU b hv.symm
   have:=hFe b hb
   omega
 ·have Qa:=happ (es.map (·.1)) (by rw[hl] at h3;exact qBv h3 fun b hb=>ab.block b (rU b hb).2);simpa[hl] using Qa
 ·have n1:((es.map (·.2.2)).flatten).Nodup:=(zaI.1 zc).2.1;have n2:((es.map (·.2.2)).flatten++Fe).Nodup:=by
   refine zaI.2 ⟨n1,eL,fun a ha b hb gq=> ?_⟩;have:=(hF a (zad.2 (.inr ha))).2
   have:=(hFe b hb).1
   omega
  refine zaI.2 ⟨?_,n2,fun a ha b hb gq=> ?_⟩
  ·cases v'.ownBlock<;>simp
  ·subst gq;have nB:v'.ownBlock=some a:=by simpa using ha
   rcases dY with dY | dY
   ·rw[dY] at nB;rcases zad.1 hb with hb | hb
    ·exact n5 a hb nB.symm
    ·have:=rU a nB;have:=hFe a hb;omega
   ·rw[dY] at nB;injection nB with nB
    rcases zad.1 hb with hb | hb
    ·have:=(hF a (zad.2 (.inr hb))).2;omega
    ·have:=hFe a hb;omega
 ·intro b hb;rcases zad.1 hb with hb | hb
  ·have aL:v'.ownBlock=some b:=by simpa using hb
   refine⟨?_,ac b aL⟩;rcases dY with dY | dY
   ·rw[dY] at aL;exact(rU b aL).1
   ·rw[dY] at aL;injection aL with aL;omega
  ·rcases zad.1 hb with hb | hb
   ·have:=hF b (zad.2 (.inr hb));omega
   ·have:=hFe b hb;omega
theorem OwnL.lt {b:Nat} (h:OwnL E t width lo hi w v ds) (hb:v.ownBlock=some b):lo<=b/\b<hi:=by
 obtain⟨F,⟨es,h1,h2,h3,rfl⟩,zc,hF⟩:=h;exact hF b (by rw[hb];simp)
end
theorem qPN {α:Type} {E:El α} (hE:qJO E) {t ts:TypeId} {ti:TypeInfo} {z:Wh} {width bytes lo:Nat} {w0 w:Wg} {v:Wh} {ds:List α} {ops:Array Oper} {rest:List Oper} {o:Oper} {a:Act} {Q:Exit->Act->Wg->Prop} (dq:o.guard=none) (s x:Operand)
  (ho:o.op= .call {callee:= .builtin .append,args:= #[s,x],argTypes:= #[ts,ts]})
  (ht:Tryz.prog.underlying ts=some (.slice t)) (hi:Tryz.prog.info? t=some ti) (hz:ti.zero=some z) (hsize:ti.size=width) (ui:ti.bytes=bytes) (hzs:z.cells.size=width) (ar:0<width) (tY:bytes<=128)
  (aa:OwnL E t width lo w0 w0 v ds) (iy:lo<=w0.heap.size) (ab:Wf w0 w0 w) (hs:a.eval s=v) (b:Nat) (cs:List Wh) (d:α) (Fe:List Nat) (hx:a.eval x= .slice (some ⟨b,0,none⟩) 1 1)
  (iQ:E w cs d Fe) (iz:cs.length=width) (eL:Fe.Nodup) (hFe: ∀b∈Fe,w0.heap.size<=b/\b<w.heap.size) (hc: ∀j u,cs[j]? =some u->w.cell? ⟨b,j,none⟩=some u) (h1: ∀u∈cs,u.oneCell'=true) (hl:ds.length<=1073741824)
  (h: ∀v' w',OwnL E t width lo w'.heap.size w' v' (ds++ [d])->w.grownBy w' v.ownBlock->wpList Tryz.prog ops Q rest (a.put o.dst v') w'):
  wpList Tryz.prog ops Q (o::rest) a w:=by
 have As:=aa;obtain⟨F,⟨es,e1,e2,e3,rfl⟩,zc,hF⟩:=As;have ze:es.length=ds.length:=by rw[<-e1];simp
 rw[ze] at e3;have bD:=qBv e3 (w':=w) fun b hb=>ab.block b (aa.lt hb).2;refine wpList_append_own_at _ dq s x ts ho 0 t ti z width bytes ht hi hz hsize ui hzs ar v ds.length _ hs bD ⟨b,0,none⟩ 1 1 cs hx tO ?_ h1 (by unfold maxLen;omega) ?_ (zah _) ?_
 ·intro j u hj;have e:(⟨b,0,none⟩:Addr).add j=⟨b,j,none⟩:=by simp[Addr.add];intro h;exact h.symm
  rw[e];exact hc j u hj
 ·calc (ds.length+1)*bytes<=1073741825*128:=Nat.mul_le_mul tO tY
   _<=140737488355328:=by decide
 ·intro v' w' h2 h3 _ h5;refine h v' w' (OwnL.push hE aa ab iQ iz eL hFe iy ?_ h3 h5 fun b hb=>(h2.lt b hb).2) h3;intro es' mh;obtain⟨v2,w2,q⟩: ∃v2 w2,v2=v'/\w2=w':=⟨_,_,rfl,rfl⟩;have DP:es'.flatten=(es.map (·.1)).flatten:=by
   rcases mh.2 with ⟨hv,hn⟩ | ⟨g,c,cur,hv,_,hh,_,_,_,ko⟩
   ·have q1:=mh.1;have q2:=bD.1;rw[hn,Nat.zero_mul] at q1 q2;rw[zal q1,zal q2]
   ·rcases bD.2 with ⟨kC,_⟩ | ⟨g',c',cur',kC,_,hh',_,_,_,hcur'⟩
    ·rw[hv] at kC;cases kC
    ·rw[hv] at kC;injection kC with q1
     injection q1 with q1
     injection q1 with q1
     subst q1;rw[hh] at hh';injection hh' with q2
     injection q2 with q2
     subst q2;rw[<-ko,<-hcur']
  rw[DP];exact h2
theorem qEJ (w:Wg) (z:Int) (hz:I64 z):RdI (w.alloc (.cells #[.int .i64 z] 3)) (.slice (some ⟨w,0,none⟩) 1 1) [z]:=
 (qp w [z] (fun x hx=>by simp at hx;subst hx;exact hz) tZ (zaa _)).rd
def EI:El (List Int):=fun w cs d F=> ∃s,cs= [s]/\OwI w 0 s d/\F=s.ownBlock.toList
theorem EI.stable:qJO EI:=by
 rintro w w' cs d F ⟨s,rfl,ho,rfl⟩ hb;exact⟨s,rfl,⟨qBv ho.1 fun b h=>hb b (by rw[h];simp),ho.2⟩,rfl⟩
theorem EI.of {w:Wg} {s:Wh} {xs:List Int} {base:Nat} (h:OwI w base s xs):EI w [s] xs s.ownBlock.toList:=⟨s,rfl,h.mono (zah _),rfl⟩
abbrev OwII (lo hi:Nat) (v:Wh) (L:List (List Int)) (w:Wg):Prop:=OwnL EI 37 1 lo hi w v L
theorem qOb (w:Wg) {lo:Nat} (h:lo<=w.heap.size):OwII lo (w.heap.size+1) (.slice (some ⟨w,0,none⟩) 0 0) [] (w.alloc (.cells #[] 37)):=by
 refine OwnL.nil ?_ fun b hb=> ?_
 ·have:=zaq (e:=37) (size:=1) (base:=0) w #[] 0 (zah _) (by unfold maxLen;omega) tZ
  simpa using this
 ·simp[zaG] at hb;omega
theorem qJg (es:List (List Wh×List Int×List Nat)) (h: ∀e∈es,e.1.length=1):((es.map (·.1)).flatten).length=es.length/\ ∀i (hi:i<es.length) (dB:i<((es.map (·.1)).flatten).length),es[i].1= [((es.map (·.1)).flatten)[i]]:=by
 induction es with
 | nil=>exact⟨rfl,fun i hi=>by simp at hi⟩
 | cons e es ih=>
   have he:=h e tZ;obtain⟨x,hx⟩: ∃x,e.1= [x]:=by
    match hh:e.1 with
    | []=>rw[hh] at he;simp at he
    | [x]=>exact⟨x,rfl⟩
    | a::b::l=>rw[hh] at he;simp at he
   obtain⟨i1,i2⟩:=ih fun e' mh=>h e' (by simp[mh]);have e3:((e::es).map (·.1)).flatten=x::(es.map (·.1)).flatten:=by simp[hx]
   refine⟨by rw[e3];simp[i1],fun i hi dB=> ?_⟩;match i with
   | 0=>simp[e3,hx]
   | j+1=>
     have:=i2 j (by simpa using hi) (by simp[i1];simpa using hi)
     simp only[e3,List.getElem_cons_succ];exact this
theorem OwII.rd {lo hi:Nat} {v:Wh} {L:List (List Int)} {w:Wg} (h:OwII lo hi v L w):RdII w v L:=by
 obtain⟨F,⟨es,h1,h2,h3,rfl⟩,_,_⟩:=h;have hl:es.length=L.length:=by rw[<-h1];simp
 rw[hl] at h3;obtain⟨f1,f2⟩:=qJg es fun e he=>(h2 e he).1;refine⟨(es.map (·.1)).flatten,by rw[f1,hl],RdV.of_own h3,fun i hi dB=> ?_⟩;have F7:i<es.length:=tO;obtain⟨s,hs,ho,_⟩:=(h2 es[i] tZ).2;have e:=f2 i F7 dB;rw[hs] at e;injection e with e
 rw[<-e];have e2:es[i].2.1=L[i]:=by simp[<-h1]
 rw[<-e2];exact ho.rd
theorem qMM {lo:Nat} {w0 w:Wg} {v:Wh} {L:List (List Int)} {ops:Array Oper} {rest:List Oper} {o:Oper} {a:Act} {Q:Exit->Act->Wg->Prop} (dq:o.guard=none) (s x:Operand)
  (ho:o.op= .call {callee:= .builtin .append,args:= #[s,x],argTypes:= #[69,69]})
  (aa:OwII lo w0 v L w0) (iy:lo<=w0.heap.size) (ab:Wf w0 w0 w) (hs:a.eval s=v) (b:Nat) (z:Wh) (d:List Int) {base:Nat} (hx:a.eval x= .slice (some ⟨b,0,none⟩) 1 1)
  (iQ:OwI w base z d) (au:w0.heap.size<=base) (hc:w.cell? ⟨b,0,none⟩=some z) (hz:z.oneCell'=true) (hl:L.length<=1073741824)
  (h: ∀v' w',OwII lo w'.heap.size v' (L++ [d]) w'->w.grownBy w' v.ownBlock->wpList Tryz.prog ops Q rest (a.put o.dst v') w'):
  wpList Tryz.prog ops Q (o::rest) a w:=by
 obtain⟨i0,ci,cB,bi,bQ⟩:=info_parts qJM;refine qPN EI.stable dq s x ho Tryz.underlying69 ci cB bi bQ rfl tD tD aa iy ab hs b [z] d _ hx (EI.of iQ) rfl ?_ ?_ ?_ ?_ hl h
 ·cases z.ownBlock<;>simp
 ·intro k hk;have:=iQ.1.lt k (by simpa using hk)
  omega
 ·intro j u hj;match j,hj with
  | 0,hj=>simp at hj;subst hj;exact hc
 ·intro u hu;simp at hu;subst hu;exact hz
theorem qLZ {w:Wg} {u v t:Wh} {xs ys zs:List Int} (h:RdI w u xs) (h':RdI w v ys) (h'':RdI w t zs):RdII (w.alloc (.cells #[u,v,t] 37)) (.slice (some ⟨w,0,none⟩) 3 3) [xs,ys,zs]:=by
 have hr:=zaq (e:=37) (size:=1) (base:=0) w #[u,v,t] 3 (zah _) (by unfold maxLen;omega) tZ;refine⟨[u,v,t],rfl,RdV.of_own (by simpa using hr),fun i hi dB=> ?_⟩;match i,hi with
 | 0,_=>exact h.alloc _
 | 1,_=>exact h'.alloc _
 | 2,_=>exact h''.alloc _
def ArgC (w:Wg) (v:Wh) (cs:List Int):Prop:=
 ∃A cap,v= .slice A cs.length cap/\cs.length<=cap/\cap<=maxLen/\(∀x∈cs,0<=x/\x<=255)/\
  (0<cs.length-> ∃b off,A=some ⟨b,off,none⟩/\ ∀i (hi:i<cs.length),w.cell? ⟨b,off+i,none⟩=some (.int .u8 cs[i]))
structure Cur (p:Nat) (A:Option Addr) (cap:Nat) (cs:List Int) (w:Wg):Prop where
 c0:w.cell? ⟨p,0,none⟩=some (.slice A cs.length cap)
 c1: ∃i:Nat,i<=cs.length/\w.cell? ⟨p,1,none⟩=some (.int .i64 i)
 c2: ∃h:Int,w.cell? ⟨p,2,none⟩=some (.int .i64 h)
 fz: ∀j,w.frozen? ⟨p,j,none⟩=false
 lt:p<w.heap.size
 len:cs.length<=1048576
 by_: ∀x∈cs,0<=x/\x<=255
 at_:0<cs.length-> ∃b off,A=some ⟨b,off,none⟩/\b≠p/\b<w.heap.size/\ ∀i (hi:i<cs.length),w.cell? ⟨b,off+i,none⟩=some (.int .u8 cs[i])
theorem Cur.tr {p:Nat} {A:Option Addr} {cap lo hi:Nat} {cs:List Int} {w w':Wg} (h:Cur p A cap cs w) (ht:Tr lo hi w w') (hp: ¬(lo<=p/\p<hi)) (hA:0<cs.length-> ∀b off,A=some ⟨b,off,none⟩-> ¬(lo<=b/\b<hi)):Cur p A cap cs w':=by
 have hk:w'.heap[p]? =w.heap[p]? :=ht.block p h.lt hp;refine⟨(zaf (w:=w) hk).trans h.c0,?_,?_,fun j=>(zaT (w:=w) hk).trans (h.fz j),zaj h.lt ht.size,h.len,h.by_,fun h0=> ?_⟩
 ·obtain⟨i,hi,hc⟩:=h.c1;exact⟨i,hi,(zaf (w:=w) hk).trans hc⟩
 ·obtain⟨i,hc⟩:=h.c2;exact⟨i,(zaf (w:=w) hk).trans hc⟩
 ·obtain⟨b,off,rD,hb,ac,hc⟩:=h.at_ h0;exact⟨b,off,rD,hb,zaj ac ht.size,fun i hi=>(zaf (w:=w) (ht.block b ac (hA h0 b off rD))).trans (hc i hi)⟩
theorem Cur.below {p:Nat} {A:Option Addr} {cap:Nat} {cs:List Int} {w w':Wg} (h:Cur p A cap cs w) (hb:Wf w w w'):Cur p A cap cs w':=
 h.tr (lo:=0) (hi:=0) (Tr.below hb) tO fun _ _ _ _=>tO
theorem Cur.new {p:Nat} {A:Option Addr} {cap:Nat} {cs:List Int} {w0 w w':Wg} {row:Option Nat} (h:Cur p A cap cs w) (h0:Cur p A cap cs w0) (hg:w.grownBy w' row) (bD: ∀b,row=some b->w0.heap.size<=b):Cur p A cap cs w':=by
 have hk:w'.heap[p]? =w.heap[p]? :=hg.block p h.lt fun e=>by have:=bD p e.symm;have:=h0.lt;omega
 refine⟨(zaf (w:=w) hk).trans h.c0,?_,?_,fun j=>(zaT (w:=w) hk).trans (h.fz j),zaj h.lt hg.size,h.len,h.by_,fun hl=> ?_⟩
 ·obtain⟨i,hi,hc⟩:=h.c1;exact⟨i,hi,(zaf (w:=w) hk).trans hc⟩
 ·obtain⟨i,hc⟩:=h.c2;exact⟨i,(zaf (w:=w) hk).trans hc⟩
 ·obtain⟨b,off,rD,hb,ac,hc⟩:=h.at_ hl;obtain⟨b0,Q9,wA,_,Uf,_⟩:=h0.at_ hl;rw[rD] at wA;injection wA with e
  injection e with e1 e2
  subst e1;exact⟨b,off,rD,hb,zaj ac hg.size,fun i hi=>(zaf (w:=w) (hg.block b ac fun e=>by have:=bD b e.symm;omega)).trans (hc i hi)⟩
theorem OwI.trP {p base:Nat} {w w':Wg} {v:Wh} {xs:List Int} (h:OwI w base v xs) (ht:Tr p (p+1) w w') (hp:p<base):OwI w' base v xs:=
 ⟨qBv h.1 fun b hb=>ht.block b (h.1.lt b hb).2 (by have:=(h.1.lt b hb).1;omega),h.2⟩
theorem Tr.grow2 {a b:Nat} {w w1 w2:Wg} {row:Option Nat} (h:Tr a b w w1) (hg:w1.grownBy w2 row) (bD: ∀c,row=some c->w.heap.size<=c):Tr a b w w2:=
 ⟨hg.os.trans h.os,hg.tape.trans h.tape,hg.output.trans h.output,zar h.size hg.size,fun k hk hn=>(hg.block k (zaj hk h.size) fun e=>by have:=bD k e.symm;omega).trans (h.block k hk hn)⟩
theorem Tr.bel2 {a b:Nat} {w w1 w2:Wg} (h:Tr a b w w1) (hb:Wf w1 w1 w2):Tr a b w w2:=
 ⟨hb.os.trans h.os,hb.tape.trans h.tape,hb.output.trans h.output,zar h.size hb.size,fun k hk hn=>(hb.block k (zaj hk h.size)).trans (h.block k hk hn)⟩
theorem Tr.set1 {p j:Nat} {w w1:Wg} (h:Tr p (p+1) w w1) (v:Wh):Tr p (p+1) w (w1.setCell ⟨p,j,none⟩ v):=
 h.trans (Tr.grown (qFK w1 p j _) fun b hb=>by cases hb;omega)
theorem qPn (E:Int):0<=bits .and .i64 E 255/\bits .and .i64 E 255<=255:=by
 unfold bits;have h:(BitVec.ofInt 64 E&&& BitVec.ofInt 64 255).toNat<=255:=by
  rw[BitVec.toNat_and];exact zar Nat.and_le_right tD
 have e:IntKind.i64.wrap ((BitVec.ofInt 64 E&&& BitVec.ofInt 64 255).toNat:Int)=((BitVec.ofInt 64 E&&& BitVec.ofInt 64 255).toNat:Int):=by rw[IntKind.wrap_i64];omega
 show 0<=IntKind.i64.wrap ((BitVec.ofInt 64 E&&& BitVec.ofInt 64 255).toNat:Int)/\IntKind.i64.wrap ((BitVec.ofInt 64 E&&& BitVec.ofInt 64 255).toNat:Int)<=255
 rw[e];omega
theorem qMA (p:Nat) (A:Option Addr) (cap:Nat) (cs:List Int) (w:Wg) (h:Cur p A cap cs w):
  Wk Tryz.prog 224 #[.pointer (some ⟨p,0,none⟩)] w fun e w'=> ∃n:Int,e= .returned (.int .i64 n)/\(0<=n/\n<=255)/\Cur p A cap cs w'/\Tr p (p+1) w w':=by
 have H:=qA h;have c0:=h.c0;obtain⟨i,hi,c1⟩:=h.c1;obtain⟨x,c2⟩:=h.c2;have fz:=h.fz;have aM:=h.len;have hp:=h.lt;have xP:=qA h.by_;have iF:=qA h.at_;clear h;go_enter Tryz.func224,Tryz.ntmps224
 go_wp2;generalize hx:wrap64 (wrap64 (x*6364136223846793005)+1442695040888963407)=x1;clear hx;obtain⟨W1,aq⟩: ∃W1:Wg,W1=w.setCell ⟨p,2,none⟩ (.int .i64 x1):=⟨_,rfl⟩;have d0:W1.cell? ⟨p,0,none⟩=some (.slice A cs.length cap):=by rw[aq];simp[go_sem,c0]
 have d1:W1.cell? ⟨p,1,none⟩=some (.int .i64 i):=by rw[aq];simp[go_sem,c1]
 have d2:W1.cell? ⟨p,2,none⟩=some (.int .i64 x1):=by rw[aq];simp[go_sem,c2]
 have df: ∀j,W1.frozen? ⟨p,j,none⟩=false:=fun j=>by rw[aq];simp[go_sem,fz]
 have T1:Wi (Tr p (p+1) w W1):=qA (by rw[aq];exact Tr.grown (qFK w p 2 _) fun b hb=>by cases hb;omega);have aE:W1.heap.size=w.heap.size:=by rw[aq];simp
 have gu:=qA aE;rw[<-aq];have Bc:Wi (∀W',Tr p (p+1) w W'->(0<cs.length-> ∃b off,A=some ⟨b,off,none⟩/\b≠p/\b<W'.heap.size/\ ∀i (hi:i<cs.length),W'.cell? ⟨b,off+i,none⟩=some (.int .u8 cs[i]))):=qA fun W' ht h0=>by
  obtain⟨b,off,hA,hb,cX,hc⟩:=iF.o h0;exact⟨b,off,hA,hb,zaj cX ht.size,fun i hi=>(zaf (w:=w) (ht.block b cX tO)).trans (hc i hi)⟩
 clear aq c0 c1 c2 fz aE;go_quiet (fail)
 obtain⟨y0,y1⟩:=qPn (bits .xor .i64 (x1/8589934592) (x1/35184372088832));generalize bits .and .i64 (bits .xor .i64 (x1/8589934592) (x1/35184372088832)) 255=y at*;generalize bits .xor .i64 (x1/8589934592) (x1/35184372088832)=y2 at*;by_cases ac:i<cs.length
 ·obtain⟨b,off,rfl,hb,cX,hc⟩:=iF.o tO;have am:W1.cell? ⟨b,off+i,none⟩=some (.int .u8 cs[i]):=(zaf (w:=w) (T1.block b cX tO)).trans (hc i ac);have hx:=xP.o _ (zaP ac);have hI:(i:Int)<(cs.length:Int):=tO;have ci:(0:Int)<=(i:Int):=tO;generalize cs[i]=z at*;have jr:IntKind.i64.wrap z=z:=by rw[IntKind.wrap_i64];omega
  clear hc;go_wp2;go_quiet (fail)
  go_wp2;go_quiet (fail)
  obtain⟨u0,u1⟩:=qPn (y+z);generalize bits .and .i64 (y+z) 255=u at*;have BR:IntKind.i64.wrap ((i:Int)+1)=((i+1:Nat):Int):=by rw[IntKind.wrap_i64];omega
  go_wp2;refine Wj (v:= .int .i64 u) (by simp[results,Tryz.results224,go_sem]) rfl ⟨u,rfl,⟨u0,u1⟩,?_,?_⟩
  ·refine⟨by simp[go_sem,d0],⟨i+1,ac,by simp[go_sem,d1]⟩,⟨x1,by simp[go_sem,d2]⟩,fun j=>by simp[go_sem,df],?_,aM,xP.o,Bc.o _ ?_⟩
   ·have:=gu.o;simp;omega
   ·first | exact(T1.o.set1 _).bel2 (qC (zab _ _) _) | exact(T1.o.bel2 (qC (zab _ _) _)).set1 _ | exact(T1.o.set1 _).bel2 (qC (qC (zab _ _) _) _) | exact(T1.o.bel2 (qC (qC (zab _ _) _) _)).set1 _ | exact(T1.o.set1 _).bel2 (qC (qC (qC (zab _ _) _) _) _) | exact(T1.o.bel2 (qC (qC (qC (zab _ _) _) _) _)).set1 _
  ·first | exact(T1.o.set1 _).bel2 (qC (zab _ _) _) | exact(T1.o.bel2 (qC (zab _ _) _)).set1 _ | exact(T1.o.set1 _).bel2 (qC (qC (zab _ _) _) _) | exact(T1.o.bel2 (qC (qC (zab _ _) _) _)).set1 _ | exact(T1.o.set1 _).bel2 (qC (qC (qC (zab _ _) _) _) _) | exact(T1.o.bel2 (qC (qC (qC (zab _ _) _) _) _)).set1 _
 ·have hI: ¬(i:Int)<(cs.length:Int):=tO;go_wp2;go_quiet (fail)
  go_wp2;refine Wj (v:= .int .i64 y) (by simp[results,Tryz.results224,go_sem]) rfl ⟨y,rfl,⟨y0,y1⟩,?_,?_⟩
  ·refine⟨by simp[go_sem,d0],⟨i,hi,by simp[go_sem,d1]⟩,⟨x1,by simp[go_sem,d2]⟩,fun j=>by simp[go_sem,df],?_,aM,xP.o,Bc.o _ ?_⟩
   ·have:=gu.o;simp;omega
   ·exact T1.o.bel2 (qC (qC (zab _ _) _) _)
  ·exact T1.o.bel2 (qC (qC (zab _ _) _) _)
theorem qAC (p:Nat) (A:Option Addr) (cap:Nat) (cs:List Int) (n:Int) (w:Wg) (h:Cur p A cap cs w) (iS:0<n) (hn:n<=256):
  Wk Tryz.prog 184 #[.pointer (some ⟨p,0,none⟩), .int .i64 n] w fun e w'=> ∃x:Int,e= .returned (.int .i64 x)/\(0<=x/\x<n)/\Cur p A cap cs w'/\Tr p (p+1) w w':=by
 have H:=qA h;have h1: ¬n<=0:=tO;have h2: ¬n=0:=tO;clear h;go_enter Tryz.func184,Tryz.ntmps184
 go_wp2_with (go_at_call 224;(with_reducible refine(qMA p A cap cs _ H.o).mono ?_);rintro e w1 ⟨y,rfl,⟨y0,y1⟩,c1,t1⟩;have C1:=qA c1;have T1:=qA t1;clear c1 t1)
 exact Wj (v:= .int .i64 (y%n)) (by simp[results,Tryz.results184,go_sem]) rfl ⟨y%n,rfl,⟨Int.emod_nonneg _ h2,Int.emod_lt_of_pos _ iS⟩,C1,T1⟩
theorem qEL (p:Nat) (A:Option Addr) (cap:Nat) (cs:List Int) (n:Int) (w:Wg) (h:Cur p A cap cs w) (iS:0<n) (hn:n<=256):
  Wk Tryz.prog 134 #[.pointer (some ⟨p,0,none⟩), .int .i64 n] w fun e w'=> ∃x:Bool,e= .returned (.bool x)/\Cur p A cap cs w'/\Tr p (p+1) w w':=by
 have H:=qA h;clear h;go_enter Tryz.func134,Tryz.ntmps134
 go_wp2_with (go_at_call 184;(with_reducible refine(qAC p A cap cs n _ H.o iS hn).mono ?_);rintro e w1 ⟨y,rfl,_,c1,t1⟩;have C1:=qA c1;have T1:=qA t1;clear c1 t1)
 exact Wj (v:= .bool (y==0)) (by simp[results,Tryz.results134,go_sem]) rfl ⟨_,rfl,C1,T1⟩
theorem qBB (p:Nat) (A:Option Addr) (cap:Nat) (cs:List Int) (v:Wh) (L:List Int) (w:Wg) (h:Cur p A cap cs w) (hL:RdI w v L) (hv:v.ownBlock≠some p) (iS:0<L.length) (hn:L.length<=256):
  Wk Tryz.prog 196 #[.pointer (some ⟨p,0,none⟩),v] w fun e w'=> ∃x:Int,e= .returned (.int .i64 x)/\x∈L/\Cur p A cap cs w'/\Tr p (p+1) w w':=by
 have H:=qA h;have HL:=qA hL;obtain⟨A1,c1,rfl,_⟩:=hL.arg;have kC: ∀b off,A1=some ⟨b,off,none⟩->b≠p:=fun b off e hb=>by subst e;subst hb;exact hv rfl
 have HV:=qA kC;clear h hL hv kC;go_enter Tryz.func196,Tryz.ntmps196
 go_wp2_with fail;refine(qAC p A cap cs L.length _ H tO tO).mono ?_
 rintro e w1 ⟨y,rfl,⟨y0,y1⟩,jD,t1⟩;have C1:=qA jD;have T1:=qA t1;have jo:Wi (RdI w1 (.slice A1 L.length c1) L):=qA ⟨HL.o.1.mono fun b hb ac=>t1.block b ac (by
  cases A1 with
  | none=>cases hb
  | some a=>
    obtain⟨b',o',s'⟩:=a;have:b'=b:=by simpa[zaG] using hb
    subst this;obtain⟨_,_,hA,_⟩:=HL.o.at iS;injection hA with hA
    injection hA with _ _ hs
    subst hs;have:=HV.o b' o' rfl
    omega),HL.o.2⟩
 clear jD t1;obtain⟨k,rfl⟩: ∃k:Nat,y=k:=⟨y.toNat,tO⟩;have hk:k<L.length:=tO;obtain⟨b,off,rfl,cX,hc⟩:=jo.o.at iS;have am:=hc k hk;have HM:=qA (zaP hk);clear hc;generalize L[k]=z at*;go_wp2;exact Wj (v:= .int .i64 z) (by simp[results,Tryz.results196,go_sem]) rfl ⟨z,rfl,HM,C1,T1⟩
theorem OwI.any2 {w:Wg} {base:Nat} {v:Wh} {xs:List Int} (h:OwI w base v xs): ∃A m cap,v= .slice A m cap:=by
 obtain⟨A,cap,hv,_⟩:=h.form;exact⟨A,_,cap,hv⟩
theorem qKS {w:Wg} {b o:Nat} {v:Wh} (h:w.cell? ⟨b,o,none⟩=some v):b<w.heap.size:=by
 rcases zaZ b w.heap.size with h' | h'
 ·exact h'
 ·simp[World.cell?,zap h'] at h
theorem qGq (v:Wh) (cs:List Int) (w:Wg) (h:ArgC w v cs) (hl:cs.length<=1048576):
  Wk Tryz.prog 92 #[v] w fun e w'=> ∃p A cap,e= .returned (.pointer (some ⟨p,0,none⟩))/\Cur p A cap cs w'/\w.heap.size<=p/\Wf w w w':=by
 obtain⟨A,cap,rfl,aR,hm,ui,dY⟩:=h;have xP:=qA ui;have iF:=qA dY;unfold maxLen at hm;clear ui dY;go_enter Tryz.func92,Tryz.ntmps92
 go_wp2;go_loop [3,4] (fun hv i=> ∃(k:Nat) (x:Int),k<=cs.length/\i= .int .i64 k/\hv= .int .i64 x) (fun _ i=>cs.length-(intOf i).toNat)
 case atStart=>exact⟨0,_,zah _,rfl,rfl⟩
 case round=>
  obtain⟨k,x,hk,rfl,rfl⟩:=hrel;by_cases ac:k<cs.length
  ·rcases h4:decide ((k:Int)<4000) with _ | _
   ·have UK: ¬(k:Int)<4000:=of_decide_eq_false h4;clear h4;go_wp2;refine Wj (v:= .pointer (some ⟨w,0,none⟩)) (by simp[results,Tryz.results92,go_sem]) rfl ⟨w.heap.size,rfl,⟨A,cap,?_⟩,zaa _,(zab _ _).alloc (zaa _) _⟩;refine⟨by simp[go_sem],⟨0,zah _,by simp[go_sem]⟩,⟨x,by simp[go_sem]⟩,fun j=>by simp[go_sem],tZ,hl,xP.o,fun h0=> ?_⟩;obtain⟨b,off,hA,hc⟩:=iF.o h0;have hb:b<w.heap.size:=qKS (hc 0 h0);exact⟨b,off,hA,tO,by simp;omega,fun i hi=>(zaU _ _ _ hb).trans (hc i hi)⟩
   ·obtain⟨b,off,rfl,hc⟩:=iF.o tO;have am:=hc k ac;have hz:=xP.o _ (zaP ac);generalize cs[k]=z at*;have jr:IntKind.i64.wrap z=z:=by rw[IntKind.wrap_i64];omega
    clear hc;go_wp2;go_round
    case rel=>exact⟨k+1,_,tO,by go_num,rfl⟩
    case measure=>exact tM
  ·obtain rfl:k=cs.length:=tO
   go_wp2;refine Wj (v:= .pointer (some ⟨w,0,none⟩)) (by simp[results,Tryz.results92,go_sem]) rfl ⟨w.heap.size,rfl,⟨A,cap,?_⟩,zaa _,(zab _ _).alloc (zaa _) _⟩;refine⟨by simp[go_sem],⟨0,zah _,by simp[go_sem]⟩,⟨x,by simp[go_sem]⟩,fun j=>by simp[go_sem],tZ,hl,xP.o,fun h0=> ?_⟩;obtain⟨b,off,hA,hc⟩:=iF.o h0;have hb:b<w.heap.size:=qKS (hc 0 h0);exact⟨b,off,hA,tO,by simp;omega,fun i hi=>(zaU _ _ _ hb).trans (hc i hi)⟩
abbrev EdD:=Int×Int×Int
abbrev GrD:=Int×Int×List EdD
def edC (e:EdD):List Wh:= [.int .i64 e.1, .int .i64 e.2.1, .int .i64 e.2.2]
def edCs (es:List EdD):List Wh:=(es.map edC).flatten
def E64 (e:EdD):Prop:=I64 e.1/\I64 e.2.1/\I64 e.2.2
abbrev E64s (es:List EdD):Prop:= ∀e∈es,E64 e
theorem qKo:E64s []:=fun _ h=>by cases h
theorem qEc {a b:List EdD} (ha:E64s a) (hb:E64s b):E64s (a++b):=fun e he=>by
 rcases zad.1 he with he | he
 ·exact ha e he
 ·exact hb e he
theorem qLT {e:EdD} (h:E64 e):E64s [e]:=fun x hx=>by simp at hx;subst hx;exact h
theorem qDj (e:EdD) (es:List EdD):edCs (e::es)=edC e++edCs es:=by simp[edCs]
theorem qDM (a b:List EdD):edCs (a++b)=edCs a++edCs b:=by simp[edCs]
theorem qCX (es:List EdD):(edCs es).length=es.length*3:=by
 induction es with
 | nil=>rfl
 | cons e es ih=>rw[qDj];simp[edC,ih];omega
theorem qHn (es:List EdD) (k j:Nat) (hk:k<es.length) (hj:j<3):(edCs es)[k*3+j]? =(edC es[k])[j]? :=by
 induction es generalizing k with
 | nil=>cases hk
 | cons e es ih=>
   rw[qDj];match k with
   | 0=>rw[List.getElem?_append_left (by simp[edC];omega)];simp
   | k+1=>
     rw[List.getElem?_append_right (by simp[edC];omega)];have:(k+1)*3+j-(edC e).length=k*3+j:=by simp[edC];omega
     rw[this,ih k (by simpa using hk)];rfl
theorem qOl {es:List EdD} {v:Wh} (h:v∈edCs es):v.oneCell'=true:=by
 unfold edCs at h;obtain⟨l,hl,hv⟩:=zaA.1 h;obtain⟨e,_,rfl⟩:=zaO.1 hl;simp[edC] at hv
 rcases hv with rfl | rfl | rfl<;>rfl
def ArgE (w:Wg) (v:Wh) (es:List EdD):Prop:=
 ∃A cap,v= .slice A es.length cap/\es.length<=cap/\cap<=maxLen/\(A=none->cap=0)/\E64s es/\
  (0<es.length-> ∃b off,A=some ⟨b,off,none⟩/\b<w.heap.size/\ ∀k (hk:k<es.length),w.cell? ⟨b,off+k*3,none⟩=some (.int .i64 es[k].1)/\w.cell? ⟨b,off+k*3+1,none⟩=some (.int .i64 es[k].2.1)/\w.cell? ⟨b,off+k*3+2,none⟩=some (.int .i64 es[k].2.2))
def OwE (w:Wg) (base:Nat) (v:Wh) (es:List EdD):Prop:=w.ownsRow base 97 3 v es.length (edCs es)/\E64s es
def ArgG (w:Wg) (v:Wh) (g:GrD):Prop:= ∃s,v= .agg #[.int .i64 g.1, .int .i64 g.2.1,s]/\I64 g.1/\I64 g.2.1/\ArgE w s g.2.2
def OwG (w:Wg) (base:Nat) (v:Wh) (g:GrD):Prop:= ∃s,v= .agg #[.int .i64 g.1, .int .i64 g.2.1,s]/\I64 g.1/\I64 g.2.1/\OwE w base s g.2.2
section
variable {w w':Wg} {v:Wh} {es:List EdD} {g:GrD} {base:Nat}
theorem ArgE.below (h:ArgE w v es) (hb:Wf w w w'):ArgE w' v es:=by
 obtain⟨A,cap,hv,hc,hm,hn,hr,hx⟩:=h;refine⟨A,cap,hv,hc,hm,hn,hr,fun h0=> ?_⟩;obtain⟨b,off,hA,ac,hx⟩:=hx h0;have:=hb.size
 refine⟨b,off,hA,tO,fun k hk=> ?_⟩;obtain⟨h1,h2,h3⟩:=hx k hk;exact⟨(hb.cell (p:=⟨b,_,none⟩) ac).trans h1,(hb.cell (p:=⟨b,_,none⟩) ac).trans h2,(hb.cell (p:=⟨b,_,none⟩) ac).trans h3⟩
theorem ArgE.drew (h:ArgE w v es):ArgE w.drew v es:=h
theorem ArgE.alloc (h:ArgE w v es) (o:Obj):ArgE (w.alloc o) v es:=h.below ((zab _ _).alloc (zaa _) _)
theorem ArgE.form (h:ArgE w v es): ∃A cap,v= .slice A es.length cap:=by
 obtain⟨A,cap,hv,_⟩:=h;exact⟨A,cap,hv⟩
theorem ArgE.at {A:Option Addr} {m cap:Nat} (h:ArgE w (.slice A m cap) es) {k:Nat} (hk:k<es.length):
  ∃b off,A=some ⟨b,off,none⟩/\b<w.heap.size/\w.cell? ⟨b,off+k*3,none⟩=some (.int .i64 es[k].1)/\w.cell? ⟨b,off+k*3+1,none⟩=some (.int .i64 es[k].2.1)/\w.cell? ⟨b,off+k*3+2,none⟩=some (.int .i64 es[k].2.2)/\E64 es[k]:=by
 obtain⟨A',cap',hv,hc,hm,hn,hr,hx⟩:=h;obtain⟨b,off,hA,ac,hx⟩:=hx tO;injection hv with e1 e2 e3
 obtain⟨h1,h2,h3⟩:=hx k hk;exact⟨b,off,e1.trans hA,ac,h1,h2,h3,hr _ tZ⟩
theorem OwE.arg (h:OwE w base v es):ArgE w v es:=by
 obtain⟨ho,hr⟩:=h;obtain⟨A,cap,hv,hc,hm,hn,hx⟩:=qAE ho;refine⟨A,cap,hv,hc,hm,hn,hr,fun h0=> ?_⟩;obtain⟨g,hA,Nh,zX⟩:=hx h0;subst hv hA;refine⟨g,0,rfl,zX,fun k hk=> ?_⟩;have c:=fun j (hj:j<3)=>ho.cellAt (k*3+j) tO;have c0:=c 0 tO;have c1:=c 1 tO;have c2:=c 2 tO;rw[qHn es k _ hk tO] at c0 c1 c2;simp only[edC,zam,zax,za1] at c0 c1 c2;simp only[za2];exact⟨c0,c1,c2⟩
theorem OwE.mono {base':Nat} (h:OwE w base v es) (hb:base'<=base):OwE w base' v es:=by
 refine⟨⟨h.1.1,?_⟩,h.2⟩;rcases h.1.2 with h0 | ⟨g,cap,cur,hv,hg,r⟩
 ·exact .inl h0
 ·exact .inr ⟨g,cap,cur,hv,zar hb hg,r⟩
theorem OwE.below (h:OwE w base v es) (hb:Wf w w w'):OwE w' base v es:=⟨qP h.1 hb,h.2⟩
theorem OwE.drewN (h:OwE w base v es) (k:Nat):OwE (w.drewN k) base v es:=h
theorem OwE.drew (h:OwE w base v es):OwE w.drew base v es:=h
theorem OwE.alloc (h:OwE w base v es) (o:Obj):OwE (w.alloc o) base v es:=⟨h.1.alloc o,h.2⟩
theorem OwE.far (h:OwE w base v es) {p:Addr} (hp:p.block<base) (u:Wh):OwE (w.setCell p u) base v es:=⟨ownsRow_setCell_below h.1 hp u,h.2⟩
theorem OwE.form (h:OwE w base v es): ∃A cap,v= .slice A es.length cap/\es.length<=cap/\cap<=maxLen/\(A=none->cap=0)/\(0<es.length-> ∃g,A=some ⟨g,0,none⟩/\base<=g/\g<w.heap.size):=qAE h.1
theorem OwE.keep (h:OwE w base v es) (hb: ∀b,v.ownBlock=some b->w'.heap[b]? =w.heap[b]?):OwE w' base v es:=by
 refine⟨⟨h.1.1,?_⟩,h.2⟩;rcases h.1.2 with h0 | ⟨g,cap,cur,hv,hg,hh,r⟩
 ·exact .inl h0
 ·exact .inr ⟨g,cap,cur,hv,hg,by rw[hb g (by rw[hv];rfl)];exact hh,r⟩
theorem OwE.nil:OwE w base (.slice none 0 0) []:=⟨⟨rfl, .inl ⟨rfl,rfl⟩⟩,qKo⟩
theorem qKH (w:Wg) {base:Nat} (hb:base<=w.heap.size):OwE (w.alloc (.cells #[] 97)) base (.slice (some ⟨w,0,none⟩) 0 0) []:=
 ⟨by have:=zaq (e:=97) (size:=3) (base:=base) w #[] 0 hb (by unfold maxLen;omega) tZ;simpa[edCs] using this,qKo⟩
theorem ArgE.cut {A:Option Addr} {m cap k:Nat} (h:ArgE w (.slice A m cap) es) (hk:k<=es.length):ArgE w (.slice (if cap=k then A else A.map (·.add (k*3))) (es.length-k) (cap-k)) (es.drop k):=by
 obtain⟨A',cap',hv,hc,hm,hn,hr,hx⟩:=h;injection hv with e1 e2 e3
 subst e1 e2 e3;refine⟨_,_,by rw[za8],by simp;omega,tO,?_,fun x hx=>hr x (zaW hx),fun h0=> ?_⟩
 ·split
  ·intro _;omega
  ·intro hA;cases A with
   | none=>have:=hn rfl;omega
   | some a=>cases hA
 ·simp at h0
  obtain⟨b,off,rfl,ac,hx⟩:=hx tO;rw[Wn tO];refine⟨b,off+k*3,by simp[Addr.add_lit],ac,fun j hj=> ?_⟩;simp only[za8] at hj;have:=hx (k+j) tO
  rw[za5];have e:off+k*3+j*3=off+(k+j)*3:=tO;rw[e];exact this
theorem ArgG.below (h:ArgG w v g) (hb:Wf w w w'):ArgG w' v g:=by
 obtain⟨s,hv,h1,h2,ha⟩:=h;exact⟨s,hv,h1,h2,ha.below hb⟩
theorem OwG.arg (h:OwG w base v g):ArgG w v g:=by
 obtain⟨s,hv,h1,h2,ha⟩:=h;exact⟨s,hv,h1,h2,ha.arg⟩
end
theorem ArgG.inner {w:Wg} {g:GrD} {a b s:Wh} (h:ArgG w (.agg #[a,b,s]) g): ∃A cap,s= .slice A g.2.2.length cap/\ArgE w (.slice A g.2.2.length cap) g.2.2/\I64 g.1/\I64 g.2.1:=by
 obtain⟨s',hv,h1,h2,ha⟩:=h;obtain rfl:s=s':=by injection hv with e;simp at e;exact e.2.2
 obtain⟨A,cap,rfl⟩:=ha.form;exact⟨A,cap,rfl,ha,h1,h2⟩
theorem qFI:(Tryz.prog.info? 97).map (fun i=>(i.zero,i.size,i.bytes))=some (some (.agg #[.int .i64 0, .int .i64 0, .int .i64 0]),3,24):=by kernel_rfl
theorem qON (es:List EdD) (k:Nat) (hk:k<es.length) (x y z:Int):(((edCs es).set (k*3) (.int .i64 x)).set (k*3+1) (.int .i64 y)).set (k*3+2) (.int .i64 z)=edCs (es.set k (x,y,z)):=by
 induction es generalizing k with
 | nil=>cases hk
 | cons e es ih=>
   match k with
   | 0=>simp[qDj,edC]
   | k+1=>
     have h3:(edC e).length=3:=rfl;rw[List.set_cons_succ,qDj,qDj,<-ih k (by simpa using hk)];rw[zaD _ _ (by rw[h3];omega),zaD _ _ (by rw[h3];omega),zaD _ _ (by rw[h3];omega),h3];congr 2
     ·congr 1
      ·congr 1;omega
      ·omega
     ·omega
theorem OwE.set {w:Wg} {base n g cap:Nat} {es:List EdD} (h:OwE w base (.slice (some ⟨g,0,none⟩) n cap) es) (k:Nat) (hk:k<es.length) {x y z:Int} (hx:I64 x) (hy:I64 y) (hz:I64 z):
  OwE (((w.setCell ⟨g,k*3,none⟩ (.int .i64 x)).setCell ⟨g,k*3+1,none⟩ (.int .i64 y)).setCell ⟨g,k*3+2,none⟩ (.int .i64 z)) base (.slice (some ⟨g,0,none⟩) n cap) (es.set k (x,y,z))/\
  w.grownBy (((w.setCell ⟨g,k*3,none⟩ (.int .i64 x)).setCell ⟨g,k*3+1,none⟩ (.int .i64 y)).setCell ⟨g,k*3+2,none⟩ (.int .i64 z)) (some g):=by
 have hn:n=es.length:=by
  rcases h.1.2 with ⟨hv,_⟩ | ⟨g',cap',cur,hv,_⟩
  ·cases hv
  ·injection hv
 subst hn;obtain⟨h1,g1⟩:=h.1.stored (k*3) (.int .i64 x);obtain⟨h2,g2⟩:=h1.stored (k*3+1) (.int .i64 y);obtain⟨h3,g3⟩:=h2.stored (k*3+2) (.int .i64 z);refine⟨⟨?_,fun e he=> ?_⟩,(g1.trans g2).trans g3⟩
 ·rw[qON es k hk] at h3;rw[za9];exact h3
 ·rcases zaK he with he | rfl
  ·exact h.2 e he
  ·exact⟨hx,hy,hz⟩
theorem OwE.cellAt {w:Wg} {base n g cap:Nat} {es:List EdD} (h:OwE w base (.slice (some ⟨g,0,none⟩) n cap) es) (k:Nat) (hk:k<es.length):
  w.cell? ⟨g,k*3,none⟩=some (.int .i64 es[k].1)/\w.cell? ⟨g,k*3+1,none⟩=some (.int .i64 es[k].2.1)/\w.cell? ⟨g,k*3+2,none⟩=some (.int .i64 es[k].2.2):=by
 obtain⟨b,off,hA,_,c0,c1,c2,_⟩:=h.arg.at hk;injection hA with e
 injection e with e1 e2
 subst e1 e2;rw[za2] at c0 c1 c2;exact⟨c0,c1,c2⟩
theorem OwE.free {w:Wg} {base n g cap:Nat} {es:List EdD} (h:OwE w base (.slice (some ⟨g,0,none⟩) n cap) es) (j:Nat):w.frozen? ⟨g,j,none⟩=false:=by
 have hn:n=es.length:=by
  rcases h.1.2 with ⟨hv,_⟩ | ⟨g',cap',cur,hv,_⟩
  ·cases hv
  ·injection hv
 subst hn;exact h.1.frozenAt j
def cmpI (a b:Int):Int:=if a<b then-1 else if b<a then 1 else 0
def rk (x:Int):Int:=if x<0 then wrap64 (wrap64 (-2*x)-1) else wrap64 (wrap64 (2*x)-2)
theorem qAg (a b:Int) (w:Wg):
  Wk Tryz.prog 237 #[.int .i64 a, .int .i64 b] w fun e w'=>e= .returned (.int .i64 (cmpI a b))/\w=w':=by
 rcases Int.lt_trichotomy a b with h | h | h
 ·go_enter Tryz.func237,Tryz.ntmps237
  go_wp2;go_ret;exact⟨qAP (by unfold cmpI;rw[Wm h]),rfl⟩
 ·subst h;go_enter Tryz.func237,Tryz.ntmps237
  go_wp2;go_ret;exact⟨qAP (by unfold cmpI;simp),rfl⟩
 ·have h': ¬a<b:=tO;go_enter Tryz.func237,Tryz.ntmps237
  go_wp2;go_ret;exact⟨qAP (by unfold cmpI;rw[Wn tO,Wm h]),rfl⟩
def edV (e:EdD):Wh:= .agg #[.int .i64 e.1, .int .i64 e.2.1, .int .i64 e.2.2]
theorem qJW (a b:EdD) (w:Wg):(Op.equalIn 10000 97 (edV a) (edV b)).run Tryz.prog w= .ok (decide (a=b)) w:=by
 have u3:=Tryz.underlying3;have a3:=Tryz.isAgg3;have z3:=Tryz.sizeOf3;have hS:Tryz.prog.underlying 97=some (.struct (Tryz.prog.fieldsOf 97)):=by kernel_rfl
 have hp:Tryz.prog.stoodInHeld 97=false:=by kernel_rfl
 obtain⟨x,y,z⟩:=a;obtain⟨x',y',z'⟩:=b;simp only[edV];rw[show(10000:Nat)=9999+1 from rfl,run_equalIn_agg w 9999 97 _ _ hS hp];simp only[Program.fieldsOf,Tryz.underlying97];go_simp;by_cases h1:x=x'<;>by_cases h2:y=y'<;>by_cases h3:z=z'<;>simp[h1,h2,h3]
theorem qIM (a b:EdD) (w:Wg):(binOp .neq 97 (edV a) (edV b)).run Tryz.prog w= .ok (.bool (!decide (a=b))) w:=by
 have:=qJW a b w
 unfold edV at this⊢;rw[run_neq_struct,this];rfl
theorem qEo (a b:EdD) (w:Wg):(binOp .eql 97 (edV a) (edV b)).run Tryz.prog w= .ok (.bool (decide (a=b))) w:=by
 have:=qJW a b w
 unfold edV at this⊢;rw[run_eql_struct,this];rfl
theorem qBk:Tryz.prog.eqGuardType Tryz.prog.depth 97=false:=by kernel_rfl
theorem qEj (v u:Wh) (d d':GrD) (w:Wg) (h:ArgG w v d) (h':ArgG w u d'):
  Wk Tryz.prog 47 #[v,u] w fun e w'=>e= .returned (.bool (decide (d=d')))/\Wf w w w':=by
 obtain⟨s,rfl,_,_,ha⟩:=h;obtain⟨s',rfl,_,_,nB⟩:=h';obtain⟨x,y,es⟩:=d;obtain⟨x',y',es'⟩:=d';have H:=qA ha;have H':=qA nB;obtain⟨A,cap,rfl,aR,hm,_⟩:=ha;obtain⟨A',cap',rfl,uK,kQ,_⟩:=nB;unfold maxLen at hm kQ;rcases e1:(x != x') with _ | _
 ·rcases e2:(y != y') with _ | _
  ·by_cases ai:es.length=es'.length
   ·have F:Wi (decide ((x,y,es)=(x',y',es'))=decide (es=es')):=qA (by simp at e1 e2;simp[e1,e2]);have hd:((es.length:Int) != (es'.length:Int))=false:=by simp[ai]
    have a8:=qA ai;clear ai;go_enter Tryz.func47,Tryz.ntmps47
    go_wp2;have hb:Wf w w ((w.alloc (.cells #[.int .i64 x,.int .i64 y, .slice A es.length cap] 26)).alloc (.cells #[.int .i64 x',.int .i64 y', .slice A' es'.length cap'] 26)):=ZZ;have q0:((w.alloc (.cells #[.int .i64 x,.int .i64 y, .slice A es.length cap] 26)).alloc (.cells #[.int .i64 x',.int .i64 y', .slice A' es'.length cap'] 26)).cell? ⟨w,2,none⟩=some (.slice A es.length cap):=by simp[go_sem]
    have q1:((w.alloc (.cells #[.int .i64 x,.int .i64 y, .slice A es.length cap] 26)).alloc (.cells #[.int .i64 x',.int .i64 y', .slice A' es'.length cap'] 26)).cell? ⟨w.heap.size+1,2,none⟩=some (.slice A' es'.length cap'):=by simp[go_sem]
    generalize (w.alloc (.cells #[.int .i64 x,.int .i64 y, .slice A es.length cap] 26)).alloc (.cells #[.int .i64 x',.int .i64 y', .slice A' es'.length cap'] 26)=w2 at hb q0 q1⊢;have HB:=qA hb;clear hb;go_loopw [5] (fun i wr=> ∃k:Nat,k<=es.length/\i= .int .i64 k/\es.take k=es'.take k/\ ∃n,wr=w2.drewN n) (fun i _=>es.length-(intOf i).toNat)
    case atStart=>exact⟨0,zah _,rfl,tZ,0,rfl⟩
    case round=>
     obtain⟨k,hk,rfl,lG,n,rfl⟩:=hrel;have ip:=qA lG;clear lG;by_cases ac:k<es.length
     ·have cT:k<es'.length:=by have:=a8.o;omega
      obtain⟨g,off,rfl,hg,c0,c1,c2,_⟩:=(H.below HB).at ac;obtain⟨g',off',rfl,mj,M3,jD,nG,_⟩:=(H'.below HB).at cT;have HQ:Wi (es.take (k+1)=es'.take (k+1)↔es[k]=es'[k]):=qA ⟨fun e=>by
       have:=congrArg (fun l=>l[k]?) e
       simpa[ac,cT] using this,fun e=>qDy ip.o ac cT e⟩
      have HN:Wi (es[k]≠es'[k]->es≠es'):=qA (fun e1 e2=>by subst e2;exact e1 rfl);generalize es[k]=d at*;generalize es'[k]=d' at*;have ll:=fun w=>qIM d d' w;have dq:=qBk;unfold edV at ll;rcases e3:decide (d=d') with _ | _
      ·rw[e3] at ll;go_wp2;go_quiet (fail)
       go_wp2;go_ret;exact⟨qJ (by rw[F.o];symm;rw[decide_eq_false_iff_not];exact HN.o (by simpa using e3)),qC (qC HB _) _⟩
      ·rw[e3] at ll;go_wp2;go_quiet (fail)
       go_wp2;go_roundw;exact⟨k+1,tO,by go_num,HQ.o.2 (by simpa using e3),_,rfl⟩;exact tM
     ·obtain rfl:k=es.length:=tO
      go_wp2;go_ret;refine⟨qJ ?_,qC HB _⟩;have h1:=ip.o;rw[zak,a8.o,zak] at h1;rw[F.o];simp[h1]
   ·have hd:((es.length:Int) != (es'.length:Int))=true:=by simp;omega
    go_enter Tryz.func47,Tryz.ntmps47
    go_wp2;go_ret;have F:es≠es':=fun e=>ai (by rw[e]);exact⟨qJ (by simp[F]),ZZ⟩
  ·go_enter Tryz.func47,Tryz.ntmps47
   go_wp2;go_ret;exact⟨qJ (by simp at e2;simp[e2]),ZZ⟩
 ·go_enter Tryz.func47,Tryz.ntmps47
  go_wp2;go_ret;exact⟨qJ (by simp at e1;simp[e1]),ZZ⟩
theorem qGE (v u:Wh) (es es':List EdD) (w:Wg) (h:ArgE w v es) (h':ArgE w u es'):
  Wk Tryz.prog 193 #[v,u] w fun e w'=>e= .returned (.bool (decide (es=es')))/\ ∃n,w'=w.drewN n:=by
 have H:=qA h;have H':=qA h';obtain⟨A,cap,rfl,aR,hm,_⟩:=h;obtain⟨A',cap',rfl,uK,kQ,_⟩:=h';unfold maxLen at hm kQ;by_cases ai:es.length=es'.length
 ·have hd:((es.length:Int) != (es'.length:Int))=false:=by simp[ai]
  have a8:=qA ai;clear ai;go_enter Tryz.func193,Tryz.ntmps193
  go_wp2;go_loopw [13] (fun i wr=> ∃k:Nat,k<=es.length/\i= .int .i64 k/\es.take k=es'.take k/\ ∃n,wr=w.drewN n) (fun i _=>es.length-(intOf i).toNat)
  case atStart=>exact⟨0,zah _,rfl,tZ,0,rfl⟩
  case round=>
   obtain⟨k,hk,rfl,lG,n,rfl⟩:=hrel;have ip:=qA lG;clear lG;by_cases ac:k<es.length
   ·have cT:k<es'.length:=by have:=a8.o;omega
    obtain⟨g,off,rfl,hg,c0,c1,c2,_⟩:=H.o.at ac;obtain⟨g',off',rfl,mj,M3,jD,nG,_⟩:=H'.o.at cT;have HQ:Wi (es.take (k+1)=es'.take (k+1)↔es[k]=es'[k]):=qA ⟨fun e=>by
     have:=congrArg (fun l=>l[k]?) e
     simpa[ac,cT] using this,fun e=>qDy ip.o ac cT e⟩
    have HN:Wi (es[k]≠es'[k]->es≠es'):=qA (fun e1 e2=>by subst e2;exact e1 rfl);generalize es[k]=d at*;generalize es'[k]=d' at*;have ll:=fun w=>qIM d d' w;have dq:=qBk;unfold edV at ll;rcases e3:decide (d=d') with _ | _
    ·rw[e3] at ll;go_wp2;go_quiet (fail)
     go_wp2;go_ret;exact⟨qJ (by symm;rw[decide_eq_false_iff_not];exact HN.o (by simpa using e3)),_,World.drewN_drewN _ _ _⟩
    ·rw[e3] at ll;go_wp2;go_quiet (fail)
     go_wp2;go_roundw;exact⟨k+1,tO,by go_num,HQ.o.2 (by simpa using e3),_,rfl⟩;exact tM
   ·obtain rfl:k=es.length:=tO
    go_wp2;go_ret;refine⟨qJ ?_,n,rfl⟩;have h1:=ip.o;rw[zak,a8.o,zak] at h1;simp[h1]
 ·have hd:((es.length:Int) != (es'.length:Int))=true:=by simp;omega
  go_enter Tryz.func193,Tryz.ntmps193
  go_wp2;go_ret;exact⟨qJ (by symm;rw[decide_eq_false_iff_not];rintro rfl;exact ai rfl),0,rfl⟩
theorem qEW (v u:Wh) (d d':GrD) (w:Wg) (h:ArgG w v d) (h':ArgG w u d'):
  Wk Tryz.prog 127 #[v,u] w fun e w'=>e= .returned (.bool (decide (d=d')))/\Wf w w w':=by
 obtain⟨s,rfl,_,_,ha⟩:=h;obtain⟨s',rfl,_,_,nB⟩:=h';obtain⟨x,y,es⟩:=d;obtain⟨x',y',es'⟩:=d';have H:=qA ha;have H':=qA nB;clear ha nB;rcases e1:(x==x') with _ | _
 ·go_enter Tryz.func127,Tryz.ntmps127
  go_wp2;go_ret;exact⟨qJ (by simp at e1;simp[e1]),ZZ⟩
 ·rcases e2:(y==y') with _ | _
  ·go_enter Tryz.func127,Tryz.ntmps127
   go_wp2;go_ret;exact⟨qJ (by simp at e2;simp[e2]),ZZ⟩
  ·have F:Wi (decide ((x,y,es)=(x',y',es'))=decide (es=es')):=qA (by simp at e1 e2;simp[e1,e2]);go_enter Tryz.func127,Tryz.ntmps127
   go_wp2_with fail;have hb:Wf w w ((w.alloc (.cells #[.int .i64 x,.int .i64 y,s] 26)).alloc (.cells #[.int .i64 x',.int .i64 y',s'] 26)):=ZZ;refine(qGE _ _ es es' _ (H.below hb) (H'.below hb)).mono ?_
   rintro e w1 ⟨rfl,n,rfl⟩;have HB:=qA hb;clear hb;go_wp2;go_ret;exact⟨qJ F.o.symm,qC HB _⟩
def cmpE (a b:EdD):Int:=if cmpI a.1 b.1≠0 then cmpI a.1 b.1 else if cmpI a.2.1 b.2.1≠0 then cmpI a.2.1 b.2.1 else cmpI a.2.2 b.2.2
theorem qv {a b:Int}:cmpI a b=0↔a=b:=by
 unfold cmpI;split
 ·constructor
  ·intro h;cases h
  ·omega
 ·split
  ·constructor
   ·intro h;cases h
   ·omega
  ·constructor
   ·omega
   ·intro _;rfl
def nth3 (x y z:Int):Nat->Int
 | 0=>x
 | 1=>y
 | _=>z
theorem qLp (x y z x' y' z':Int) (k:Nat) (hk:k<3) (h: ∀j,j<k->nth3 x y z j=nth3 x' y' z' j):(nth3 x y z k<nth3 x' y' z' k->cmpE (x,y,z) (x',y',z')= -1)/\(nth3 x' y' z' k<nth3 x y z k->cmpE (x,y,z) (x',y',z')=1):=by
 match k,hk with
 | 0,_=>
   simp only[nth3];refine⟨fun h=> ?_,fun h=> ?_⟩
   ·have:cmpI x x'= -1:=by unfold cmpI;rw[Wm h]
    simp[cmpE,this]
   ·have:cmpI x x'=1:=by unfold cmpI;rw[Wn tO,Wm h]
    simp[cmpE,this]
 | 1,_=>
   have h0:x=x':=h 0 tO;simp only[nth3];refine⟨fun h=> ?_,fun h=> ?_⟩
   ·have:cmpI y y'= -1:=by unfold cmpI;rw[Wm h]
    simp[cmpE,this,qv.2 h0]
   ·have:cmpI y y'=1:=by unfold cmpI;rw[Wn tO,Wm h]
    simp[cmpE,this,qv.2 h0]
 | 2,_=>
   have h0:x=x':=h 0 tO;have h1:y=y':=h 1 tO;simp only[nth3];refine⟨fun h=> ?_,fun h=> ?_⟩
   ·have:cmpI z z'= -1:=by unfold cmpI;rw[Wm h]
    simp[cmpE,this,qv.2 h0,qv.2 h1]
   ·have:cmpI z z'=1:=by unfold cmpI;rw[Wn tO,Wm h]
    simp[cmpE,this,qv.2 h0,qv.2 h1]
theorem qNp (x y z x' y' z':Int) (h: ∀j,j<3->nth3 x y z j=nth3 x' y' z' j):cmpE (x,y,z) (x',y',z')=0:=by
 have h0:x=x':=h 0 tO;have h1:y=y':=h 1 tO;have h2:z=z':=h 2 tO;simp[cmpE,qv.2 h0,qv.2 h1,qv.2 h2]
def qAh (r n:Int) (e:EdD):Bool:=inB e.1 0 (wrap64 (n-1))&&inB e.2.2 0 (wrap64 (n-1))&&inB e.2.1 1 r
def okE (g:GrD) (k:Nat):Bool:=match g.2.2[k]? with
 | none=>true
 | some e=>qAh g.1 g.2.1 e&&(match k with
   | 0=>true
   | j+1=>match g.2.2[j]? with
     | none=>true
     | some d=>decide (cmpE d e<0))
def grB (g:GrD):Bool:=inB g.1 1 3&&inB g.2.1 1 40&&decide (g.2.2.length<=120)&&(zat g.2.2.length).all (okE g)
theorem qJe {g:GrD} (k:Nat) (hk:k<g.2.2.length) (h:okE g k=false):grB g=false:=by
 unfold grB;have:(zat g.2.2.length).all (okE g)=false:=by
  rw[List.all_eq_false];exact⟨k,zas.2 hk,by simp[h]⟩
 rw[this,Bool.and_false]
theorem qPg {g:GrD} (h: ∀k,k<g.2.2.length->okE g k=true):grB g=(inB g.1 1 3&&inB g.2.1 1 40&&decide (g.2.2.length<=120)):=by
 unfold grB;have:(zat g.2.2.length).all (okE g)=true:=by
  rw[zau];intro k hk;exact h k (zas.1 hk)
 rw[this,Bool.and_true]
theorem qGP {g:GrD} (h:0<g.2.2.length):okE g 0=qAh g.1 g.2.1 g.2.2[0]:=by
 unfold okE;rw[zaw h];simp
theorem qGd {g:GrD} {k:Nat} (h0:0<k) (h:k<g.2.2.length):okE g k=(qAh g.1 g.2.1 g.2.2[k]&& !decide (0<=cmpE g.2.2[k-1] g.2.2[k])):=by
 obtain⟨j,rfl⟩: ∃j,k=j+1:=⟨k-1,tO⟩;unfold okE;rw[zaw h];show(qAh g.1 g.2.1 _&&(match g.2.2[j]? with | none=>true | some d=>decide (cmpE d g.2.2[j+1]<0)))=_
 rw[zaw (show j<g.2.2.length by omega)];simp only[Nat.add_sub_cancel];congr 1
 rw[Bool.eq_iff_iff];simp
theorem qD {g:GrD} (h:grB g=true):(1<=g.1/\g.1<=3)/\(1<=g.2.1/\g.2.1<=40)/\g.2.2.length<=120/\ ∀k,k<g.2.2.length->okE g k=true:=by
 unfold grB at h;simp only[zai,decide_eq_true_eq,zau,zas] at h;obtain⟨⟨⟨h1,h2⟩,h3⟩,h4⟩:=h;exact⟨qm.1 h1,qm.1 h2,h3,h4⟩
theorem qBD (a b:EdD) (w:Wg):
  Wk Tryz.prog 212 #[edV a,edV b] w fun e w'=>e= .returned (.int .i64 (cmpE a b))/\Wf w w w':=by
 obtain⟨x,y,z⟩:=a;obtain⟨x',y',z'⟩:=b;obtain⟨R,hR⟩: ∃R,R=cmpE (x,y,z) (x',y',z'):=⟨_,rfl⟩;rw[<-hR];have HR:=qA hR;clear hR;unfold edV;go_enter Tryz.func212,Tryz.ntmps212
 go_wp2;have hb:Wf w w ((((w.alloc (.cells #[.int .i64 x,.int .i64 y,.int .i64 z] 97)).alloc (.cells #[.int .i64 x',.int .i64 y',.int .i64 z'] 97)).alloc (.cells #[.int .i64 x,.int .i64 y,.int .i64 z] 3)).alloc (.cells #[.int .i64 x',.int .i64 y',.int .i64 z'] 3)):=ZZ;have hc: ∀j,j<3->((((w.alloc (.cells #[.int .i64 x,.int .i64 y,.int .i64 z] 97)).alloc (.cells #[.int .i64 x',.int .i64 y',.int .i64 z'] 97)).alloc (.cells #[.int .i64 x,.int .i64 y,.int .i64 z] 3)).alloc (.cells #[.int .i64 x',.int .i64 y',.int .i64 z'] 3)).cell? ⟨w.heap.size+1+1,j,none⟩=some (.int .i64 (nth3 x y z j))/\
   ((((w.alloc (.cells #[.int .i64 x,.int .i64 y,.int .i64 z] 97)).alloc (.cells #[.int .i64 x',.int .i64 y',.int .i64 z'] 97)).alloc (.cells #[.int .i64 x,.int .i64 y,.int .i64 z] 3)).alloc (.cells #[.int .i64 x',.int .i64 y',.int .i64 z'] 3)).cell? ⟨w.heap.size+1+1+1,j,none⟩=some (.int .i64 (nth3 x' y' z' j)):=by
  intro j hj;match j,hj with
  | 0,_=>simp[go_sem,nth3]
  | 1,_=>simp[go_sem,nth3]
  | 2,_=>simp[go_sem,nth3]
 generalize ((((w.alloc (.cells #[.int .i64 x,.int .i64 y,.int .i64 z] 97)).alloc (.cells #[.int .i64 x',.int .i64 y',.int .i64 z'] 97)).alloc (.cells #[.int .i64 x,.int .i64 y,.int .i64 z] 3)).alloc (.cells #[.int .i64 x',.int .i64 y',.int .i64 z'] 3))=w4 at hb hc⊢;have HC:=qA hc;have HB:=qA hb;clear hc hb;go_loopw [7] (fun i wr=> ∃k:Nat,k<=3/\i= .int .i64 k/\(∀j,j<k->nth3 x y z j=nth3 x' y' z' j)/\ ∃n,wr=w4.drewN n) (fun i _=>3-(intOf i).toNat)
 case atStart=>exact⟨0,zah _,rfl,fun j hj=>absurd hj tO,0,rfl⟩
 case round=>
  obtain⟨k,hk,rfl,lG,n,rfl⟩:=hrel;have ip:=qA lG;clear lG;by_cases ac:k<3
  ·obtain⟨c0,c1⟩:=HC.o k ac;have HL:=qA (qLp x y z x' y' z' k ac ip);have HN:Wi (nth3 x y z k=nth3 x' y' z' k-> ∀j,j<k+1->nth3 x y z j=nth3 x' y' z' j):=qA fun F j hj=>by
    rcases zaH (zaJ hj) with hj | rfl
    ·exact ip.o j hj
    ·exact F
   generalize nth3 x y z k=p at*;generalize nth3 x' y' z' k=q at*;by_cases h1:p<q
   ·go_wp2;go_quiet (fail)
    go_wp2;go_ret;exact⟨qAP (by rw[HR.o,HL.o.1 h1]),qC (qC HB _) _⟩
   ·by_cases h2:q<p
    ·go_wp2;go_quiet (fail)
     go_wp2;go_quiet (fail)
     go_wp2;go_ret;exact⟨qAP (by rw[HR.o,HL.o.2 h2]),qC (qC (qC HB _) _) _⟩
    ·go_wp2;go_quiet (fail)
     go_wp2;go_quiet (fail)
     go_wp2;go_roundw;exact⟨k+1,tO,by go_num,HN.o tO,_,rfl⟩;exact tM
  ·obtain rfl:k=3:=tO
   have F:Wi (R=0):=qA (by rw[HR.o];exact qNp x y z x' y' z' ip.o);go_wp2;go_ret;exact⟨qAP F.o.symm,qC HB _⟩
theorem qCC (a b:EdD) (w:Wg):
  Wk Tryz.prog 218 #[edV a,edV b] w fun e w'=>e= .returned (.int .i64 (cmpE a b))/\Wf w w w':=by
 obtain⟨x,y,z⟩:=a;obtain⟨x',y',z'⟩:=b;unfold edV;rcases e1:(cmpI x x' != 0) with _ | _
 ·rcases e2:(cmpI y y' != 0) with _ | _
  ·have F:Wi (cmpE (x,y,z) (x',y',z')=cmpI z z'):=qA (by simp at e1 e2;simp[cmpE,e1,e2]);go_enter Tryz.func218,Tryz.ntmps218
   go_wp2_with (go_at_call 237;refine(qAg _ _ _).mono ?_;rintro e w' ⟨rfl,rfl⟩)
   go_ret;exact⟨qAP F.o.symm,ZZ⟩
  ·have F:Wi (cmpE (x,y,z) (x',y',z')=cmpI y y'):=qA (by simp at e1 e2;simp[cmpE,e1,e2]);go_enter Tryz.func218,Tryz.ntmps218
   go_wp2_with (go_at_call 237;refine(qAg _ _ _).mono ?_;rintro e w' ⟨rfl,rfl⟩)
   go_ret;exact⟨qAP F.o.symm,ZZ⟩
 ·have F:Wi (cmpE (x,y,z) (x',y',z')=cmpI x x'):=qA (by simp at e1;simp[cmpE,e1]);go_enter Tryz.func218,Tryz.ntmps218
  go_wp2_with (go_at_call 237;refine(qAg _ _ _).mono ?_;rintro e w' ⟨rfl,rfl⟩)
  go_ret;exact⟨qAP F.o.symm,ZZ⟩
theorem qFa (r n:Int) (A:Option Addr) (m cap:Nat) (e:EdD) (w:Wg):
  Wk Tryz.prog 229 #[.agg #[.int .i64 r, .int .i64 n, .slice A m cap],edV e] w fun e' w'=>e'= .returned (.bool (qAh r n e))/\Wf w w w':=by
 obtain⟨x,y,z⟩:=e;unfold edV;rcases e1:inB x 0 (wrap64 (n-1)) with _ | _
 ·go_enter Tryz.func229,Tryz.ntmps229
  go_wp2_with (go_at_call 138;refine(qi _ _ _ _).mono ?_;rintro e w' ⟨rfl,rfl⟩)
  go_ret;exact⟨qJ (by simp[qAh,e1]),ZZ⟩
 ·rcases e2:inB z 0 (wrap64 (n-1)) with _ | _
  ·go_enter Tryz.func229,Tryz.ntmps229
   go_wp2_with (go_at_call 138;refine(qi _ _ _ _).mono ?_;rintro e w' ⟨rfl,rfl⟩)
   go_ret;exact⟨qJ (by simp[qAh,e1,e2]),ZZ⟩
  ·go_enter Tryz.func229,Tryz.ntmps229
   go_wp2_with (go_at_call 138;refine(qi _ _ _ _).mono ?_;rintro e w' ⟨rfl,rfl⟩)
   go_ret;exact⟨qJ (by simp[qAh,e1,e2]),ZZ⟩
theorem qBH (r n:Int) (A:Option Addr) (m cap:Nat) (x:Int) (w:Wg):
  Wk Tryz.prog 159 #[.agg #[.int .i64 r, .int .i64 n, .slice A m cap], .int .i64 x] w fun e' w'=>e'= .returned (.bool (inB x 0 (wrap64 (n-1))))/\Wf w w w':=by
 go_enter Tryz.func159,Tryz.ntmps159
 go_wp2_with (go_at_call 137;refine(qAn _ _ _ _).mono ?_;rintro e w' ⟨rfl,rfl⟩)
 go_ret;exact⟨rfl,ZZ⟩
theorem qHG (r n:Int) (A:Option Addr) (m cap:Nat) (e:EdD) (w:Wg):
  Wk Tryz.prog 227 #[.agg #[.int .i64 r, .int .i64 n, .slice A m cap],edV e] w fun e' w'=>e'= .returned (.bool (qAh r n e))/\Wf w w w':=by
 obtain⟨x,y,z⟩:=e;unfold edV;rcases e1:inB x 0 (wrap64 (n-1)) with _ | _
 ·go_enter Tryz.func227,Tryz.ntmps227
  go_wp2_with fail;refine(qBH _ _ _ _ _ _ _).mono ?_
  rintro e w1 ⟨rfl,b1⟩;have B1:=qA b1;obtain⟨hc,hf⟩:=qQT b1;have hz:=b1.size;simp at hz
  clear b1;rw[e1];go_wp2;go_ret;exact⟨qJ (by simp[qAh,e1]),(by repeat(first | exact .refl _ _ | (refine BxS ?_ _) | (refine qC ?_ _) | (refine zac ?_) | (refine BxA ?_ _) | (refine BxT ?_ (Hid.out B1))))⟩
 ·go_enter Tryz.func227,Tryz.ntmps227
  go_wp2_with fail;refine(qBH _ _ _ _ _ _ _).mono ?_
  rintro e w1 ⟨rfl,b1⟩;have B1:=qA b1;obtain⟨hc,hf⟩:=qQT b1;have hz:=b1.size;simp at hz
  clear b1;rw[e1];go_wp2_with fail;refine(qBH _ _ _ _ _ _ _).mono ?_
  rintro e w2 ⟨rfl,b2⟩;have B2:=qA b2;obtain⟨dp,db⟩:=qQT b2;have bQ:=b2.size;have k0:w2.cell? ⟨w,0,none⟩=some (.int .i64 r):=by rw[dp _ _ tO,hc _ _ (by simp;omega)];simp[go_sem]
  have k1:w2.cell? ⟨w.heap.size+1,1,none⟩=some (.int .i64 y):=by rw[dp _ _ tO,hc _ _ tZ];simp[go_sem]
  clear b2 hc hf dp db;rcases e2:inB z 0 (wrap64 (n-1)) with _ | _
  ·go_wp2;go_ret;exact⟨qJ (by simp[qAh,e1,e2]),(by repeat(first | exact .refl _ _ | (refine BxS ?_ _) | (refine qC ?_ _) | (refine zac ?_) | (refine BxA ?_ _) | (refine BxT ?_ (Hid.out B2)) | (refine BxT ?_ (Hid.out B1))))⟩
  ·go_wp2_with fail;refine(qAn _ _ _ _).mono ?_
   rintro e w' ⟨rfl,rfl⟩;rcases e3:inB y 1 r with _ | _
   ·go_wp2;go_ret;exact⟨qJ (by simp[qAh,e1,e2,e3]),(by repeat(first | exact .refl _ _ | (refine BxS ?_ _) | (refine qC ?_ _) | (refine zac ?_) | (refine BxA ?_ _) | (refine BxT ?_ (Hid.out B2)) | (refine BxT ?_ (Hid.out B1))))⟩
   ·go_wp2;go_ret;exact⟨qJ (by simp[qAh,e1,e2,e3]),(by repeat(first | exact .refl _ _ | (refine BxS ?_ _) | (refine qC ?_ _) | (refine zac ?_) | (refine BxA ?_ _) | (refine BxT ?_ (Hid.out B2)) | (refine BxT ?_ (Hid.out B1))))⟩
structure TOrd {α:Type} (c:α->α->Int):Prop where
 zero: ∀ {a b},c a b=0↔a=b
 anti: ∀ {a b},c a b<0↔0<c b a
 trans: ∀ {a b d},c a b<0->c b d<0->c a d<0
theorem qDF {a b:Int}:cmpI a b<0↔a<b:=by
 unfold cmpI;split
 ·simp[*]
 ·split<;>omega
theorem qGO {a b:Int}:0<cmpI a b↔b<a:=by
 unfold cmpI;split
 ·omega
 ·split<;>omega
theorem qPV:TOrd cmpI:=⟨qv,by intro a b;rw[qDF,qGO],by intro a b d h1 h2;rw[qDF] at*;omega⟩
theorem qGZ {a b:EdD}:cmpE a b<0↔a.1<b.1\/(a.1=b.1/\(a.2.1<b.2.1\/(a.2.1=b.2.1/\a.2.2<b.2.2))):=by
 unfold cmpE;split
 ·rename_i h
  have h':a.1≠b.1:=fun e=>h (qv.2 e);rw[qDF];omega
 ·rename_i h
  have h':a.1=b.1:=qv.1 (by simpa using h);split
  ·rename_i h2
   have pT:a.2.1≠b.2.1:=fun e=>h2 (qv.2 e);rw[qDF];omega
  ·rename_i h2
   have pT:a.2.1=b.2.1:=qv.1 (by simpa using h2);rw[qDF];omega
theorem qKj {a b:EdD}:0<cmpE a b↔b.1<a.1\/(a.1=b.1/\(b.2.1<a.2.1\/(a.2.1=b.2.1/\b.2.2<a.2.2))):=by
 unfold cmpE;split
 ·rename_i h
  have h':a.1≠b.1:=fun e=>h (qv.2 e);rw[qGO];omega
 ·rename_i h
  have h':a.1=b.1:=qv.1 (by simpa using h);split
  ·rename_i h2
   have pT:a.2.1≠b.2.1:=fun e=>h2 (qv.2 e);rw[qGO];omega
  ·rename_i h2
   have pT:a.2.1=b.2.1:=qv.1 (by simpa using h2);rw[qGO];omega
theorem qBc {a b:EdD}:cmpE a b=0↔a=b:=by
 obtain⟨x,y,z⟩:=a;obtain⟨x',y',z'⟩:=b;have h1:= @qGZ (x,y,z) (x',y',z');have h2:= @qKj (x,y,z) (x',y',z');simp only at h1 h2
 constructor
 ·intro h;have n1: ¬cmpE (x,y,z) (x',y',z')<0:=tO;have n2: ¬0<cmpE (x,y,z) (x',y',z'):=tO;rw[h1] at n1;rw[h2] at n2;have e1:x=x':=tO;have e2:y=y':=tO;have e3:z=z':=tO;rw[e1,e2,e3]
 ·intro h;injection h with e1 h
  injection h with e2 e3
  have n1: ¬cmpE (x,y,z) (x',y',z')<0:=by rw[h1];omega
  have n2: ¬0<cmpE (x,y,z) (x',y',z'):=by rw[h2];omega
  omega
theorem qz:TOrd cmpE:=⟨qBc,by intro a b;rw[qGZ,qKj];omega,by intro a b d h1 h2;rw[qGZ] at*;omega⟩
section
variable {α:Type} {c:α->α->Int}
def Srt (c:α->α->Int) (l:List α):Prop:=l.Pairwise fun a b=>c a b<0
theorem TOrd.irrefl (h:TOrd c) (a:α): ¬c a a<0:=by
 have:=(h.zero (a:=a) (b:=a)).2 rfl
 omega
theorem Srt.ext (h:TOrd c): ∀ {l l':List α},Srt c l->Srt c l'->(∀x,x∈l↔x∈l')->l=l'
 | [],[],_,_,_=>rfl
 | [],b::l',_,_,hm=>absurd ((hm b).2 tZ) tZ
 | a::l,[],_,_,hm=>absurd ((hm a).1 tZ) tZ
 | a::l,b::l',h1,h2,hm=>by
   have p1:=zao.1 h1;have p2:=zao.1 h2;have e:a=b:=by
    have ha:=(hm a).1 tZ;have hb:=(hm b).2 tZ;rcases zan.1 ha with e | ha
    ·exact e
    ·rcases zan.1 hb with e | hb
     ·exact e.symm
     ·exact absurd (h.trans (p1.1 b hb) (p2.1 a ha)) (h.irrefl a)
   subst e;congr 1
   refine Srt.ext h p1.2 p2.2 fun x=>⟨fun hx=> ?_,fun hx=> ?_⟩
   ·rcases zan.1 ((hm x).1 (by simp[hx])) with rfl | h'
    ·exact absurd (p1.1 x hx) (h.irrefl x)
    ·exact h'
   ·rcases zan.1 ((hm x).2 (by simp[hx])) with rfl | h'
    ·exact absurd (p2.1 x hx) (h.irrefl x)
    ·exact h'
def insS (c:α->α->Int) (x:α) (s:List α×Bool) (y:α):List α×Bool:=
 if c x y=0 then(s.1++ [y],true) else if c x y<0/\s.2=false then(s.1++ [x,y],true) else(s.1++ [y],s.2)
def insF (c:α->α->Int) (l:List α) (x:α):List α:=if(l.foldl (insS c x) ([],false)).2 then(l.foldl (insS c x) ([],false)).1 else(l.foldl (insS c x) ([],false)).1++ [x]
def insR (c:α->α->Int) (x:α):List α->List α
 | []=> [x]
 | y::l=>if c x y=0 then y::l else if c x y<0 then x::y::l else y::insR c x l
theorem qIq (x:α) (l acc:List α):l.foldl (insS c x) (acc,true)=(acc++l,true):=by
 induction l generalizing acc with
 | nil=>simp
 | cons y l ih=>
   rw[zaF];have:insS c x (acc,true) y=(acc++ [y],true):=by unfold insS;split<;>simp
   rw[this,ih];simp
theorem qDx (l:List α) (x:α):insF c l x=insR c x l:=by
 have key: ∀l acc:List α,(if(l.foldl (insS c x) (acc,false)).2 then(l.foldl (insS c x) (acc,false)).1 else(l.foldl (insS c x) (acc,false)).1++ [x])=acc++insR c x l:=by
  intro l;induction l with
  | nil=>intro acc;simp[insR]
  | cons y l ih=>
    intro acc;rw[zaF];by_cases h0:c x y=0
    ·have:insS c x (acc,false) y=(acc++ [y],true):=by unfold insS;rw[Wm h0]
     rw[this,qIq];simp[insR,h0]
    ·by_cases h1:c x y<0
     ·have:insS c x (acc,false) y=(acc++ [x,y],true):=by unfold insS;rw[Wn h0,Wm ⟨h1,rfl⟩]
      rw[this,qIq];simp[insR,h0,h1]
     ·have:insS c x (acc,false) y=(acc++ [y],false):=by unfold insS;rw[Wn h0,Wn (fun h=>h1 h.1)]
      rw[this,ih];simp[insR,h0,h1]
 simpa[insF] using key l []
theorem qFO (x:α) (l:List α) (h:TOrd c) (y:α):y∈insR c x l↔y=x\/y∈l:=by
 induction l with
 | nil=>simp[insR]
 | cons a l ih=>
   unfold insR;split
   ·rename_i h0
    have:=h.zero.1 h0
    subst this;simp
   ·split
    ·simp
    ·simp only[zan,ih];constructor
     ·rintro(e | e | e)
      ·exact .inr (.inl e)
      ·exact .inl e
      ·exact .inr (.inr e)
     ·rintro(e | e | e)
      ·exact .inr (.inl e)
      ·exact .inl e
      ·exact .inr (.inr e)
theorem qLd (h:TOrd c) (x:α) (l:List α) (hl:Srt c l):Srt c (insR c x l):=by
 induction l with
 | nil=>simp[insR,Srt]
 | cons a l ih=>
   have p:=zao.1 hl;unfold insR;split
   ·exact hl
   ·rename_i h0
    split
    ·rename_i h1
     refine zao.2 ⟨fun y hy=> ?_,hl⟩;rcases zan.1 hy with rfl | hy
     ·exact h1
     ·exact h.trans h1 (p.1 y hy)
    ·rename_i h1
     refine zao.2 ⟨fun y hy=> ?_,ih p.2⟩;rcases(qFO x l h y).1 hy with rfl | hy
     ·have:=(h.anti (a:=a) (b:=y)).2 tO
      exact this
     ·exact p.1 y hy
theorem qCF (l:List α) (x:α):(insF c l x).length<=l.length+1:=by
 rw[qDx];induction l with
 | nil=>simp[insR]
 | cons a l ih=>
   unfold insR;split
   ·simp
   ·split
    ·simp
    ·simp only[zaQ];omega
def srt (c:α->α->Int) (L:List α):List α:=L.foldl (insF c) []
theorem qAq (h:TOrd c) (L:List α):Srt c (srt c L)/\ ∀x,x∈srt c L↔x∈L:=by
 have key: ∀L acc:List α,Srt c acc->Srt c (L.foldl (insF c) acc)/\ ∀x,x∈L.foldl (insF c) acc↔x∈acc\/x∈L:=by
  intro L;induction L with
  | nil=>intro acc hs;exact⟨hs,fun x=>tZ⟩
  | cons y L ih=>
    intro acc hs;rw[zaF];obtain⟨h1,h2⟩:=ih (insF c acc y) (by rw[qDx];exact qLd h y acc hs);refine⟨h1,fun x=> ?_⟩;rw[h2,qDx,qFO y acc h];simp only[zan];constructor
    ·rintro((e | e) | e)
     ·exact .inr (.inl e)
     ·exact .inl e
     ·exact .inr (.inr e)
    ·rintro(e | e | e)
     ·exact .inl (.inr e)
     ·exact .inl (.inl e)
     ·exact .inr e
 obtain⟨h1,h2⟩:=key L [] List.Pairwise.nil;exact⟨h1,fun x=>by simpa[srt] using h2 x⟩
theorem qKl (h:TOrd c) {L l:List α} (hs:Srt c l) (hm: ∀x,x∈l↔x∈L):l=srt c L:=
 Srt.ext h hs (qAq h L).1 fun x=>by rw[hm,(qAq h L).2]
theorem qCp (L:List α):(srt c L).length<=L.length:=by
 have key: ∀L acc:List α,(L.foldl (insF c) acc).length<=acc.length+L.length:=by
  intro L;induction L with
  | nil=>intro acc;simp
  | cons y L ih=>
    intro acc;have h1:=ih (insF c acc y);have h2:=qCF (c:=c) acc y;simp only[zaF,zaQ];omega
 simpa[srt] using key L []
end
structure BelW (w:Wg) where
 W:Wg
 h:Wf w w W
instance (w:Wg):Inhabited (BelW w):=⟨⟨w,zab _ _⟩⟩
theorem qG {P:Program} {id:Nat} {Q:Exit->Act->Wg->Prop} {a:Act} {w:Wg} {l:List Oper} (hm:P.follows .mixedOrders=true) (hB:Region.lexB .any l.toArray=true)
  (h:wpQuiet P l.toArray (fun w'=> ∃p:BelW w,w'=p.W) (fun a'=> ∀w',(∃p:BelW w,w'=p.W)->Q .normal a' w') l a):(Code.region id l.toArray true).wp P Q a w:=
 wp_region_quiet (C:=fun w'=> ∃p:BelW w,w'=p.W) hm hB ⟨⟨w.drew,(zab _ _).drew⟩,rfl⟩ (by simpa using h)
theorem Calls.bel_of {P:Program} {f:FuncId} {args:Array Wh} {w:Wg} {p:BelW w} {v:Wh}
  (h:Wk P f args p.W fun e w'=>e= .returned v/\Wf p.W.heap.size p.W w'):Wk P f args p.W fun e w''=>e= .returned v/\ ∃q:BelW w,w''=q.W:=
 h.mono fun _ w' ⟨he,hb⟩=>⟨he,⟨w',p.h.trans (hb.mono p.h.size)⟩,rfl⟩
theorem Calls.bel_same {P:Program} {f:FuncId} {args:Array Wh} {w:Wg} {p:BelW w} {v:Wh}
  (h:Wk P f args p.W fun e w'=>e= .returned v/\p.W=w'):Wk P f args p.W fun e w''=>e= .returned v/\ ∃q:BelW w,w''=q.W:=
 h.mono fun _ w' ⟨he,hb⟩=>⟨he,p,hb.symm⟩
theorem BelW.cell {w:Wg} {b o:Nat} {v:Wh} (h:w.cell? ⟨b,o,none⟩=some v) (ac:b<w.heap.size) (p:BelW w):p.W.cell? ⟨b,o,none⟩=some v:=
 (p.h.cell (p:=⟨b,o,none⟩) ac).trans h
def dumL:List Oper->List Oper
 | []=> []
 | [o]=> [{o with op:= .move (.const (.bool false))}]
 | o::o'::r=>o::dumL (o'::r)
def qIB:List Oper->List Oper
 | []=> []
 | [o]=> [o]
 | _::o'::r=>qIB (o'::r)
theorem qIc: ∀l:List Oper,(dumL l).length=l.length
 | []=>rfl
 | [_]=>rfl
 | _::o'::r=>by show(dumL (o'::r)).length+1=_;rw[qIc (o'::r)];rfl
theorem qIE: ∀(l:List Oper) (j:Nat),j+1<l.length->(dumL l)[j]? =l[j]?
 | [],_,h=>by simp at h
 | [_],j,h=>by simp at h
 | _::_::_,0,_=>rfl
 | _::o'::r,j+1,h=>by
   show(dumL (o'::r))[j]? =(o'::r)[j]?
   exact qIE (o'::r) j (by simp at h⊢;omega)
theorem qJc: ∀(l:List Oper) (n:Nat),l.length=n+1-> ∃st,l[n]? =some st/\qIB l= [st]/\(dumL l)[n]? =some {st with op:= .move (.const (.bool false))}
 | [],n,h=>by simp at h
 | [o], n, h => by obtain rfl:n=0:=by simpa using h.symm
                   exact⟨o,rfl,rfl,rfl⟩
 | _::o'::r,0,h=>by simp at h
 | _::o'::r,n+1,h=>by
   obtain⟨st,h1,h2,h3⟩:=qJc (o'::r) n (by simpa using h);exact⟨st,h1,h2,h3⟩
def qLl (ops:Array Oper) (n:Nat):Bool:=
 (zat ops.size).all (fun i=>match ops[i]? with | some o=>o.after.all (fun e=> !Region.binds .any e||decide (e.on<i)) | none=>true)&&
 (zat n).all (fun i=>(zat ops.size).any fun j=>decide (i<j)&&match ops[j]? with | some o=>o.after.any (fun e=>Region.binds .any e&&e.on==i) | none=>false)&&
 match ops[n]? with | some o=>o.dst.isNone&&o.guard.isNone | none=>false
section
variable {P:Program} {ops ops':Array Oper} {n:Nat} {C:Wg->Prop}
structure LastOk (ops ops':Array Oper) (n:Nat) (st st':Oper):Prop where
 size:ops.size=n+1
 size':ops'.size=n+1
 like: ∀j,j<n->(ops'[j]?).map (·.after)=(ops[j]?).map (·.after)/\(ops'[j]?).bind (·.dst)=(ops[j]?).bind (·.dst)
 hst:ops[n]? =some st
 hst':ops'[n]? =some st'
 after:st'.after=st.after
 dst:st.dst=none
 dst':st'.dst=none
 guard:st.guard=none
 guard':st'.guard=none
 back: ∀i o,ops[i]? =some o-> ∀e∈o.after,Region.binds .any e=true->e.on<i
 chain: ∀i,i<n-> ∃j o,i<j/\ops[j]? =some o/\ ∃e∈o.after,Region.binds .any e=true/\e.on=i
variable {st st':Oper}
theorem LastOk.get (h:LastOk ops ops' n st st') (j:Nat):(ops'[j]?).map (·.after)=(ops[j]?).map (·.after)/\(ops'[j]?).bind (·.dst)=(ops[j]?).bind (·.dst):=by
 rcases Nat.lt_trichotomy j n with hj | rfl | hj
 ·exact h.like j hj
 ·rw[h.hst,h.hst'];simp[h.after,h.dst,h.dst']
 ·rw[zap (by rw[h.size'];omega),zap (by rw[h.size];omega)];exact⟨rfl,rfl⟩
theorem LastOk.ready (h:LastOk ops ops' n st st') (listed:Array Bool):Region.ready .any ops' listed=Region.ready .any ops listed:=by
 unfold Region.ready;rw[h.size,h.size'];refine List.filter_congr fun i _=> ?_;have:=(h.get i).1
 congr 1
 cases e1:ops'[i]? <;>cases e2:ops[i]? <;>rw[e1,e2] at this<;>simp at this⊢
 rw[this]
theorem LastOk.yielded (h:LastOk ops ops' n st st') (t:Array Wh):yielded ops' t=yielded ops t:=by
 funext j
 unfold Go.yielded;rw[(h.get j).2]
def Cl (ops:Array Oper) (listed:Array Bool):Prop:=
 listed.size=ops.size/\ ∀j o,ops[j]? =some o->listed.getD j false=true-> ∀e∈o.after,Region.binds .any e=true->listed.getD e.on false=true
theorem qAp {l:Array Bool} {i:Nat} (hi:i<l.size):l.getD i true=l.getD i false:=by simp[hi]
theorem Cl.set {listed:Array Bool} (h:Cl ops listed) {i:Nat} (hi:i∈Region.ready .any ops listed):Cl ops (listed.setIfInBounds i true):=by
 refine⟨by rw[Array.size_setIfInBounds];exact h.1,fun j o ho hl e he hb=> ?_⟩;by_cases dU:i=j
 ·subst dU;obtain⟨_,o',cV,aG⟩:=mem_ready.1 hi;rw[ho] at cV;injection cV with cV
  subst cV;exact getD_set_true (aG e he hb)
 ·rw[getD_set_ne false dU] at hl;exact getD_set_true (h.2 j o ho hl e he hb)
theorem LastOk.all (h:LastOk ops ops' n st st') {listed:Array Bool} (hc:Cl ops listed) (hr:n∈Region.ready .any ops listed):
  ∀(d i:Nat),n-i=d->i<n->listed.getD i false=true:=by
 intro d;induction d using zaR with
 | _ d ih=>
   intro i hd hi;obtain⟨j,o,dU,ho,e,he,hb,rfl⟩:=h.chain i hi;have hj:j<n+1:=by rw[<-h.size];exact(zae.1 ho).1
   by_cases pY:j=n
   ·subst pY;obtain⟨_,o',cV,aG⟩:=mem_ready.1 hr;rw[ho] at cV;injection cV with cV
    subst cV;exact aG e he hb
   ·exact hc.2 j o ho (ih (n-j) tO j rfl tO) e he hb
theorem LastOk.done (h:LastOk ops ops' n st st') {listed:Array Bool} (hc:Cl ops listed) (hr:n∈Region.ready .any ops listed):
  Region.ready .any ops (listed.setIfInBounds n true)= []:=by
 rw[List.eq_nil_iff_forall_not_mem];intro j hj;obtain⟨h0,o,ho,_⟩:=mem_ready.1 hj;have pY:j<n+1:=by rw[<-h.size];exact(zae.1 ho).1
 have hs:listed.size=n+1:=hc.1.trans h.size;by_cases e:n=j
 ·subst e;simp[hs] at h0
 ·rw[getD_set_ne true e,qAp tO,h.all hc hr _ j rfl tO] at h0;cases h0
theorem LastOk.stuck (h:LastOk ops ops' n st st') {listed:Array Bool} (hs:listed.size=ops.size): ∀i,i<ops.size->listed.getD i true=false->Region.ready .any ops listed≠ []:=by
 intro i;induction i using zaR with
 | _ i ih=>
   intro hi hl;have ho:ops[i]? =some ops[i]:=by simp[hi]
   by_cases aG: ∀e∈ops[i].after,Region.binds .any e=true->listed.getD e.on false=true
   ·exact List.ne_nil_of_mem (mem_ready.2 ⟨hl,_,ho,aG⟩)
   ·simp only[Classical.not_forall] at aG;obtain⟨e,he,hb,hn⟩:=aG;have ac:=h.back i _ ho e he hb;exact ih e.on ac tO (by rw[qAp tO];simpa using hn)
theorem qIT (h:LastOk ops ops' n st st') (hsame: ∀j,j<n->ops'[j]? =ops[j]?) {Q:Act->Prop} {Q':Exit->Act->Wg->Prop}
  (hQ: ∀a w,C w->Q a->st.wp P a w (fun a w=>Q' .normal a w) Q'\/(st.asks P a w/\LetsOut Q')):
  ∀(fuel:Nat) (listed:Array Bool) (a:Act) (w:Wg),C w->Cl ops listed->listed.getD n true=false->
  wpAnyQ P .any ops' C Q fuel listed a->wpAny P .any ops Q' fuel listed a w:=by
 intro fuel;induction fuel with
 | zero=>
   intro listed a w hw hc hn hh;have:=hh.1
   rw[h.ready] at this;exact absurd this (h.stuck hc.1 n (by rw[h.size];omega) hn)
 | succ fuel ih=>
   intro listed a w hw hc hn hh;refine⟨fun h0=>absurd h0 (h.stuck hc.1 n (by rw[h.size];omega) hn),fun i hi=> ?_⟩;have hq:=hh.2 i (by rw[h.ready];exact hi);by_cases cY:i=n
   ·subst cY;have hd:=h.done hc hi;unfold wpOp;unfold qOp at hq;simp only[h.hst,h.hst'] at hq⊢;have w1:Region.wanted st (Go.yielded ops a.tmps)=true:=by unfold Region.wanted;rw[h.guard]
    have w2:Region.wanted st' (Go.yielded ops' a.tmps)=true:=by unfold Region.wanted;rw[h.guard']
    rw[Wm w1];rw[Wm w2] at hq;obtain⟨v,_,hK⟩:=hq;rw[h.dst'] at hK;have RR:Q a:=by
     cases fuel with
     | zero=>exact hK.2
     | succ _=>exact hK.1 (by rw[h.ready];exact hd)
    exact(hQ a w hw RR).imp (Oper.wp_mono fun a' w' zk=>wpAny_done hd zk fuel) id
   ·have hs:=h.size;obtain⟨_,o,ho,_⟩:=mem_ready.1 hi;have ac:i<n:=by have:=(zae.1 ho).1;omega
    have e:wpOp P ops Q' i (wpAny P .any ops Q' fuel (listed.setIfInBounds i true)) a w=wpOp P ops' Q' i (wpAny P .any ops Q' fuel (listed.setIfInBounds i true)) a w:=by
     unfold wpOp;rw[hsame i ac,h.yielded]
    rw[e];exact wpOp_of_qOp hw (fun a' w' hw' hk=>ih _ a' w' hw' (hc.set hi) (by rw[getD_set_ne true cY];exact hn) hk) hq
end
theorem qJB {l:List Oper} {n:Nat} (hl:l.length=n+1) (hB:qLl l.toArray n=true): ∃st,qIB l= [st]/\LastOk l.toArray (dumL l).toArray n st {st with op:= .move (.const (.bool false))}:=by
 obtain⟨st,h1,h2,h3⟩:=qJc l n hl;refine⟨st,h2,?_⟩;unfold qLl at hB;simp only[zai,zau,zas,zaB,decide_eq_true_eq] at hB;obtain⟨⟨hb,hc⟩,hg⟩:=hB;have hst:l.toArray[n]? =some st:=by simpa using h1
 rw[hst] at hg;simp only[zai,zav] at hg;have vP: ∀j,j<n->((dumL l).toArray[j]?).map (·.after)=(l.toArray[j]?).map (·.after)/\((dumL l).toArray[j]?).bind (·.dst)=(l.toArray[j]?).bind (·.dst):=fun j hj=>by
  have e:(dumL l).toArray[j]? =l.toArray[j]? :=by simpa using qIE l j tO
  rw[e];exact⟨rfl,rfl⟩
 refine⟨by simpa using hl,by simpa[qIc] using hl,fun j hj=>vP j hj,hst,by simpa using h3,rfl,hg.1,hg.1,hg.2,hg.2,fun i o ho e he mF=> ?_,fun i hi=> ?_⟩
 ·have hi:=(zae.1 ho).1;have:=hb i hi
  rw[ho] at this;have:=zaC.1 this e he
  rw[mF] at this;simpa using this
 ·obtain⟨j,_,dU,hm⟩:=hc i hi;cases ho:l.toArray[j]? with
  | none=>rw[ho] at hm;cases hm
  | some o=>
    rw[ho] at hm;obtain⟨e,he,aL⟩:=za3.1 hm;simp only[zai,beq_iff_eq] at aL;exact⟨j,o,dU,ho,e,he,aL⟩
theorem qAN (n i:Nat):(zaS n false).getD i false=false:=by
 by_cases h:i<n<;>simp[h]
theorem qCD {P:Program} {id:Nat} {Q:Exit->Act->Wg->Prop} {a:Act} {w:Wg} {l:List Oper} (n:Nat) (hm:P.follows .mixedOrders=true) (hl:l.length=n+1) (hB:Region.lexB .any (dumL l).toArray=true) (hL:qLl l.toArray n=true)
  (h:wpQuiet P (dumL l).toArray (fun w'=> ∃p:BelW w,w'=p.W) (fun a'=> ∀w',(∃p:BelW w,w'=p.W)->wpList P (qIB l).toArray Q (qIB l) a' w') (dumL l) a):(Code.region id l.toArray true).wp P Q a w:=by
 obtain⟨st,e,af⟩:=qJB hl hL;have dq:=af.guard;simp only[Region.lexB,zai] at hB;refine wp_region_any hm (qIT (C:=fun w'=> ∃p:BelW w,w'=p.W) af (fun j hj=>by simpa using qIE l j tO) (Q:=fun a'=> ∀w',(∃p:BelW w,w'=p.W)->wpList P (qIB l).toArray Q (qIB l) a' w') (fun a' w' hw' hq=> ?_) _ _ _ _ ⟨⟨w.drew,(zab _ _).drew⟩,rfl⟩ ⟨tZ,?_⟩ ?_ ?_)
 ·have:=hq w' hw'
  rw[e] at this;unfold wpList at this;rw[Wm (by unfold Region.wanted;rw[dq])] at this;exact this
 ·intro j o ho hj;exfalso
  rw[qAN] at hj;cases hj
 ·rw[qAp (by simp[hl]),qAN]
 ·have:=wpAnyQ_lex (P:=P) (C:=fun w'=> ∃p:BelW w,w'=p.W) (md:= .any) hB.1 (dumL l) 0 (zaS (dumL l).toArray.size false) a tZ (by simpa using hB.2) h
  simpa[qIc] using this
def dumO (o:Oper):Oper:= {o with op:= .move (.const (.bool false))}
def dum3:List Oper->List Oper
 | a::b::c::d::r=>a::dum3 (b::c::d::r)
 | [oc,om,st]=> [dumO oc,om,dumO st]
 | l=>l
def qPY:List Oper->List Oper
 | _::b::c::d::r=>qPY (b::c::d::r)
 | l=>l
theorem qId: ∀l:List Oper,(dum3 l).length=l.length
 | _::b::c::d::r=>by show(dum3 (b::c::d::r)).length+1=_;rw[qId (b::c::d::r)];rfl
 | [_,_,_]=>rfl
 | []=>rfl
 | [_]=>rfl
 | [_,_]=>rfl
theorem qJl: ∀(l:List Oper) (c:Nat),l.length=c+3-> ∃oc om st,l[c]? =some oc/\l[c+1]? =some om/\l[c+2]? =some st/\qPY l= [oc,om,st]/\(dum3 l)[c]? =some (dumO oc)/\(dum3 l)[c+1]? =some om/\(dum3 l)[c+2]? =some (dumO st)/\ ∀j,j<c->(dum3 l)[j]? =l[j]?
 | a::b::x::d::r,0,h=>by simp at h
 | a::b::x::d::r,c+1,h=>by
   obtain⟨oc,om,st,h1,h2,h3,h4,h5,h6,h7,h8⟩:=qJl (b::x::d::r) c (by simpa using h);refine⟨oc,om,st,h1,h2,h3,h4,h5,h6,h7,fun j hj=> ?_⟩;cases j with
   | zero=>rfl
   | succ j=>exact h8 j tO
 | [oc,om,st],c,h=>by
   obtain rfl:c=0:=by simpa using h.symm
   exact⟨oc,om,st,rfl,rfl,rfl,rfl,rfl,rfl,rfl,fun j hj=>tO⟩
 | [],c,h=>by simp at h
 | [_],c,h=>by simp at h
 | [_,_],c,h=>by simp at h
def qNa (ops:Array Oper) (j i:Nat):Bool:=match ops[j]? with | some o=>o.after.any (fun e=>Region.binds .any e&&e.on==i) | none=>false
theorem qHD {ops:Array Oper} {j i:Nat} (h:qNa ops j i=true): ∃o,ops[j]? =some o/\ ∃e∈o.after,Region.binds .any e=true/\e.on=i:=by
 unfold qNa at h;cases ho:ops[j]? with
 | none=>rw[ho] at h;cases h
 | some o=>
   rw[ho] at h;obtain⟨e,he,aL⟩:=za3.1 h;simp only[zai,beq_iff_eq] at aL;exact⟨o,rfl,e,he,aL⟩
def qNf (ops:Array Oper) (c:Nat):Bool:=
 qLl ops (c+2)&&(zat c).all (fun i=>(zat (c+1)).any fun j=>decide (i<j)&&qNa ops j i)&&
 match ops[c]?,ops[c+1]? with
 | some oc,some om=>oc.guard.isNone&&om.guard.isNone&&oc.apart ops om&&(match oc.dst with | some d=> !(oc.looksAt ops).contains d | none=>false)&&(match om.dst with | some d=> !(om.looksAt ops).contains d | none=>false)&&(match oc.op with | .select _ _=>false | _=>true)&&(match om.op with | .select _ _=>false | _=>true)
 | _,_=>false
structure C3 (ops ops':Array Oper) (c:Nat) (oc om st:Oper) (d tm:Tmp):Prop where
 ok:LastOk ops ops' (c+2) st (dumO st)
 getc:ops[c]? =some oc
 getc':ops'[c]? =some (dumO oc)
 getm:ops[c+1]? =some om
 getm':ops'[c+1]? =some om
 gc:oc.guard=none
 gm:om.guard=none
 dc:oc.dst=some d
 dm:om.dst=some tm
 ap:oc.apart ops om=true
 self:d∉oc.looksAt ops
 selfm:tm∉om.looksAt ops
 sc: ∀cs b,oc.op≠ .select cs b
 sm: ∀cs b,om.op≠ .select cs b
 sink: ∀i,i<c-> ∃j o,i<j/\j<=c/\ops[j]? =some o/\ ∃e∈o.after,Region.binds .any e=true/\e.on=i
section
variable {P:Program} {ops ops':Array Oper} {c:Nat} {oc om st:Oper} {d tm:Tmp}
theorem qAi {o:Oper} (h:o.guard=none) (y:Nat->Option Bool):Region.wanted o y=true:=by unfold Region.wanted;rw[h]
theorem C3.head (h:C3 ops ops' c oc om st d tm) {listed:Array Bool} (hc:Cl ops listed) (hr:c∈Region.ready .any ops listed):
  ∀(x i:Nat),c-i=x->i<c->listed.getD i false=true:=by
 intro x;induction x using zaR with
 | _ x ih=>
   intro i hd hi;obtain⟨j,o,dU,Cy,ho,e,he,hb,rfl⟩:=h.sink i hi;by_cases pY:j=c
   ·subst pY;obtain⟨_,o',cV,aG⟩:=mem_ready.1 hr;rw[ho] at cV;injection cV with cV
    subst cV;exact aG e he hb
   ·exact hc.2 j o ho (ih (c-j) tO j rfl tO) e he hb
def Near (c:Nat) (listed:Array Bool):Prop:=listed.getD (c+2) true=false/\ ∀i,i<c+2->listed.getD i false=true
theorem C3.only (h:C3 ops ops' c oc om st d tm) {listed:Array Bool} (hc:Cl ops listed) (hn:Near c listed):Region.ready .any ops listed≠ []/\ ∀i∈Region.ready .any ops listed,i=c+2:=by
 have hs:listed.size=c+3:=hc.1.trans h.ok.size;refine⟨h.ok.stuck hc.1 (c+2) (by rw[h.ok.size];omega) hn.1,fun i hi=> ?_⟩;obtain⟨h0,o,ho,_⟩:=mem_ready.1 hi;have ac:i<c+3:=by rw[<-h.ok.size];exact(zae.1 ho).1
 by_cases aQ:i<c+2
 ·rw[qAp tO,hn.2 i aQ] at h0;cases h0
 ·omega
theorem C3.getQ (h:C3 ops ops' c oc om st d tm) {C:Wg->Prop} {Q:Act->Prop} {listed:Array Bool} (hc:Cl ops listed) (hn:Near c listed):
  ∀ {fuel:Nat} {b:Act},wpAnyQ P .any ops' C Q fuel listed b->Q b:=by
 intro fuel b hh;obtain⟨ai,aG⟩:=h.only hc hn;obtain⟨i,hi⟩:=zaM _ ai;have cY:=aG i hi;subst cY;cases fuel with
 | zero=>have h1:=hh.1;rw[h.ok.ready] at h1;exact absurd h1 ai
 | succ f=>
   have hq:=hh.2 (c+2) (by rw[h.ok.ready];exact hi);unfold qOp at hq;simp only[h.ok.hst'] at hq;rw[Wm (qAi h.ok.guard' _)] at hq;obtain⟨v,_,hK⟩:=hq;rw[h.ok.dst'] at hK;have hd:=h.ok.done hc hi;cases f with
   | zero=>exact hK.2
   | succ _=>exact hK.1 (by rw[h.ok.ready];exact hd)
theorem C3.fin (h:C3 ops ops' c oc om st d tm) {Q':Exit->Act->Wg->Prop} {listed:Array Bool} (hc:Cl ops listed) (hn:Near c listed) {a:Act} {w:Wg}
  (hw:wpList P #[st] Q' [st] a w): ∀fuel,wpAny P .any ops Q' (fuel+1) listed a w:=by
 intro fuel;obtain⟨ai,aG⟩:=h.only hc hn;refine⟨fun h0=>absurd h0 ai,fun i hi=> ?_⟩;have cY:=aG i hi;subst cY;unfold wpOp;simp only[h.ok.hst];rw[Wm (qAi h.ok.guard _)];unfold wpList at hw;rw[Wm (qAi h.ok.guard _)] at hw;exact hw.imp (Oper.wp_mono fun a' w' zk=>wpAny_done (h.ok.done hc hi) zk fuel) id
def qNi (P:Program) (C:Wg->Prop) (Q':Exit->Act->Wg->Prop) (oc om st:Oper) (d:Tmp) (b:Act):Prop:=
 (∃vm,∀w2,(execOp b.eval om).run P w2= .ok (.value vm) w2)/\
 ∀wx,C wx-> ∃f args,(execOp b.eval oc).run P wx= .ok (.enter f args) wx/\Wk P f args wx fun e w2=> ∃v,e= .returned v/\wpList P #[st] Q' [st] (b.put (some d) v) w2
theorem qMY (a:Act) (d:Tmp) (u v:Wh):(a.put (some d) u).put (some d) v=a.put (some d) v:=by
 simp[Act.put,Array.setIfInBounds_setIfInBounds]
theorem C3.main (h:C3 ops ops' c oc om st d tm) {C:Wg->Prop} {Q':Exit->Act->Wg->Prop} (hsame: ∀j,j<c->ops'[j]? =ops[j]?):
  ∀(fuel:Nat) (listed:Array Bool) (a:Act) (w:Wg),C w->Cl ops listed->listed.getD c true=false->listed.getD (c+2) true=false->
  wpAnyQ P .any ops' C (qNi P C Q' oc om st d) fuel listed a->wpAny P .any ops Q' fuel listed a w:=by
 intro fuel;have apx:=Oper.apart_spec h.ap;have zE:some d≠some tm:=fun e=>apx.2.1 d h.dc (by rw[h.dm,e]);have e_c: ∀(a:Act) v,execOp (a.put (some d) v).eval oc=execOp a.eval oc:=fun a v=>execOp_put (ops:=ops) oc h.sc a (some d) v fun x hx=>by injection hx with hx;subst hx;exact h.self
 have e_cm: ∀(a:Act) v,execOp (a.put (some tm) v).eval oc=execOp a.eval oc:=fun a v=>execOp_put (ops:=ops) oc h.sc a (some tm) v fun x hx=>apx.2.2 x (by rw[h.dm,hx]);have e_m: ∀(a:Act) v,execOp (a.put (some d) v).eval om=execOp a.eval om:=fun a v=>execOp_put (ops:=ops) om h.sm a (some d) v fun x hx=>apx.1 x (by rw[h.dc,hx]);have e_mm: ∀(a:Act) v,execOp (a.put (some tm) v).eval om=execOp a.eval om:=fun a v=>execOp_put (ops:=ops) om h.sm a (some tm) v fun x hx=>by injection hx with hx;subst hx;exact h.selfm
 induction fuel with
 | zero=>
   intro listed a w hw hc hcn hn hh;have:=hh.1
   rw[h.ok.ready] at this;exact absurd this (h.ok.stuck hc.1 (c+2) (by rw[h.ok.size];omega) hn)
 | succ fuel ih=>
   intro listed a w hw hc hcn hn hh;have hs:listed.size=c+3:=hc.1.trans h.ok.size;refine⟨fun h0=>absurd h0 (h.ok.stuck hc.1 (c+2) (by rw[h.ok.size];omega) hn),fun i hi=> ?_⟩;have hq:=hh.2 i (by rw[h.ok.ready];exact hi);obtain⟨ci,o,ho,_⟩:=mem_ready.1 hi;have ac:i<c+3:=by rw[<-h.ok.size];exact(zae.1 ho).1
   have cY:i≠c+2:=by
    intro e;subst e;have:=h.ok.all hc hi _ c rfl tO
    rw[qAp tO,this] at hcn;cases hcn
   by_cases hic:i=c
   ·subst hic;have jw:=hc.set hi;have oJ:=h.head hc hi;unfold wpOp;unfold qOp at hq;simp only[h.getc,h.getc'] at hq⊢;rw[Wm (qAi h.gc _)];rw[Wm (qAi (show(dumO oc).guard=none from h.gc) _)] at hq;obtain⟨v0,_,hK⟩:=hq;rw[show(dumO oc).dst=some d from h.dc] at hK;refine .inl ?_;unfold Oper.wp;have zk:(listed.setIfInBounds i true).getD (i+2) true=false:=by rw[getD_set_ne true tO];exact hn
    by_cases dK:listed.getD (i+1) false=true
    ·have near:Near i (listed.setIfInBounds i true):=⟨zk,fun j hj=>by
      by_cases e:i=j
      ·subst e;simp[hs]
      ·rw[getD_set_ne false e];by_cases e1:j=i+1
       ·subst e1;exact dK
       ·exact oJ _ j rfl tO⟩
     obtain⟨_,hB⟩:=h.getQ jw near hK;obtain⟨f,args,hr,aZ⟩:=hB w hw;rw[e_c] at hr;rw[hr];simp only[Oper.upon];refine aZ.mono fun e w2 he=> ?_;obtain⟨v,rfl,hl⟩:=he;rw[qMY] at hl;show wpAny P .any ops Q' fuel (listed.setIfInBounds i true) (a.put oc.dst v) w2
     rw[h.dc];cases fuel with
     | zero=>have h1:=hK.1;rw[h.ok.ready] at h1;exact absurd h1 (h.only jw near).1
     | succ f=>exact h.fin jw near hl f
    ·have Ks:listed.getD (i+1) true=false:=by rw[qAp tO];simpa using dK
     have mP:(listed.setIfInBounds i true).getD (i+1) true=false:=by rw[getD_set_ne true tO];exact Ks
     have tC: ∀j∈Region.ready .any ops (listed.setIfInBounds i true),j=i+1:=fun j hj=>by
      obtain⟨tS,oj,vy,_⟩:=mem_ready.1 hj;have RH:j<i+3:=by rw[<-h.ok.size];exact(zae.1 vy).1
      by_cases e2:j=i+2
      ·subst e2;have:=h.ok.all jw hj _ (i+1) rfl tO
       rw[qAp (by simp[hs]),this] at mP;cases mP
      ·by_cases e0:i=j
       ·subst e0;simp[hs] at tS
       ·by_cases e1:j=i+1
        ·exact e1
        ·rw[getD_set_ne true e0,qAp tO,oJ _ j rfl tO] at tS;cases tS
     have ai:=h.ok.stuck jw.1 (i+1) (by rw[h.ok.size];omega) mP;have EP:i+1∈Region.ready .any ops (listed.setIfInBounds i true):=by
      obtain⟨j,hj⟩:=zaM _ ai;have:=tC j hj
      subst this;exact hj
     cases fuel with
     | zero=>have h1:=hK.1;rw[h.ok.ready] at h1;exact absurd h1 ai
     | succ f=>
       have ni:=hK.2 (i+1) (by rw[h.ok.ready];exact EP);unfold qOp at ni;simp only[h.getm'] at ni;rw[Wm (qAi h.gm _)] at ni;obtain⟨um,yh,Kw⟩:=ni;rw[h.dm] at Kw;have dp:=jw.set EP;have near:Near i ((listed.setIfInBounds i true).setIfInBounds (i+1) true):=⟨by rw[getD_set_ne true tO];exact zk,fun j hj=>by
        by_cases e1:i+1=j
        ·subst e1;simp[hs]
        ·rw[getD_set_ne false e1];by_cases e:i=j
         ·subst e;simp[hs]
         ·rw[getD_set_ne false e];exact oJ _ j rfl tO⟩
       obtain⟨⟨vm,Kp⟩,hB⟩:=h.getQ dp near Kw;have hu:=yh w hw;unfold Oper.quietAt at hu;rw[e_mm] at Kp;rw[Kp w] at hu;obtain⟨_,hu⟩:=hu;obtain⟨f2,args,hr,aZ⟩:=hB w hw;rw[e_cm,e_c] at hr;rw[hr];simp only[Oper.upon];refine aZ.mono fun e w2 he=> ?_;obtain⟨v,rfl,hl⟩:=he;rw[Act.put_comm (a.put (some d) v0) um v (fun x hx=>by injection hx with hx;subst hx;exact zE),qMY,<-hu] at hl;show wpAny P .any ops Q' (f+1) (listed.setIfInBounds i true) (a.put oc.dst v) w2
       rw[h.dc];refine⟨fun h0=>absurd h0 ai,fun j hj=> ?_⟩;have ch:=tC j hj;subst ch;unfold wpOp;simp only[h.getm];rw[Wm (qAi h.gm _)];refine .inl ?_;unfold Oper.wp;rw[e_m,<-e_m a v0,Kp w2];show wpAny P .any ops Q' f _ ((a.put (some d) v).put om.dst vm) w2
       rw[h.dm];cases f with
       | zero=>have h1:=Kw.1;rw[h.ok.ready] at h1;exact absurd h1 (h.only dp near).1
       | succ f=>exact h.fin dp near hl f
   ·have je:wpOp P ops Q' i (wpAny P .any ops Q' fuel (listed.setIfInBounds i true)) a w=wpOp P ops' Q' i (wpAny P .any ops Q' fuel (listed.setIfInBounds i true)) a w:=by
     unfold wpOp;rw[h.ok.yielded];by_cases e1:i=c+1
     ·subst e1;rw[h.getm,h.getm']
     ·rw[hsame i tO]
    rw[je];exact wpOp_of_qOp hw (fun a' w' hw' hk=>ih _ a' w' hw' (hc.set hi) (by rw[getD_set_ne true hic];exact hcn) (by rw[getD_set_ne true cY];exact hn) hk) hq
end
theorem qRL {l:List Oper} {c:Nat} (hl:l.length=c+3) (hB:qNf l.toArray c=true): ∃oc om st d tm,qPY l= [oc,om,st]/\C3 l.toArray (dum3 l).toArray c oc om st d tm/\ ∀j,j<c->(dum3 l).toArray[j]? =l.toArray[j]? :=by
 obtain⟨oc,om,st,h1,h2,h3,h4,h5,h6,h7,h8⟩:=qJl l c hl;unfold qNf at hB;simp only[zai,zau,zas,zaB,decide_eq_true_eq] at hB;obtain⟨⟨hL,hS⟩,hM⟩:=hB;have e1:l.toArray[c]? =some oc:=by simpa using h1
 have e2:l.toArray[c+1]? =some om:=by simpa using h2
 have e3:l.toArray[c+2]? =some st:=by simpa using h3
 have f1:(dum3 l).toArray[c]? =some (dumO oc):=by simpa using h5
 have f2:(dum3 l).toArray[c+1]? =some om:=by simpa using h6
 have f3:(dum3 l).toArray[c+2]? =some (dumO st):=by simpa using h7
 have f4: ∀j,j<c->(dum3 l).toArray[j]? =l.toArray[j]? :=fun j hj=>by simpa using h8 j hj
 rw[e1,e2] at hM;simp only[zai,zav] at hM;obtain⟨⟨⟨⟨⟨⟨gc,gm⟩,ap⟩,sd⟩,sm⟩,nsc⟩,nsm⟩:=hM;obtain⟨d,dc⟩: ∃d,oc.dst=some d:=by
  cases h:oc.dst with
  | none=>rw[h] at sd;cases sd
  | some d=>exact⟨d,rfl⟩
 obtain⟨tm,dm⟩: ∃d,om.dst=some d:=by
  cases h:om.dst with
  | none=>rw[h] at sm;cases sm
  | some d=>exact⟨d,rfl⟩
 rw[dc] at sd;rw[dm] at sm;refine⟨oc,om,st,d,tm,h4,?_,f4⟩;unfold qLl at hL;simp only[zai,zau,zas,zaB,decide_eq_true_eq] at hL;obtain⟨⟨hb,hc⟩,hg⟩:=hL;rw[e3] at hg;simp only[zai,zav] at hg;have vP: ∀j,j<c+2->((dum3 l).toArray[j]?).map (·.after)=(l.toArray[j]?).map (·.after)/\((dum3 l).toArray[j]?).bind (·.dst)=(l.toArray[j]?).bind (·.dst):=fun j hj=>by
  rcases zaZ j c with h | h
  ·rw[f4 j h];exact⟨rfl,rfl⟩
  ·rcases(show j=c\/j=c+1 by omega) with rfl | rfl
   ·rw[e1,f1];exact⟨rfl,rfl⟩
   ·rw[e2,f2];exact⟨rfl,rfl⟩
 have ok:LastOk l.toArray (dum3 l).toArray (c+2) st (dumO st):=by
  refine⟨by simpa using hl,by simpa[qId] using hl,vP,e3,f3,rfl,hg.1,hg.1,hg.2,hg.2,fun i o ho e he mF=> ?_,fun i hi=> ?_⟩
  ·have hi:=(zae.1 ho).1;have:=hb i hi
   rw[ho] at this;have:=zaC.1 this e he
   rw[mF] at this;simpa using this
  ·obtain⟨j,_,dU,hm⟩:=hc i hi;obtain⟨o,ho,h⟩:=qHD (ops:=l.toArray) (j:=j) (i:=i) hm;exact⟨j,o,dU,ho,h⟩
 refine⟨ok,e1,f1,e2,f2,gc,gm,dc,dm,ap,by simpa using sd,by simpa using sm,fun cs b h=>(by rw[h] at nsc;cases nsc),fun cs b h=>(by rw[h] at nsm;cases nsm),fun i hi=> ?_⟩;obtain⟨j,hj,dU,hw⟩:=hS i hi;obtain⟨o,ho,h⟩:=qHD hw;exact⟨j,o,dU,tO,ho,h⟩
theorem qBb {P:Program} {id:Nat} {Q:Exit->Act->Wg->Prop} {a:Act} {w:Wg} {l:List Oper} {oc om st:Oper} {d:Tmp} (c:Nat) (hm:P.follows .mixedOrders=true) (hl:l.length=c+3) (hB:Region.lexB .any (dum3 l).toArray=true) (hL:qNf l.toArray c=true)
  (h3:qPY l= [oc,om,st]) (hd:oc.dst=some d)
  (h:wpQuiet P (dum3 l).toArray (fun w'=> ∃p:BelW w,w'=p.W) (qNi P (fun w'=> ∃p:BelW w,w'=p.W) Q oc om st d) (dum3 l) a):(Code.region id l.toArray true).wp P Q a w:=by
 obtain⟨oc',om',st',d',tm,e,af,hs⟩:=qRL hl hL;rw[h3] at e;injection e with x1 e
 injection e with x2 e
 injection e with x3 _
 subst x1 x2 x3;have uO:d=d':=by have:=af.dc;rw[hd] at this;injection this
 subst uO;simp only[Region.lexB,zai] at hB;refine wp_region_any hm (af.main (C:=fun w'=> ∃p:BelW w,w'=p.W) hs _ _ _ _ ⟨⟨w.drew,(zab _ _).drew⟩,rfl⟩ ⟨tZ,?_⟩ ?_ ?_ ?_)
 ·intro j o ho hj;exfalso
  rw[qAN] at hj;cases hj
 ·rw[qAp (by simp[hl]),qAN]
 ·rw[qAp (by simp[hl]),qAN]
 ·have:=wpAnyQ_lex (P:=P) (C:=fun w'=> ∃p:BelW w,w'=p.W) (md:= .any) hB.1 (dum3 l) 0 (zaS (dum3 l).toArray.size false) a tZ (by simpa using hB.2) h
  simpa[qId] using this
theorem ArgE.cells {w:Wg} {ad:Addr} {m cap:Nat} {es:List EdD} (h:ArgE w (.slice (some ad) m cap) es): ∀j y,(edCs es)[j]? =some y->w.cell? (ad.add j)=some y:=by
 intro j y hj;have ac:j<es.length*3:=by
  have:=(zaL.1 hj).1
  rw[qCX] at this;exact this
 have hk:j/3<es.length:=tO;obtain⟨b,off,hA,_,c0,c1,c2,_⟩:=h.at hk;injection hA with hA
 subst hA;have hg:=qHn es (j/3) (j%3) hk tO;have e:j/3*3+j%3=j:=tO;rw[e,hj] at hg;rw[Addr.add_lit];have hr:j%3=0\/j%3=1\/j%3=2:=tO;rcases hr with hr | hr | hr
 ·rw[hr] at hg;simp only[edC,zam] at hg;rw[hg,<-c0];congr 2;omega
 ·rw[hr] at hg;simp only[edC,zam,zax] at hg;rw[hg,<-c1];congr 2;omega
 ·rw[hr] at hg;simp only[edC,zam,zax] at hg;rw[hg,<-c2];congr 2;omega
theorem qBY {w:Wg} {ops:Array Oper} {rest:List Oper} {o:Oper} {a:Act} {Q:Exit->Act->Wg->Prop} (dq:o.guard=none) (s x:Operand)
  (ho:o.op= .call {callee:= .builtin .append,args:= #[s,x],argTypes:= #[24,24]})
  (base:Nat) (v:Wh) (es:List EdD) (aa:OwE w base v es) (hs:a.eval s=v) (b:Nat) (e:EdD) (hx:a.eval x= .slice (some ⟨b,0,none⟩) 1 1)
  (hc: ∀j u,(edC e)[j]? =some u->w.cell? ⟨b,j,none⟩=some u) (he:E64 e) (hl:es.length<=1073741824) (au:base<=w.heap.size)
  (h: ∀v' w',OwE w' base v' (es++ [e])->w.grownBy w' v.ownBlock->(v'.ownBlock=v.ownBlock\/v'.ownBlock=some w)->wpList Tryz.prog ops Q rest (a.put o.dst v') w'):
  wpList Tryz.prog ops Q (o::rest) a w:=by
 obtain⟨i0,ci,cB,bi,bQ⟩:=info_parts qFI;refine wpList_append_own_at _ dq s x 24 ho base 97 i0 _ 3 24 Tryz.underlying24 ci cB bi bQ rfl tD v es.length (edCs es) hs aa.1 ⟨b,0,none⟩ 1 1 (edC e) hx rfl ?_ ?_ (by unfold maxLen;omega) tO au ?_
 ·intro j u hj;rw[Addr.add_lit,za2];exact hc j u hj
 ·intro u hu;simp[edC] at hu
  rcases hu with rfl | rfl | rfl<;>rfl
 ·intro v' w' h1 h2 h3 h5;refine h v' w' ⟨?_,qEc aa.2 (qLT he)⟩ h2 h5;have e1:edCs (es++ [e])=edCs es++edC e:=by rw[qDM];simp[edCs]
  rw[e1,za4];exact h1
theorem qDm {w:Wg} {o:Oper} {a:Act} {K:Act->Wg->Prop} {Q:Exit->Act->Wg->Prop} (s x:Operand)
  (ho:o.op= .call {callee:= .builtin .append,args:= #[s,x],argTypes:= #[24,24]})
  (base:Nat) (v:Wh) (xs:List EdD) (aa:OwE w base v xs) (hs:a.eval s=v) (u:Wh) (ys:List EdD) (hr:ArgE w u ys) (hx:a.eval x=u)
  (hl:xs.length+ys.length<=1073741824) (au:base<=w.heap.size)
  (h: ∀v' w',OwE w' base v' (xs++ys)->w.grownBy w' v.ownBlock->(v'.ownBlock=v.ownBlock\/v'.ownBlock=some w)->K (a.put o.dst v') w'):
  o.wp Tryz.prog a w K Q:=by
 obtain⟨i0,ci,cB,bi,bQ⟩:=info_parts qFI;have Jf:=hr;obtain⟨A,cap,rfl,hc,hm,hn,hE,hb⟩:=hr;rcases A with _ | ad
 ·have h0:ys= []:=zal (by
   rcases za0 ys.length with h0 | h0
   ·exact h0
   ·obtain⟨_,_,h,_⟩:=hb h0;cases h)
  subst h0;obtain rfl:=hn rfl
  have gV:=run_append_owned_none (P:=Tryz.prog) w base 24 o.type 97 i0 3 Tryz.underlying24 ci v xs.length (edCs xs) aa.1;unfold Oper.wp execOp;simp only[ho,resolve,invoke,builtin,Sem.run_bind,Sem.run_pure,Result.andThen_ok,zaz,zay,zaN,hs,hx,zba,gV];exact h v w (by simpa using aa) (zbb.refl _ _) (.inl rfl)
 ·obtain⟨v',w',gV,h1,h2,_,h5⟩:=run_append_own_at (P:=Tryz.prog) w base 24 o.type 97 i0 _ 3 24 Tryz.underlying24 ci cB bi bQ rfl tD v xs.length (edCs xs) aa.1 ad ys.length cap (edCs ys) (by rw[qCX])
   Jf.cells (fun u hu=>qOl hu) (by unfold maxLen;omega) tO au
  unfold Oper.wp execOp;simp only[ho,resolve,invoke,builtin,Sem.run_bind,Sem.run_pure,Result.andThen_ok,zaz,zay,zaN,hs,hx,gV];exact h v' w' ⟨by rw[qDM,za4];exact h1,qEc aa.2 hE⟩ h2 h5
theorem qFu {w:Wg} {ops:Array Oper} {rest:List Oper} {o:Oper} {a:Act} {Q:Exit->Act->Wg->Prop} (dq:o.guard=none) (s x:Operand)
  (ho:o.op= .call {callee:= .builtin .append,args:= #[s,x],argTypes:= #[24,24]})
  (base:Nat) (v:Wh) (xs:List EdD) (aa:OwE w base v xs) (hs:a.eval s=v) (u:Wh) (ys:List EdD) (hr:ArgE w u ys) (hx:a.eval x=u)
  (hl:xs.length+ys.length<=1073741824) (au:base<=w.heap.size)
  (h: ∀v' w',OwE w' base v' (xs++ys)->w.grownBy w' v.ownBlock->(v'.ownBlock=v.ownBlock\/v'.ownBlock=some w)->wpList Tryz.prog ops Q rest (a.put o.dst v') w'):
  wpList Tryz.prog ops Q (o::rest) a w:=
 wpList_plain dq fun _ hK=>qDm s x ho base v xs aa hs u ys hr hx hl au fun v' w' h1 h2 h3=>hK _ _ (h v' w' h1 h2 h3)
theorem qFl {w:Wg} {ops:Array Oper} {o:Oper} {a:Act} {K:Act->Wg->Prop} {Q:Exit->Act->Wg->Prop} {E:Prop} (dq:o.guard=none) (s x:Operand)
  (ho:o.op= .call {callee:= .builtin .append,args:= #[s,x],argTypes:= #[24,24]})
  (base:Nat) (v:Wh) (xs:List EdD) (aa:OwE w base v xs) (hs:a.eval s=v) (u:Wh) (ys:List EdD) (hr:ArgE w u ys) (hx:a.eval x=u)
  (hl:xs.length+ys.length<=1073741824) (au:base<=w.heap.size)
  (h: ∀v' w',OwE w' base v' (xs++ys)->w.grownBy w' v.ownBlock->(v'.ownBlock=v.ownBlock\/v'.ownBlock=some w)->K (a.put o.dst v') w'):
  if Region.wanted o (yielded ops a.tmps)=true then Oper.wp Tryz.prog o a w K Q else E:=by
 have hw:Region.wanted o (yielded ops a.tmps)=true:=by simp[Region.wanted,dq]
 rw[Wm hw];exact qDm s x ho base v xs aa hs u ys hr hx hl au h
theorem qEM (w:Wg) (N:Nat) (hN:w.heap.size=N) {base:Nat} (hb:base<=N):OwE (w.alloc (.cells #[] 97)) base (.slice (some ⟨N,0,none⟩) 0 0) []:=by
 subst hN;exact qKH w hb
theorem xP10 (n:Nat) (hn:n=121/\xPA\/n=120/\xPB) (v:Wh) (g:GrD) (w:Wg) (h:ArgG w v g) (hl:g.2.2.length<=1073741824):
  Wk Tryz.prog n #[v] w fun e w'=> ∃r,e= .returned r/\OwG w' w r g/\Wf w w w':=by
 rcases hn with ⟨rfl,hD⟩ | ⟨rfl,hD⟩
 all_goals
  obtain⟨s,rfl,h1,h2,ha⟩:=h;have H:=qA ha;obtain⟨A,cap,rfl⟩:=ha.form;clear ha;first | go_enter Tryz.func121,Tryz.ntmps121 | go_enter Tryz.func120,Tryz.ntmps120
  go_wp2_with fail;go_region_held3 (fun w'=>w'.cell? ⟨w,0,none⟩=some (.int .i64 g.1)/\w'.cell? ⟨w,1,none⟩=some (.int .i64 g.2.1)/\w'.cell? ⟨w,2,none⟩=some (.slice A g.2.2.length cap)) (first | go_keep | (refine⟨?_,?_,?_⟩<;>(rw[hc _ _ tO];simp[go_sem])))
   (first | (refine qFl rfl (.tmp 7) (.tmp 9) rfl (w.heap.size+1+1) _ [] (qEM _ (w.heap.size+1+1) (by simp[World.drew,World.drewN]) (zaa _)) (by rfl) _ g.2.2 ?_ (by rfl) (by simp;omega) tZ ?_;(exact(by repeat(first | exact(Hid.out H) | (refine ArgE.drew ?_) | (refine ArgE.drewN ?_ _) | (refine ArgE.alloc ?_ _))));intro v1 w1 o1 g1 p1;have O1:=qA o1;have da:=(zab (w.heap.size+1+1) _).grown g1 tZ (fun k hk=>by simp[zaG] at hk;omega);have B1:=qA da;obtain⟨A1,ak,rfl,_⟩:=OwE.form o1;obtain⟨hc,hf⟩:=qHj da;have hz:w.heap.size+1+1<w1.heap.size:=(by have:=g1.size;simp at this;omega);clear o1 da g1 p1))
  go_wp2;refine Wj (v:= .agg #[.int .i64 g.1, .int .i64 g.2.1, .slice A1 g.2.2.length ak]) (by simp[results,Tryz.results121,Tryz.results120,go_sem,hc,hz]) rfl ⟨_,rfl,⟨_,rfl,h1,h2,?_⟩,?_⟩
  ·refine OwE.mono (base:=w.heap.size+1+1) ?_ tO;have O2:Wi (OwE w1 (w.heap.size+1+1) (.slice A1 g.2.2.length ak) g.2.2):=qA (by simpa using O1.o);exact(by repeat(first | exact(Hid.out O2) | exact(Hid.out O2).drewN _ | (refine OwE.far ?_ tB _) | (refine OwE.alloc ?_ _) | (refine OwE.drew ?_) | (refine OwE.drewN ?_ _)))
  ·exact(by repeat(first | exact .refl _ _ | (refine BxS ?_ _) | (refine qC ?_ _) | (refine zac ?_) | (refine BxA ?_ _) | (refine BxT ?_ (Hid.out B1))))
def degE (v:Int) (e:EdD):Nat:=(if e.1=v then 1 else 0)+(if e.2.2=v then 1 else 0)
def degL (es:List EdD) (v:Int):Nat:=(es.map (degE v)).sum
theorem qIm (es:List EdD) (v:Int) (k:Nat) (h:k<es.length):degL (es.take (k+1)) v=degL (es.take k) v+degE v es[k]:=by
 unfold degL;rw[zag h,List.map_append,List.sum_append];simp
theorem qHo (es:List EdD) (v:Int) (k:Nat):degL (es.take k) v<=2*k:=by
 have key: ∀l:List EdD,degL l v<=2*l.length:=by
  intro l;unfold degL;induction l with
  | nil=>simp
  | cons e l ih=>
    simp only[zay,List.sum_cons,zaQ];have:degE v e<=2:=by unfold degE;split<;>split<;>omega
    omega
 have:=key (es.take k)
 rw[za7] at this;omega
theorem qFv (v:Wh) (g:GrD) (u:Int) (w:Wg) (h:ArgG w v g) (hl:g.2.2.length<=1073741824):
  Wk Tryz.prog 162 #[v, .int .i64 u] w fun e w'=>e= .returned (.int .i64 (degL g.2.2 u))/\Wf w w w':=by
 obtain⟨s,rfl,_,_,ha⟩:=h;have H:=qA ha;obtain⟨A,cap,rfl,aR,hm,_⟩:=ha;unfold maxLen at hm;go_enter Tryz.func162,Tryz.ntmps162
 go_wp2;have hb:Wf w w (w.alloc (.cells #[.int .i64 g.1,.int .i64 g.2.1, .slice A g.2.2.length cap] 26)):=ZZ;have k2:(w.alloc (.cells #[.int .i64 g.1,.int .i64 g.2.1, .slice A g.2.2.length cap] 26)).cell? ⟨w,2,none⟩=some (.slice A g.2.2.length cap):=by simp[go_sem]
 generalize w.alloc (.cells #[.int .i64 g.1,.int .i64 g.2.1, .slice A g.2.2.length cap] 26)=w1 at hb k2⊢;have HB:=qA hb;clear hb;go_loop [5,6] (fun n i=> ∃k:Nat,k<=g.2.2.length/\i= .int .i64 k/\n= .int .i64 (degL (g.2.2.take k) u)) (fun _ i=>g.2.2.length-(intOf i).toNat)
 case atStart=>exact⟨0,zah _,rfl,rfl⟩
 case round=>
  obtain⟨k,hk,rfl,rfl⟩:=hrel;by_cases ac:k<g.2.2.length
  ·obtain⟨b,off,rfl,cX,c0,c1,c2,_⟩:=(H.below HB).at ac;have HS:=qA (qIm g.2.2 u k ac);have fN:=qHo g.2.2 u k;generalize g.2.2[k]=e at*;generalize degL (g.2.2.take k) u=d at*;rcases e1:(e.1==u) with _ | _
   ·rcases e2:(e.2.2==u) with _ | _
    ·have F:Wi (degL (g.2.2.take (k+1)) u=d):=qA (by rw[HS.o];simp at e1 e2;simp[degE,e1,e2]);go_wp2;go_round
     case rel=>exact⟨k+1,tO,by go_num,by rw[F.o]⟩
     case measure=>exact tM
    ·have F:Wi (degL (g.2.2.take (k+1)) u=d+1):=qA (by rw[HS.o];simp at e1 e2;simp[degE,e1,e2]);go_wp2;go_round
     case rel=>exact⟨k+1,tO,by go_num,by rw[F.o];go_num⟩
     case measure=>exact tM
   ·rcases e2:(e.2.2==u) with _ | _
    ·have F:Wi (degL (g.2.2.take (k+1)) u=d+1):=qA (by rw[HS.o];simp at e1 e2;simp[degE,e1,e2]);go_wp2;go_round
     case rel=>exact⟨k+1,tO,by go_num,by rw[F.o];go_num⟩
     case measure=>exact tM
    ·have F:Wi (degL (g.2.2.take (k+1)) u=d+2):=qA (by rw[HS.o];simp at e1 e2;simp[degE,e1,e2]);go_wp2;go_round
     case rel=>exact⟨k+1,tO,by go_num,by rw[F.o];go_num⟩
     case measure=>exact tM
  ·obtain rfl:k=g.2.2.length:=tO
   rw[zak];go_wp2;go_ret;exact⟨rfl,HB⟩
theorem qGD (v:Wh) (g:GrD) (u:Int) (w:Wg) (h:ArgG w v g) (hl:g.2.2.length<=1073741824):
  Wk Tryz.prog 157 #[v, .int .i64 u] w fun e w'=>e= .returned (.int .i64 (degL g.2.2 u))/\Wf w w w':=by
 obtain⟨s,rfl,_,_,ha⟩:=h;have H:=qA ha;obtain⟨A,cap,rfl,aR,hm,_⟩:=ha;unfold maxLen at hm;go_enter Tryz.func157,Tryz.ntmps157
 go_wp2;have hb:Wf w w (w.alloc (.cells #[.int .i64 g.1,.int .i64 g.2.1, .slice A g.2.2.length cap] 26)):=ZZ;generalize w.alloc (.cells #[.int .i64 g.1,.int .i64 g.2.1, .slice A g.2.2.length cap] 26)=w1 at hb⊢;have HB:=qA hb;clear hb;go_loopw [5,11] (fun n i wr=> ∃k:Nat,k<=g.2.2.length/\i= .int .i64 k/\n= .int .i64 (degL (g.2.2.take k) u)/\Wf w w wr) (fun _ i _=>g.2.2.length-(intOf i).toNat)
 case atStart=>exact⟨0,zah _,rfl,rfl,HB⟩
 case round=>
  obtain⟨k,hk,rfl,rfl,ab⟩:=hrel;have al:=qA ab;have ar:=ab.size;clear ab;by_cases ac:k<g.2.2.length
  ·obtain⟨b,off,rfl,cX,c0,c1,c2,_⟩:=(H.below al).at ac;have HS:=qA (qIm g.2.2 u k ac);have fN:=qHo g.2.2 u k;generalize g.2.2[k]=e at*;generalize degL (g.2.2.take k) u=d at*;rcases e1:(e.1==u) with _ | _
   ·rcases e2:(e.2.2==u) with _ | _
    ·have F:Wi (degL (g.2.2.take (k+1)) u=d):=qA (by rw[HS.o];simp at e1 e2;simp[degE,e1,e2]);go_wp2;go_roundw;exact⟨k+1,tO,by go_num,by rw[F.o],al.o.alloc ar _⟩;exact tM
    ·have F:Wi (degL (g.2.2.take (k+1)) u=d+1):=qA (by rw[HS.o];simp at e1 e2;simp[degE,e1,e2]);go_wp2;go_roundw;exact⟨k+1,tO,by go_num,by rw[F.o];go_num,al.o.alloc ar _⟩;exact tM
   ·rcases e2:(e.2.2==u) with _ | _
    ·have F:Wi (degL (g.2.2.take (k+1)) u=d+1):=qA (by rw[HS.o];simp at e1 e2;simp[degE,e1,e2]);go_wp2;go_roundw;exact⟨k+1,tO,by go_num,by rw[F.o];go_num,al.o.alloc ar _⟩;exact tM
    ·have F:Wi (degL (g.2.2.take (k+1)) u=d+2):=qA (by rw[HS.o];simp at e1 e2;simp[degE,e1,e2]);go_wp2;go_roundw;exact⟨k+1,tO,by go_num,by rw[F.o];go_num,al.o.alloc ar _⟩;exact tM
  ·obtain rfl:k=g.2.2.length:=tO
   rw[zak];go_wp2;go_ret;exact⟨rfl,al⟩
theorem qDK (w:Wg) (e:EdD) (t:TypeId) (j:Nat) (u:Wh) (h:(edC e)[j]? =some u):(w.alloc (.cells #[.int .i64 e.1, .int .i64 e.2.1, .int .i64 e.2.2] t)).cell? ⟨w,j,none⟩=some u:=by
 match j with
 | 0=>simp[edC] at h;subst h;simp[go_sem]
 | 1=>simp[edC] at h;subst h;simp[go_sem]
 | 2=>simp[edC] at h;subst h;simp[go_sem]
 | n+3=>simp[edC] at h
theorem qBL {B base:Nat} {w0 w w1:Wg} {v:Wh} {o:Obj} {es:List EdD} (hb:Wf B w0 w) (hB:B<=w.heap.size) (ho:OwE w base v es) (hbB:B<=base) (hg:(w.alloc o).grownBy w1 v.ownBlock):Wf B w0 w1:=
 qh hb hB ho.1 hbB hg
def insE (e:EdD) (es:List EdD) (k:Nat):List EdD×Bool:=(es.take k).foldl (insS cmpE e) ([],false)
theorem qJH (y:EdD) (xs:List EdD) (k:Nat) (h:k<xs.length):insE y xs (k+1)=insS cmpE y (insE y xs k) xs[k]:=by
 unfold insE;rw[zag h,za6];rfl
theorem qPG (y:EdD) (xs:List EdD) (k:Nat) (h:k<=xs.length):(insE y xs k).1.length<=2*k:=by
 induction k with
 | zero=>simp[insE]
 | succ k ih=>
   rw[qJH y xs k tO];have:=ih tO
   unfold insS;split
   ·simp;omega
   ·split<;>(simp;omega)
theorem qBy (v:Wh) (es:List EdD) (e:EdD) (w:Wg) (h:ArgE w v es) (he:E64 e) (hl:es.length<=268435456):
  Wk Tryz.prog 166 #[v,edV e] w fun e' w'=> ∃r,e'= .returned r/\OwE w' w r (insF cmpE es e)/\Wf w w w':=by
 have H:=qA h;obtain⟨A,cap,rfl,aR,hm,_,hr,_⟩:=h;have HR:=qA hr;have HE:=qA he;unfold maxLen at hm;clear hr he;unfold edV;go_enter Tryz.func166,Tryz.ntmps166
 go_wp2;have hb:Wf w w ((w.alloc (.cells #[.int .i64 e.1,.int .i64 e.2.1,.int .i64 e.2.2] 97)).alloc (.cells #[] 97)):=ZZ;have k0:((w.alloc (.cells #[.int .i64 e.1,.int .i64 e.2.1,.int .i64 e.2.2] 97)).alloc (.cells #[] 97)).cell? ⟨w,0,none⟩=some (.int .i64 e.1):=by simp[go_sem]
 have k1:((w.alloc (.cells #[.int .i64 e.1,.int .i64 e.2.1,.int .i64 e.2.2] 97)).alloc (.cells #[] 97)).cell? ⟨w,1,none⟩=some (.int .i64 e.2.1):=by simp[go_sem]
 have k2:((w.alloc (.cells #[.int .i64 e.1,.int .i64 e.2.1,.int .i64 e.2.2] 97)).alloc (.cells #[] 97)).cell? ⟨w,2,none⟩=some (.int .i64 e.2.2):=by simp[go_sem]
 have cZ:w.heap.size+1<((w.alloc (.cells #[.int .i64 e.1,.int .i64 e.2.1,.int .i64 e.2.2] 97)).alloc (.cells #[] 97)).heap.size:=tZ;have o0:OwE ((w.alloc (.cells #[.int .i64 e.1,.int .i64 e.2.1,.int .i64 e.2.2] 97)).alloc (.cells #[] 97)) (w.heap.size+1) (.slice (some ⟨w.heap.size+1,0,none⟩) 0 0) []:=qEM (w.alloc (.cells #[.int .i64 e.1,.int .i64 e.2.1,.int .i64 e.2.2] 97)) (w.heap.size+1) tZ (zaa _);generalize (w.alloc (.cells #[.int .i64 e.1,.int .i64 e.2.1,.int .i64 e.2.2] 97)).alloc (.cells #[] 97)=w1 at hb k0 k1 k2 cZ o0⊢;have HB:=qA hb;have K0:=qA k0;have K1:=qA k1;have K2:=qA k2;have O0:=qA o0;clear hb k0 k1 k2 o0;go_loopw [5,6,7] (fun out p i wr=> ∃k:Nat,k<=es.length/\i= .int .i64 k/\p= .bool (insE e es k).2/\OwE wr (w.heap.size+1) out (insE e es k).1/\Wf (w.heap.size+1) w1 wr)
  (fun _ _ i _=>es.length-(intOf i).toNat)
 case atStart=>exact⟨0,zah _,rfl,rfl,O0,zab _ _⟩
 case round=>
  obtain⟨k,hk,rfl,rfl,aa,ab⟩:=hrel;have ar:=ab.size;have fy:=qPG e es k hk;have aB:=qA (HB.trans (ab.mono tO));have al:=qA ab;have p0:=(ab.cell (p:=⟨w,0,none⟩) (show w.heap.size<w.heap.size+1 by omega)).trans K0.o;have p1:=(ab.cell (p:=⟨w,1,none⟩) (show w.heap.size<w.heap.size+1 by omega)).trans K1.o;have p2:=(ab.cell (p:=⟨w,2,none⟩) (show w.heap.size<w.heap.size+1 by omega)).trans K2.o;clear ab;by_cases ac:k<es.length
  ·obtain⟨b,off,rfl,fv,c0,c1,c2,_⟩:=H.o.at ac;have cX:b<wr.heap.size:=tO;have iX:w.heap.size<wr.heap.size:=tO;have Lr:=qA c0;have fE:=qA c1;have io:=qA c2;replace c0:=(aB.cell (p:=⟨b,off+k*3,none⟩) fv).trans c0;replace c1:=(aB.cell (p:=⟨b,off+k*3+1,none⟩) fv).trans c1;replace c2:=(aB.cell (p:=⟨b,off+k*3+2,none⟩) fv).trans c2;have HS:=qA (qJH e es k ac);have HX:=qA (HR es[k] tZ);generalize hs:insE e es k=s at aa HS fy⊢;obtain⟨o,p⟩:=s;generalize es[k]=z at c0 c1 c2 Lr fE io HS HX;clear hs;simp only at fy
   obtain⟨A1,ak,rfl,du,fM,_,_⟩:=aa.form;have Ai:=qA aa;clear aa;go_wp2_with fail;have f0:=BelW.cell p0 iX;have f1:=BelW.cell p1 iX;have f2:=BelW.cell p2 iX;have f3:=BelW.cell c0 cX;have f4:=BelW.cell c1 cX;have f5:=BelW.cell c2 cX;(refine qG tK tK ?_;(repeat(go_big_quiet_step (first | (go_at_call 212;exact Calls.bel_of (qBD e z _)))));refine wpQuiet_nil ?_;intro wq hw';obtain⟨pq,ae⟩:=hw';have bq:=pq.h;rw[<-ae] at bq;clear ae pq)
   replace p0:=f0 ⟨wq,bq⟩;replace p1:=f1 ⟨wq,bq⟩;replace p2:=f2 ⟨wq,bq⟩;replace c0:=f3 ⟨wq,bq⟩;replace c1:=f4 ⟨wq,bq⟩;replace c2:=f5 ⟨wq,bq⟩;simp only at p0 p1 p2 c0 c1 c2
   clear f0 f1 f2 f3 f4 f5;have Hi:=bq.size;have xN:b<wq.heap.size:=tO;have Wd:w.heap.size<wq.heap.size:=tO;have HO:=qA (Ai.below bq);have eQ:=qA (al.trans (bq.mono tO));have eI:=qA (aB.trans (bq.mono tO));clear bq;have nC:Wi (insE e es (k+1)=(if cmpE e z=0 then(o++ [z],true) else if cmpE e z<0/\p=false then(o++ [e,z],true) else(o++ [z],p))):=qA HS.o;have yJ:Wi (cmpE e z=0\/cmpE e z<0\/0<cmpE e z):=qA tO;clear HS;generalize cmpE e z=c at*;rcases yJ.o with hc | hc | hc
   ·subst hc;have F:Wi (insE e es (k+1)=(o++ [z],true)):=qA (by rw[nC.o];rfl);clear nC;go_wp2_with (at_builtin;refine qBY rfl (.tmp 34) (.tmp 39) rfl _ _ _ (HO.alloc _) rfl _ z rfl (qDK _ _ _) HX.o (by first | omega | (simp;omega)) (by first | omega | (simp;omega)) ?_;intro v2 wv2 o2 g2 p2)
    go_roundw;exact⟨k+1,tO,by go_num,by rw[F.o],by rw[F.o];exact o2,qBL eQ.o tO HO.o (zaa _) g2⟩;exact tM
   ·have fL:(c==0)=false:=by simp;omega
    cases p
    ·have F:Wi (insE e es (k+1)=(o++ [e,z],true)):=qA (by rw[nC.o];rw[Wn tO,Wm ⟨hc,rfl⟩]);clear nC;go_wp2_with (first | (at_builtin;refine qBY rfl (.tmp 30) (.tmp 32) rfl _ _ _ (HO.alloc _) rfl _ e rfl (qDK _ _ _) HE.o (by first | omega | (simp;omega)) (by first | omega | (simp;omega)) ?_;intro v1 nu o1 g1 p1;have bi:=g1.size;simp at bi;have da:=qBL eI.o (show w.heap.size<=wq.heap.size by omega) HO.o (show w.heap.size<=w.heap.size+1 by omega) g1;replace c0:=(da.cell (p:=⟨b,off+k*3,none⟩) fv).trans Lr.o;replace c1:=(da.cell (p:=⟨b,off+k*3+1,none⟩) fv).trans fE.o;replace c2:=(da.cell (p:=⟨b,off+k*3+2,none⟩) fv).trans io.o;have SL:b<nu.heap.size:=tO;clear da) | (at_builtin;refine qBY rfl (.tmp 34) (.tmp 39) rfl _ _ _ (o1.alloc _) rfl _ z rfl (qDK _ _ _) HX.o (by first | omega | (simp;omega)) (by first | omega | (simp;omega)) ?_;intro v2 wv2 o2 g2 p2))
     go_roundw
     case rel=>
      have da:=qBL eQ.o (show w.heap.size+1<=wq.heap.size by omega) HO.o (zaa _) g1;exact⟨k+1,tO,by go_num,by rw[F.o],by rw[F.o];simpa using o2,qBL da tO o1 (zaa _) g2⟩
     case measure=>exact tM
    ·have F:Wi (insE e es (k+1)=(o++ [z],true)):=qA (by rw[nC.o];rw[Wn tO,Wn tZ]);clear nC;go_wp2_with (at_builtin;refine qBY rfl (.tmp 34) (.tmp 39) rfl _ _ _ (HO.alloc _) rfl _ z rfl (qDK _ _ _) HX.o (by first | omega | (simp;omega)) (by first | omega | (simp;omega)) ?_;intro v2 wv2 o2 g2 p2)
     go_roundw;exact⟨k+1,tO,by go_num,by rw[F.o],by rw[F.o];exact o2,qBL eQ.o tO HO.o (zaa _) g2⟩;exact tM
   ·have fL:(c==0)=false:=by simp;omega
    have aJ: ¬c<0:=tO;have F:Wi (insE e es (k+1)=(o++ [z],p)):=qA (by rw[nC.o];rw[Wn tO,Wn (fun h=>aJ h.1)]);clear nC;go_wp2_with (at_builtin;refine qBY rfl (.tmp 34) (.tmp 39) rfl _ _ _ (HO.alloc _) rfl _ z rfl (qDK _ _ _) HX.o (by first | omega | (simp;omega)) (by first | omega | (simp;omega)) ?_;intro v2 wv2 o2 g2 p2)
    go_roundw;exact⟨k+1,tO,by go_num,by rw[F.o],by rw[F.o];exact o2,qBL eQ.o tO HO.o (zaa _) g2⟩;exact tM
  ·obtain rfl:k=es.length:=tO
   have HF:Wi (insF cmpE es e=if(insE e es es.length).2 then(insE e es es.length).1 else(insE e es es.length).1++ [e]):=qA (by unfold insF insE;rw[zak]);have iX:w.heap.size<wr.heap.size:=tO;generalize insE e es es.length=s at aa HF fy⊢;obtain⟨o,p⟩:=s;have HO:=qA aa;obtain⟨A1,ak,rfl,du,fM,_,_⟩:=aa.form;clear aa;simp only at fy
   cases p
   ·go_wp2_with (at_builtin;refine qBY rfl (.tmp 43) (.tmp 45) rfl _ _ _ (HO.alloc _) rfl _ e rfl (qDK _ _ _) HE.o (by first | omega | (simp;omega)) (by first | omega | (simp;omega)) ?_;intro v2 wv2 o2 g2 p2)
    go_ret;exact⟨_,rfl,by rw[HF.o];exact o2.mono tO,qBL aB.o tO HO.o tO g2⟩
   ·go_wp2;go_ret;exact⟨_,rfl,by rw[HF.o];exact HO.o.mono tO,aB.o⟩
theorem qk (v:Wh) (g:GrD) (w:Wg) (h:ArgG w v g):
  Wk Tryz.prog 190 #[v] w fun e w'=>e= .returned (.bool (grB g))/\Wf w w w':=by
 obtain⟨s,rfl,_,_,ha⟩:=h;have H:=qA ha;obtain⟨A,cap,rfl,aR,hm,_⟩:=ha;unfold maxLen at hm;go_enter Tryz.func190,Tryz.ntmps190
 go_wp2;have hb:Wf w w (w.alloc (.cells #[.int .i64 g.1,.int .i64 g.2.1, .slice A g.2.2.length cap] 26)):=ZZ;have k0:(w.alloc (.cells #[.int .i64 g.1,.int .i64 g.2.1, .slice A g.2.2.length cap] 26)).cell? ⟨w,0,none⟩=some (.int .i64 g.1):=by simp[go_sem]
 have k1:(w.alloc (.cells #[.int .i64 g.1,.int .i64 g.2.1, .slice A g.2.2.length cap] 26)).cell? ⟨w,1,none⟩=some (.int .i64 g.2.1):=by simp[go_sem]
 have k2:(w.alloc (.cells #[.int .i64 g.1,.int .i64 g.2.1, .slice A g.2.2.length cap] 26)).cell? ⟨w,2,none⟩=some (.slice A g.2.2.length cap):=by simp[go_sem]
 have cZ:w.heap.size<(w.alloc (.cells #[.int .i64 g.1,.int .i64 g.2.1, .slice A g.2.2.length cap] 26)).heap.size:=tZ;generalize w.alloc (.cells #[.int .i64 g.1,.int .i64 g.2.1, .slice A g.2.2.length cap] 26)=w1 at hb k0 k1 k2 cZ⊢;have HB:=qA hb;have K0:=qA k0;have K1:=qA k1;have K2:=qA k2;clear hb;clear k0 k1 k2;go_loopw [3] (fun i wr=> ∃k:Nat,k<=g.2.2.length/\i= .int .i64 k/\(∀j,j<k->okE g j=true)/\Wf w1 w1 wr) (fun i _=>g.2.2.length-(intOf i).toNat)
 case atStart=>exact⟨0,zah _,rfl,fun j hj=>absurd hj tO,zab _ _⟩
 case round=>
  obtain⟨k,hk,rfl,aG,ab⟩:=hrel;have HA:=qA aG;have al:=qA ab;have aB:=qA (HB.trans (ab.mono HB.size));have ar:=ab.size;have p0:=(ab.cell (p:=⟨w,0,none⟩) cZ).trans K0.o;have p1:=(ab.cell (p:=⟨w,1,none⟩) cZ).trans K1.o;have p2:=(ab.cell (p:=⟨w,2,none⟩) cZ).trans K2.o;have bZ:w.heap.size<wr.heap.size:=tO;by_cases ac:k<g.2.2.length
  ·obtain⟨b,off,rfl,cX,c0,c1,c2,_⟩:=(H.below aB).at ac;have ST:Wi (okE g k=true-> ∀j,j<k+1->okE g j=true):=qA fun F j hj=>by
    rcases zaH (zaJ hj) with hj | rfl
    ·exact HA.o j hj
    ·exact F
   have FA:Wi (okE g k=false->grB g=false):=qA (qJe k ac);clear aG ab;by_cases h0:0<k
   ·obtain⟨j,rfl⟩: ∃j,k=j+1:=⟨k-1,tO⟩;obtain⟨b2,iY,fk,_,d0,d1,d2,_⟩:=(H.below aB).at (k:=j) tO;obtain⟨rfl,rfl⟩:b=b2/\off=iY:=by simpa using fk
    have HZ:Wi (okE g (j+1)=(qAh g.1 g.2.1 g.2.2[j+1]&& !decide (0<=cmpE g.2.2[j] g.2.2[j+1]))):=qA (qGd h0 ac);have i0:(0:Int)<=(j:Int):=tO;have i1:(j:Int)<(g.2.2.length:Int):=tO;have i2:(j:Int)+1<(g.2.2.length:Int):=tO;clear fk h0;generalize g.2.2[j]=y at d0 d1 d2 HZ;generalize g.2.2[j+1]=x at c0 c1 c2 HZ;have hE:=fun w=>qFa g.1 g.2.1 (some ⟨b,off,none⟩) g.2.2.length cap x w;rcases e1:qAh g.1 g.2.1 x with _ | _
    ·have F:Wi (okE g (j+1)=false):=qA (by rw[HZ.o,e1];rfl);simp only[e1] at hE;have HE:=qA hE;clear hE;go_wp2_with fail;have f0:=BelW.cell p0 (show w.heap.size<wr.heap.size by omega);have f1:=BelW.cell p1 (show w.heap.size<wr.heap.size by omega);have f2:=BelW.cell p2 (show w.heap.size<wr.heap.size by omega);have f3:=BelW.cell c0 (show b<wr.heap.size by omega);have f4:=BelW.cell c1 (show b<wr.heap.size by omega);have f5:=BelW.cell c2 (show b<wr.heap.size by omega);have f6:=BelW.cell d0 (show b<wr.heap.size by omega);have f7:=BelW.cell d1 (show b<wr.heap.size by omega);have f8:=BelW.cell d2 (show b<wr.heap.size by omega);(refine qG tK tK ?_;(repeat(go_big_quiet_step (first | (go_at_call 229;exact Calls.bel_of (HE _)))));refine wpQuiet_nil ?_;intro wq hw';obtain⟨pq,ae⟩:=hw';have bq:=pq.h;rw[<-ae] at bq;clear ae pq)
     clear f0 f1 f2 f3 f4 f5 f6 f7 f8;go_wp2;go_ret;exact⟨qJ (FA F).symm,aB.trans (bq.mono tO)⟩
    ·simp only[e1] at hE;have HE:=qA hE;clear hE;rcases e2:decide (0<=cmpE y x) with _ | _
     ·have F:Wi (okE g (j+1)=true):=qA (by rw[HZ.o,e1,e2];rfl);go_wp2_with fail;have f0:=BelW.cell p0 (show w.heap.size<wr.heap.size by omega);have f1:=BelW.cell p1 (show w.heap.size<wr.heap.size by omega);have f2:=BelW.cell p2 (show w.heap.size<wr.heap.size by omega);have f3:=BelW.cell c0 (show b<wr.heap.size by omega);have f4:=BelW.cell c1 (show b<wr.heap.size by omega);have f5:=BelW.cell c2 (show b<wr.heap.size by omega);have f6:=BelW.cell d0 (show b<wr.heap.size by omega);have f7:=BelW.cell d1 (show b<wr.heap.size by omega);have f8:=BelW.cell d2 (show b<wr.heap.size by omega);(refine qG tK tK ?_;(repeat(go_big_quiet_step (first | (go_at_call 229;exact Calls.bel_of (HE _)) | (go_at_call 212;exact Calls.bel_of (qBD y x _)))));refine wpQuiet_nil ?_;intro wq hw';obtain⟨pq,ae⟩:=hw';have bq:=pq.h;rw[<-ae] at bq;clear ae pq)
      clear f0 f1 f2 f3 f4 f5 f6 f7 f8;go_wp2;go_roundw;exact⟨j+1+1,tO,by go_num,ST.o F.o,al.o.trans (bq.mono tO)⟩;exact tM
     ·have F:Wi (okE g (j+1)=false):=qA (by rw[HZ.o,e1,e2];rfl);go_wp2_with fail;have f0:=BelW.cell p0 (show w.heap.size<wr.heap.size by omega);have f1:=BelW.cell p1 (show w.heap.size<wr.heap.size by omega);have f2:=BelW.cell p2 (show w.heap.size<wr.heap.size by omega);have f3:=BelW.cell c0 (show b<wr.heap.size by omega);have f4:=BelW.cell c1 (show b<wr.heap.size by omega);have f5:=BelW.cell c2 (show b<wr.heap.size by omega);have f6:=BelW.cell d0 (show b<wr.heap.size by omega);have f7:=BelW.cell d1 (show b<wr.heap.size by omega);have f8:=BelW.cell d2 (show b<wr.heap.size by omega);(refine qG tK tK ?_;(repeat(go_big_quiet_step (first | (go_at_call 229;exact Calls.bel_of (HE _)) | (go_at_call 212;exact Calls.bel_of (qBD y x _)))));refine wpQuiet_nil ?_;intro wq hw';obtain⟨pq,ae⟩:=hw';have bq:=pq.h;rw[<-ae] at bq;clear ae pq)
      clear f0 f1 f2 f3 f4 f5 f6 f7 f8;go_wp2;go_ret;exact⟨qJ (FA F).symm,aB.trans (bq.mono tO)⟩
   ·obtain rfl:k=0:=tO
    have HZ:=qA (qGP ac);generalize g.2.2[0]=x at c0 c1 c2 HZ;simp only[Nat.zero_mul,za1] at c0 c1 c2;have hE:=fun w=>qFa g.1 g.2.1 (some ⟨b,off,none⟩) g.2.2.length cap x w;rcases e1:qAh g.1 g.2.1 x with _ | _
    ·have F:Wi (okE g 0=false):=qA (by rw[HZ.o,e1]);simp only[e1] at hE;have HE:=qA hE;clear hE;go_wp2_with fail;have f0:=BelW.cell p0 (show w.heap.size<wr.heap.size by omega);have f1:=BelW.cell p1 (show w.heap.size<wr.heap.size by omega);have f2:=BelW.cell p2 (show w.heap.size<wr.heap.size by omega);have f3:=BelW.cell c0 (show b<wr.heap.size by omega);have f4:=BelW.cell c1 (show b<wr.heap.size by omega);have f5:=BelW.cell c2 (show b<wr.heap.size by omega);(refine qG tK tK ?_;(repeat(go_big_quiet_step (first | (go_at_call 229;exact Calls.bel_of (HE _)))));refine wpQuiet_nil ?_;intro wq hw';obtain⟨pq,ae⟩:=hw';have bq:=pq.h;rw[<-ae] at bq;clear ae pq)
     clear f0 f1 f2 f3 f4 f5;go_wp2;go_ret;exact⟨qJ (FA F).symm,aB.trans (bq.mono tO)⟩
    ·have F:Wi (okE g 0=true):=qA (by rw[HZ.o,e1]);simp only[e1] at hE;have HE:=qA hE;clear hE;go_wp2_with fail;have f0:=BelW.cell p0 (show w.heap.size<wr.heap.size by omega);have f1:=BelW.cell p1 (show w.heap.size<wr.heap.size by omega);have f2:=BelW.cell p2 (show w.heap.size<wr.heap.size by omega);have f3:=BelW.cell c0 (show b<wr.heap.size by omega);have f4:=BelW.cell c1 (show b<wr.heap.size by omega);have f5:=BelW.cell c2 (show b<wr.heap.size by omega);(refine qG tK tK ?_;(repeat(go_big_quiet_step (first | (go_at_call 229;exact Calls.bel_of (HE _)))));refine wpQuiet_nil ?_;intro wq hw';obtain⟨pq,ae⟩:=hw';have bq:=pq.h;rw[<-ae] at bq;clear ae pq)
     clear f0 f1 f2 f3 f4 f5;go_wp2;go_roundw;exact⟨1,tO,by go_num,ST.o F.o,al.o.trans (bq.mono tO)⟩;exact tM
  ·obtain rfl:k=g.2.2.length:=tO
   have F:=qA (qPg HA);clear aG ab;rcases e1:inB g.1 1 3 with _ | _
   ·go_wp2_with (go_at_call 138;refine(qi _ _ _ _).mono ?_;rintro e w' ⟨rfl,rfl⟩)
    go_ret;exact⟨qJ (by rw[F.o,e1];rfl),aB.o⟩
   ·rcases e2:inB g.2.1 1 40 with _ | _
    ·go_wp2_with (go_at_call 138;refine(qi _ _ _ _).mono ?_;rintro e w' ⟨rfl,rfl⟩)
     go_ret;exact⟨qJ (by rw[F.o,e1,e2];rfl),aB.o⟩
    ·by_cases h3:g.2.2.length<=120
     ·go_wp2_with (go_at_call 138;refine(qi _ _ _ _).mono ?_;rintro e w' ⟨rfl,rfl⟩)
      go_ret;exact⟨qJ (by rw[F.o,e1,e2];simp;omega),aB.o⟩
     ·go_wp2_with (go_at_call 138;refine(qi _ _ _ _).mono ?_;rintro e w' ⟨rfl,rfl⟩)
      go_ret;exact⟨qJ (by rw[F.o,e1,e2];simp;omega),aB.o⟩
def hasB (l:List Int) (x:Int):Bool:=l.any (· ==x)
theorem qPy {l:List Int} {x:Int} (h: ∀j (hj:j<l.length),l[j]≠x):hasB l x=false:=by
 unfold hasB;rw[List.any_eq_false];intro y hy;obtain⟨j,hj,rfl⟩:=List.getElem_of_mem hy;simpa using h j hj
theorem qOa {l:List Int} {x:Int} (j:Nat) (hj:j<l.length) (h:l[j]=x):hasB l x=true:=by
 unfold hasB;rw[zaB];exact⟨l[j],tZ,by simpa using h⟩
theorem qCy (v:Wh) (xs:List Int) (x:Int) (w:Wg) (h:ArgI w v xs) (hl:xs.length<=1073741824):
  Wk Tryz.prog 87 #[v, .int .i64 x] w fun e w'=>e= .returned (.bool (hasB xs x))/\w=w':=by
 obtain⟨A,cap,rfl,aR,hm,hr,hb⟩:=h;have HB:=qA hb;clear hb hr;go_enter Tryz.func87,Tryz.ntmps87
 go_wp2;go_loop [5] (fun i=> ∃k:Nat,k<=xs.length/\i= .int .i64 k/\ ∀j (hj:j<xs.length),j<k->xs[j]≠x) (fun i=>xs.length-(intOf i).toNat)
 case atStart=>exact⟨0,zah _,rfl,fun j hj h=>absurd h tO⟩
 case round=>
  obtain⟨k,hk,rfl,dz⟩:=hrel;have ub:=qA dz;clear dz;by_cases ac:k<xs.length
  ·obtain⟨b,off,rfl,hc⟩:=HB.o tO;have am:=hc k ac;have HY:=qA (fun e=>qOa (x:=x) k ac e);have HN:Wi (xs[k]≠x-> ∀j (hj:j<xs.length),j<k+1->xs[j]≠x):=qA fun e j hj jy=>by
    rcases zaH (zaJ jy) with h | rfl
    ·exact ub.o j hj h
    ·exact e
   clear hc;generalize xs[k]=y at am HY HN;rcases e1:(y==x) with _ | _
   ·have F:=qA (HN (by simpa using e1));go_wp2;go_round
    case rel=>exact⟨k+1,tO,by go_num,F.o⟩
    case measure=>exact tM
   ·have F:=qA (HY (by simpa using e1));go_wp2;go_ret;exact⟨qJ F.o.symm,rfl⟩
  ·obtain rfl:k=xs.length:=tO
   have F:=qA (qPy fun j hj=>ub.o j hj hj);go_wp2;go_ret;exact⟨qJ F.o.symm,rfl⟩
def insA (y:Int) (xs:List Int) (k:Nat):List Int×Bool:=(xs.take k).foldl (insS cmpI y) ([],false)
theorem qJs (y:Int) (xs:List Int) (k:Nat) (h:k<xs.length):insA y xs (k+1)=insS cmpI y (insA y xs k) xs[k]:=by
 unfold insA;rw[zag h,za6];rfl
theorem qOd (y:Int) (xs:List Int) (k:Nat) (h:k<=xs.length):(insA y xs k).1.length<=2*k:=by
 induction k with
 | zero=>simp[insA]
 | succ k ih=>
   rw[qJs y xs k tO];have:=ih tO
   unfold insS;split
   ·simp;omega
   ·split<;>(simp;omega)
theorem qDk (v:Wh) (xs:List Int) (y:Int) (w:Wg) (h:RdI w v xs) (hy:I64 y) (hl:xs.length<=1073741824):
  Wk Tryz.prog 211 #[v, .int .i64 y] w fun e w'=> ∃r,e= .returned r/\OwI w' w r (insF cmpI xs y)/\Wf w w w':=by
 have H:=qA h;obtain⟨A,cap,rfl,aR,hm,hr,hb⟩:=h.arg;have HR:=qA hr;have HY:=qA hy;clear h hb hr hy;go_enter Tryz.func211,Tryz.ntmps211
 go_wp2;go_loopw [5,6,7] (fun out p i wr=> ∃k:Nat,k<=xs.length/\i= .int .i64 k/\p= .bool (insA y xs k).2/\OwI wr w out (insA y xs k).1/\Wf w w wr)
  (fun _ _ i _=>xs.length-(intOf i).toNat)
 case atStart=>exact⟨0,zah _,rfl,rfl,qp _ [] qt tZ (zaa _),(zab _ _).alloc (zaa _) _⟩
 case round=>
  obtain⟨k,hk,rfl,rfl,aa,ab⟩:=hrel;have ar:=ab.size;have fy:=qOd y xs k hk;by_cases ac:k<xs.length
  ·obtain⟨b,off,rfl,fv,hc⟩:=H.o.at tO;have l8:=hc k ac;have cX:b<wr.heap.size:=tO;have am:=(ab.cell (p:=⟨b,off+k,none⟩) fv).trans l8;have HS:=qA (qJs y xs k ac);have HX:=qA (HR xs[k] tZ);generalize hs:insA y xs k=s at aa HS fy⊢;obtain⟨o,p⟩:=s;generalize xs[k]=z at am l8 HS HX;have tk:=qA l8;clear hc hs l8;have HO:=qA aa;obtain⟨A1,ak,rfl,du,fM,_,_⟩:=aa.form;clear aa;simp only at fy
   rcases e1:(z==y) with _ | _
   ·have rS:z≠y:=by simpa using e1
    by_cases h2:y<z
    ·cases p
     ·have F:Wi (insA y xs (k+1)=(o++ [y,z],true)):=qA (by rw[HS.o];unfold insS;rw[Wn (fun e=>rS (qv.1 e).symm),Wm ⟨qDF.2 h2,rfl⟩]);clear rS;go_wp2_with (first | ((at_builtin;refine qW rfl (.tmp 31) (.tmp 33) rfl _ _ _ (OwI.alloc HO _) rfl _ _ rfl (qU _ _ _) HY.o tB tB ?_;intro v1 nu o1 g1 p1);have bi:=g1.size;simp at bi;have da:=qh ab ar HO.o.1 (zaa _) g1;have jj:=(da.cell (p:=⟨b,off+k,none⟩) fv).trans tk.o;clear da) | (at_builtin;refine qW rfl (.tmp 35) (.tmp 40) rfl _ _ _ (OwI.alloc o1 _) rfl _ _ rfl (qU _ _ _) HX.o tB tB ?_;intro v2 wv2 o2 g2 p2))
      go_roundw
      case rel=>
       have da:=qh ab ar HO.o.1 (zaa _) g1;exact⟨k+1,tO,by go_num,by rw[F.o],by rw[F.o];simpa using o2,qh da da.size o1.1 (zaa _) g2⟩
      case measure=>exact tM
     ·have F:Wi (insA y xs (k+1)=(o++ [z],true)):=qA (by rw[HS.o];unfold insS;rw[Wn (fun e=>rS (qv.1 e).symm),Wn tZ]);clear rS;go_wp2_with (at_builtin;refine qW rfl (.tmp 35) (.tmp 40) rfl _ _ _ (OwI.alloc HO _) rfl _ _ rfl (qU _ _ _) HX.o tB tB ?_;intro v2 wv2 o2 g2 p2)
      go_roundw;exact⟨k+1,tO,by go_num,by rw[F.o],by rw[F.o];exact o2,qh ab ar HO.o.1 (zaa _) g2⟩;exact tM
    ·have F:Wi (insA y xs (k+1)=(o++ [z],p)):=qA (by rw[HS.o];unfold insS;rw[Wn (fun e=>rS (qv.1 e).symm),Wn (fun e=>h2 (qDF.1 e.1))]);clear rS;go_wp2_with (at_builtin;refine qW rfl (.tmp 35) (.tmp 40) rfl _ _ _ (OwI.alloc HO _) rfl _ _ rfl (qU _ _ _) HX.o tB tB ?_;intro v2 wv2 o2 g2 p2)
     go_roundw;exact⟨k+1,tO,by go_num,by rw[F.o],by rw[F.o];exact o2,qh ab ar HO.o.1 (zaa _) g2⟩;exact tM
   ·have rS:z=y:=by simpa using e1
    have F:Wi (insA y xs (k+1)=(o++ [z],true)):=qA (by rw[HS.o];unfold insS;rw[Wm (qv.2 rS.symm)]);have h2: ¬y<z:=tO;clear rS;go_wp2_with (at_builtin;refine qW rfl (.tmp 35) (.tmp 40) rfl _ _ _ (OwI.alloc HO _) rfl _ _ rfl (qU _ _ _) HX.o tB tB ?_;intro v2 wv2 o2 g2 p2)
    go_roundw;exact⟨k+1,tO,by go_num,by rw[F.o],by rw[F.o];exact o2,qh ab ar HO.o.1 (zaa _) g2⟩;exact tM
  ·obtain rfl:k=xs.length:=tO
   have HF:Wi (insF cmpI xs y=if(insA y xs xs.length).2 then(insA y xs xs.length).1 else(insA y xs xs.length).1++ [y]):=qA (by unfold insF insA;rw[zak]);generalize insA y xs xs.length=s at aa HF fy⊢;obtain⟨o,p⟩:=s;have HO:=qA aa;obtain⟨A1,ak,rfl,du,fM,_,_⟩:=aa.form;clear aa;simp only at fy
   cases p
   ·go_wp2_with (at_builtin;refine qW rfl (.tmp 44) (.tmp 46) rfl _ _ _ (OwI.alloc HO _) rfl _ _ rfl (qU _ _ _) HY.o tB tB ?_;intro v2 wv2 o2 g2 p2)
    go_ret;exact⟨_,rfl,by rw[HF.o];exact o2,qh ab ar HO.o.1 (zaa _) g2⟩
   ·go_wp2;go_ret;exact⟨_,rfl,by rw[HF.o];exact HO.o,ab⟩
def mt (v x:Int) (e:EdD):Option Int:=
 if 0<x then(if e.2.1=x/\e.1=v then some e.2.2 else none) else if x<0 then(if e.2.1=wrap64 (-x)/\e.2.2=v then some e.1 else none) else none
def qAJ (es:List EdD) (v x:Int):List Int:=es.filterMap (mt v x)
def qF (es:List EdD) (v x:Int):Int:=(qAJ es v x).headD (-1)
theorem qGo (es:List EdD) (v x:Int) (k:Nat) (h:k<es.length):qAJ (es.take (k+1)) v x=qAJ (es.take k) v x++(mt v x es[k]).toList:=by
 unfold qAJ;rw[zag h,zaV];congr 1
theorem qEb (es:List EdD) (v x:Int) (k:Nat):(qAJ (es.take k) v x).length<=(qAJ es v x).length:=by
 unfold qAJ;conv=>rhs;rw[<-List.take_append_drop k es,zaV]
 simp
theorem qKp (y:Int):insF cmpI [] y= [y]:=by rw[qDx];rfl
theorem qFQ (v:Wh) (g:GrD) (u x:Int) (w:Wg) (h:ArgG w v g) (hone:(qAJ g.2.2 u x).length<=1):
  Wk Tryz.prog 164 #[v, .int .i64 u, .int .i64 x] w fun e w'=> ∃r,e= .returned r/\OwI w' w r (qAJ g.2.2 u x)/\Wf w w w':=by
 obtain⟨s,rfl,_,_,ha⟩:=h;have H:=qA ha;obtain⟨A,cap,rfl,aR,hm,_,hr,_⟩:=ha;have HR:=qA hr;unfold maxLen at hm;clear hr;go_enter Tryz.func164,Tryz.ntmps164
 go_wp2;have hb:Wf w w ((w.alloc (.cells #[.int .i64 g.1,.int .i64 g.2.1, .slice A g.2.2.length cap] 26)).alloc (.cells #[] 3)):=ZZ;have k2:((w.alloc (.cells #[.int .i64 g.1,.int .i64 g.2.1, .slice A g.2.2.length cap] 26)).alloc (.cells #[] 3)).cell? ⟨w,2,none⟩=some (.slice A g.2.2.length cap):=by simp[go_sem]
 have cZ:w.heap.size+1<((w.alloc (.cells #[.int .i64 g.1,.int .i64 g.2.1, .slice A g.2.2.length cap] 26)).alloc (.cells #[] 3)).heap.size:=tZ;have o0:OwI ((w.alloc (.cells #[.int .i64 g.1,.int .i64 g.2.1, .slice A g.2.2.length cap] 26)).alloc (.cells #[] 3)) (w.heap.size+1) (.slice (some ⟨w.heap.size+1,0,none⟩) 0 0) []:=qAc (w.alloc (.cells #[.int .i64 g.1,.int .i64 g.2.1, .slice A g.2.2.length cap] 26)) [] (w.heap.size+1) tZ qt tZ (zaa _);generalize (w.alloc (.cells #[.int .i64 g.1,.int .i64 g.2.1, .slice A g.2.2.length cap] 26)).alloc (.cells #[] 3)=w1 at hb k2 cZ o0⊢;have HB:=qA hb;have K2:=qA k2;have O0:=qA o0;clear hb k2 o0;go_loopw [7,8] (fun out i wr=> ∃k:Nat,k<=g.2.2.length/\i= .int .i64 k/\OwI wr (w.heap.size+1) out (qAJ (g.2.2.take k) u x)/\Wf (w.heap.size+1) w1 wr) (fun _ i _=>g.2.2.length-(intOf i).toNat)
 case atStart=>exact⟨0,zah _,rfl,O0,zab _ _⟩
 case round=>
  obtain⟨k,hk,rfl,aa,ab⟩:=hrel;have ar:=ab.size;have aB:=qA (HB.trans (ab.mono tO));have p2:=(ab.cell (p:=⟨w,2,none⟩) (show w.heap.size<w.heap.size+1 by omega)).trans K2.o;have HO:=qA aa;have al:=qA ab;obtain⟨A1,ak,rfl,du,fM,_,_⟩:=aa.form;clear ab;by_cases ac:k<g.2.2.length
  ·obtain⟨b,off,rfl,cX,c0,c1,c2,_⟩:=(H.below aB).at ac;have HS:=qA (qGo g.2.2 u x k ac);have HX:=qA (HR g.2.2[k] tZ);have bk:=qEb g.2.2 u x (k+1);have GO:Wi ((qAJ (g.2.2.take (k+1)) u x).length<=1):=qA tO;clear bk aa;generalize g.2.2[k]=e at*;obtain⟨f,l,t⟩:=e;simp only at c0 c1 c2
   have keep:mt u x (f,l,t)=none->qAJ (g.2.2.take (k+1)) u x=qAJ (g.2.2.take k) u x:=fun e=>by rw[HS.o,e];simp
   have KE:=qA keep;have put: ∀y,mt u x (f,l,t)=some y->qAJ (g.2.2.take k) u x= []/\qAJ (g.2.2.take (k+1)) u x= [y]:=fun y e=>by
    have h1:=HS.o;have h2:=GO.o;rw[e] at h1;rw[h1] at h2;simp at h2
    refine⟨h2,by rw[h1,h2];rfl⟩
   have PU:=qA put;clear keep put;by_cases hp:0<x
   ·have hn: ¬x<0:=tO;rcases e1:(l==x) with _ | _
    ·have F:=qA (KE (by simp at e1;simp[mt,hp,e1]));go_wp2;go_roundw;exact⟨k+1,tO,by go_num,by rw[F.o];exact HO.o.alloc _,al.o.alloc tO _⟩;exact tM
    ·rcases e2:(f==u) with _ | _
     ·have F:=qA (KE (by simp at e2;simp[mt,hp,e2]));go_wp2;go_roundw;exact⟨k+1,tO,by go_num,by rw[F.o];exact HO.o.alloc _,al.o.alloc tO _⟩;exact tM
     ·have F:=qA (PU t (by simp at e1 e2;simp[mt,hp,e1,e2]));have aI:=HO.o;rw[F.o.1] at aI;have yr:=qA aI;clear aI;have hz:(qAJ (g.2.2.take k) u x).length=0:=by rw[F.o.1];rfl
      rw[hz];go_wp2_with fail;refine(qDk _ [] t _ ((yr.alloc _).rd) HX.o.2.2 tZ).mono ?_
      rintro e w9 ⟨r9,rfl,o9,b9⟩;rw[qKp] at o9;have O9:=qA (o9.mono (base':=w.heap.size+1) (by simp;omega));have B9:Wi (Wf (w.heap.size+1) w1 w9):=qA ((al.alloc tO _).trans (b9.mono (by simp;omega)));obtain⟨A9,bM,rfl,_⟩:=o9.form;clear o9 b9;go_wp2;go_roundw;exact⟨k+1,tO,by go_num,by rw[F.o.2];exact O9.o,B9.o⟩;exact tM
   ·by_cases hn:x<0
    ·rcases e1:(l==wrap64 (-x)) with _ | _
     ·have F:=qA (KE (by simp at e1;simp[mt,hp,hn,e1]));go_wp2;go_roundw;exact⟨k+1,tO,by go_num,by rw[F.o];exact HO.o.alloc _,al.o.alloc tO _⟩;exact tM
     ·rcases e2:(t==u) with _ | _
      ·have F:=qA (KE (by simp at e2;simp[mt,hp,hn,e2]));go_wp2;go_roundw;exact⟨k+1,tO,by go_num,by rw[F.o];exact HO.o.alloc _,al.o.alloc tO _⟩;exact tM
      ·have F:=qA (PU f (by simp at e1 e2;simp[mt,hp,hn,e1,e2]));have aI:=HO.o;rw[F.o.1] at aI;have yr:=qA aI;clear aI;have hz:(qAJ (g.2.2.take k) u x).length=0:=by rw[F.o.1];rfl
       rw[hz];go_wp2_with fail;refine(qDk _ [] f _ ((yr.alloc _).rd) HX.o.1 tZ).mono ?_
       rintro e w9 ⟨r9,rfl,o9,b9⟩;rw[qKp] at o9;have O9:=qA (o9.mono (base':=w.heap.size+1) (by simp;omega));have B9:Wi (Wf (w.heap.size+1) w1 w9):=qA ((al.alloc tO _).trans (b9.mono (by simp;omega)));obtain⟨A9,bM,rfl,_⟩:=o9.form;clear o9 b9;go_wp2;go_roundw;exact⟨k+1,tO,by go_num,by rw[F.o.2];exact O9.o,B9.o⟩;exact tM
    ·have F:=qA (KE (by simp[mt,hp,hn]));go_wp2;go_roundw;exact⟨k+1,tO,by go_num,by rw[F.o];exact HO.o.alloc _,al.o.alloc tO _⟩;exact tM
  ·obtain rfl:k=g.2.2.length:=tO
   clear aa;go_wp2;go_ret;exact⟨_,rfl,by have:=HO.o.mono (base':=w.heap.size) tO;rw[zak] at this;rw[zak];exact this,aB.o⟩
theorem qe (v:Wh) (g:GrD) (u x:Int) (w:Wg) (h:ArgG w v g) (hone:(qAJ g.2.2 u x).length<=1):
  Wk Tryz.prog 86 #[v, .int .i64 u, .int .i64 x] w fun e w'=>e= .returned (.int .i64 (qF g.2.2 u x))/\Wf w w w':=by
 have H:=qA h;obtain⟨s,rfl,_,_,ha⟩:=h;obtain⟨A,cap,rfl⟩:=ha.form;obtain⟨R,hR⟩: ∃R,R=qF g.2.2 u x:=⟨_,rfl⟩;rw[<-hR];unfold qF at hR;have HR:=qA hR;clear hR;go_enter Tryz.func86,Tryz.ntmps86
 go_wp2_with fail;have hb:Wf w w (w.alloc (.cells #[.int .i64 g.1,.int .i64 g.2.1, .slice A g.2.2.length cap] 26)):=ZZ;refine(qFQ _ g u x _ (H.below hb) hone).mono ?_
 rintro e w1 ⟨r,rfl,o1,b1⟩;have B1:=qA (hb.trans (b1.mono hb.size));generalize qAJ g.2.2 u x=L at o1 HR;clear hb b1 ha;obtain⟨A1,ak,rfl,aJ,fM,_,_⟩:=o1.form;match L,o1,HR with
 | [],o1,HR=>
   have F:Wi (R= -1):=HR;clear o1;go_wp2;go_ret;exact⟨qAP F.o.symm,B1⟩
 | y::L,o1,HR=>
   obtain rfl:R=y:=HR.o
   clear HR;obtain⟨b,off,rfl,cX,hc⟩:=o1.rd.at tZ;have c0:=hc 0 tZ;simp only[List.getElem_cons_zero,za1] at c0;clear o1 hc;go_wp2;go_ret;exact⟨rfl,B1⟩
end Go.Proofs.YtnjpoljbagfdnaaGreat
