/- Parts of the proof: IdxI, Int, AddS, Sch, AddF, DrawG, LatD, DrawH, DrawI, DrawJ, DrawK, DrawM. -/
import Derived.Test.YtnjpoljbagfdnaaGreatV04
import Derived.Test.YtnjpoljbagfdnaaGreatV06
import Derived.Test.YtnjpoljbagfdnaaGreatV03
import Derived.Test.YtnjpoljbagfdnaaGreatV05
import Derived.Test.YtnjpoljbagfdnaaGreatV02
import Derived.Maps.OwnSet
import Derived.Maps.OwnOps
import Derived.WideKeyPair
import Derived.Test.YtnjpoljbagfdnaaGreatV01
namespace Go.Proofs.YtnjpoljbagfdnaaGreat
set_option maxRecDepth 20000
set_option linter.unusedVariables false
set_option linter.unusedSimpArgs false
open Go.RowKit
theorem mt_iff {v x y:Int} {e:EdD} (hx: -3≤x∧x≤3):mt v x e=some y↔(0<x∧e.2.1=x∧e.1=v∧e.2.2=y)∨(x<0∧e.2.1= -x∧e.2.2=v∧e.1=y):=by
 have hw:wrap64 (-x)= -x:=IntWalk.wrap64_in _ ⟨by omega,by omega⟩
 unfold mt
 rw[hw]
 constructor
 ·intro h
  split at h
  ·split at h
   ·rename_i p q;injection h with h;exact .inl ⟨p,q.1,q.2,h⟩
   ·cases h
  ·split at h
   ·split at h
    ·rename_i p q;injection h with h;exact .inr ⟨p,q.1,q.2,h⟩
    ·cases h
   ·cases h
 ·rintro(⟨p,q,r,s⟩ | ⟨p,q,r,s⟩)
  ·rw[if_pos p,if_pos ⟨q,r⟩,s]
  ·rw[if_neg (by omega),if_pos p,if_pos ⟨q,r⟩,s]
theorem next_iff {g:GrD} (hg:grB g=true) (hf:Fol g.2.2) {v x y:Int} (hx: -3≤x∧x≤3) (hy:0≤y):nextV g.2.2 v x=y↔(0<x∧(v,x,y)∈g.2.2)∨(x<0∧(y,-x,v)∈g.2.2):=by
 constructor
 ·intro h
  obtain⟨e,he,hm⟩:=nextV_mem (by omega:0≤nextV g.2.2 v x)
  rw[h] at hm
  rcases(mt_iff hx).1 hm with ⟨p,q,r,s⟩ | ⟨p,q,r,s⟩
  ·left
   obtain⟨a,l,b⟩:=e
   simp only at q r s
   subst q r s
   exact⟨p,he⟩
  ·right
   obtain⟨a,l,b⟩:=e
   simp only at q r s
   subst q r s
   exact⟨p,he⟩
 ·rintro(⟨p,h⟩ | ⟨p,h⟩)
  ·exact nextV_of hf h ((mt_iff hx).2 (.inl ⟨p,rfl,rfl,rfl⟩))
  ·exact nextV_of hf h ((mt_iff hx).2 (.inr ⟨p,rfl,rfl,rfl⟩))
theorem next_letter {g:GrD} (hg:grB g=true) {v x:Int} (hx: -3≤x∧x≤3) (h:0≤nextV g.2.2 v x):x∈lettersL g.1.toNat:=by
 obtain⟨e,he,hm⟩:=nextV_mem h
 have hl:=(edge_of_gr hg he).2.1
 rw[letters_mem]
 rcases(mt_iff hx).1 hm with ⟨p,q,_⟩ | ⟨p,q,_⟩<;>omega
def ov (o:List Int) (i:Int):Int:=o.getD i.toNat (-1)
theorem plv_get {o:List Int} (hd:o.Nodup): ∀(k:Nat) (hk:k<o.length),plv o o[k]=(k:Int)+1:=by
 induction o with
 | nil=>intro k hk;cases hk
 | cons u o ih=>
   rw[List.nodup_cons] at hd
   intro k hk
   cases k with
   | zero=>simp[plv]
   | succ k=>
     have hk':k<o.length:=by simpa using hk
     have hne:u≠o[k]:=fun e=>hd.1 (e▸List.getElem_mem hk')
     have:=ih hd.2 k hk'
     simp only[List.getElem_cons_succ]
     unfold plv
     rw[if_neg hne,if_neg (by omega),this]
     omega
theorem ov_get {o:List Int} {k:Nat} (hk:k<o.length):ov o k=o[k]:=by
 unfold ov
 rw[Int.toNat_natCast]
 simp[hk]
theorem plv_ov {o:List Int} (hd:o.Nodup) {i:Int} (h0:0≤i) (h1:i<o.length):plv o (ov o i)=i+1:=by
 obtain⟨k,rfl⟩: ∃k:Nat,i=(k:Int):=⟨i.toNat,by omega⟩
 rw[ov_get (by omega),plv_get hd k (by omega)]
theorem ov_mem {o:List Int} {i:Int} (h0:0≤i) (h1:i<o.length):ov o i∈o:=by
 obtain⟨k,rfl⟩: ∃k:Nat,i=(k:Int):=⟨i.toNat,by omega⟩
 rw[ov_get (by omega)]
 exact List.getElem_mem _
theorem ov_plv {o:List Int} (hd:o.Nodup) {v:Int} (h:v∈o):ov o (plv o v-1)=v:=by
 obtain⟨k,hk,rfl⟩:=List.getElem_of_mem h
 rw[plv_get hd k hk,show(k:Int)+1-1=k by omega,ov_get hk]
theorem plv_pos {o:List Int} {v:Int} (h:v∈o):0<plv o v:=by
 have:=plv_range o v
 have h0:plv o v≠0:=fun e=>plv_zero.1 e h
 omega
theorem rn_mem {g:GrD} {o:List Int} {e:EdD}:e∈(rnG g o).2.2↔ ∃a∈g.2.2,rnE o a=some e:=by
 show e∈srt cmpE (rnL g.2.2 o)↔_
 rw[(srt_spec cmpE_ord _).2]
 unfold rnL
 rw[List.mem_filterMap]
theorem rnE_iff {o:List Int} (hd:o.Nodup) {a e:EdD} (h1:0≤e.1∧e.1<o.length) (h2:0≤e.2.2∧e.2.2<o.length):rnE o a=some e↔a=(ov o e.1,e.2.1,ov o e.2.2):=by
 unfold rnE
 constructor
 ·intro h
  split at h
  ·rename_i p
   injection h with h
   subst h
   simp only
   have m1:a.1∈o:=Classical.byContradiction fun hn=>by have:=plv_zero.2 hn;omega
   have m2:a.2.2∈o:=Classical.byContradiction fun hn=>by have:=plv_zero.2 hn;omega
   rw[ov_plv hd m1,ov_plv hd m2]
  ·cases h
 ·rintro rfl
  simp only
  rw[plv_ov hd h1.1 h1.2,plv_ov hd h2.1 h2.2,if_pos ⟨by omega,by omega⟩]
  congr 1
  obtain⟨x,l,y⟩:=e
  simp only
  rw[show x+1-1=x by omega,show y+1-1=y by omega]
theorem rn_edge {g:GrD} {o:List Int} (hd:o.Nodup) {e:EdD} (h1:0≤e.1∧e.1<o.length) (h2:0≤e.2.2∧e.2.2<o.length):e∈(rnG g o).2.2↔(ov o e.1,e.2.1,ov o e.2.2)∈g.2.2:=by
 rw[rn_mem]
 constructor
 ·rintro⟨a,ha,hr⟩
  rw[(rnE_iff hd h1 h2).1 hr] at ha
  exact ha
 ·intro h
  exact⟨_,h,(rnE_iff hd h1 h2).2 rfl⟩
theorem rn_next {g:GrD} {o:List Int} (hf:foldB g=true) (ho:OrdN g.2.1 o) {i x:Int} (h0:0≤i) (h1:i<o.length) (hx: -3≤x∧x≤3):
  nextV (rnG g o).2.2 i x=if 0≤nextV g.2.2 (ov o i) x then plv o (nextV g.2.2 (ov o i) x)-1 else-1:=by
 obtain⟨hg,hfo⟩:=foldB_parts hf
 obtain⟨hg',hfo'⟩:=foldB_parts (foldB_rnGN hf ho)
 have fwd: ∀j:Int,0≤j→j<o.length→(nextV (rnG g o).2.2 i x=j↔nextV g.2.2 (ov o i) x=ov o j):=fun j j0 j1=>by
  have hoj:=(ho.2.1 _ (ov_mem j0 j1)).1
  rw[next_iff hg' hfo' hx j0,next_iff hg hfo hx hoj,rn_edge ho.1 (e:=(i,x,j)) ⟨h0,h1⟩ ⟨j0,j1⟩,rn_edge ho.1 (e:=(j,-x,i)) ⟨j0,j1⟩ ⟨h0,h1⟩]
 by_cases hy:0≤nextV g.2.2 (ov o i) x
 ·rw[if_pos hy]
  by_cases hm:nextV g.2.2 (ov o i) x∈o
  ·have hp:=plv_pos hm
   have hr:=plv_range o (nextV g.2.2 (ov o i) x)
   exact(fwd _ (by omega) (by omega)).2 (ov_plv ho.1 hm).symm
  ·rw[plv_zero.2 hm]
   rcases nextV_range hg' i x with h | h
   ·rw[h];rfl
   ·have:=(fwd _ h.1 h.2).1 rfl
    rw[this] at hm
    exact absurd (ov_mem h.1 h.2) hm
 ·rw[if_neg hy]
  rcases nextV_range hg' i x with h | h
  ·exact h
  ·have:=(fwd _ h.1 h.2).1 rfl
   have h2:=(ho.2.1 _ (ov_mem h.1 h.2)).1
   omega
theorem conn_next {es:List EdD} {u v x:Int} (hx: -3≤x∧x≤3) (h:Conn es u v) (hn:0≤nextV es v x):Conn es u (nextV es v x):=by
 obtain⟨e,he,hm⟩:=nextV_mem hn
 rcases(mt_iff hx).1 hm with ⟨_,_,r,s⟩ | ⟨_,_,r,s⟩
 ·rw[←s];exact .fwd e he (r▸h)
 ·rw[←s];exact .back e he (r▸h)
structure Sub (x g:GrD) (s:Int→Int):Prop where
 rk:x.1=g.1
 rng: ∀i,0≤i→i<x.2.1→0≤s i∧s i<g.2.1
 cn:Conn g.2.2 0 (s 0)
 fw: ∀i l,0≤i→i<x.2.1→ -3≤l∧l≤3→0≤nextV x.2.2 i l→nextV g.2.2 (s i) l=s (nextV x.2.2 i l)
 lp: ∀i w,0≤i→i<x.2.1→Conn x.2.2 0 i→(∀l∈w,-3≤l∧l≤3)→NoB w→walkF g.2.2 (s i) w=s i→walkF x.2.2 i w=i
theorem Sub.walk {x g:GrD} {s:Int→Int} (h:Sub x g s) (hx:grB x=true): ∀(w:List Int) (i:Int),0≤i→i<x.2.1→(∀l∈w,-3≤l∧l≤3)→0≤walkF x.2.2 i w→walkF g.2.2 (s i) w=s (walkF x.2.2 i w)
 | [],_,_,_,_,_=>rfl
 | l::w,i,h0,h1,hl,hw=>by
   rw[walkF_cons] at hw⊢
   split at hw
   ·exact absurd hw (by decide)
   ·rename_i hn
    have hl0:=hl l (by simp)
    have hf:=h.fw i l h0 h1 hl0 (by omega)
    rcases nextV_range hx i l with e | ⟨e1,e2⟩
    ·omega
    ·have hr:=h.rng _ e1 e2
     rw[hf,if_neg (by omega)]
     conv=>rhs;rw[walkF_cons,if_neg hn]
     exact h.walk hx w _ e1 e2 (fun l hl'=>hl l (by simp[hl'])) hw
theorem Sub.conn {x g:GrD} {s:Int→Int} (h:Sub x g s) (hx:grB x=true) (hfx:Fol x.2.2) (hg:grB g=true) {i:Int} (hc:Conn x.2.2 0 i):(0≤i∧i<x.2.1)∧Conn g.2.2 0 (s i):=by
 have hs:=(grB_parts hx).2.1
 have key: ∀e∈x.2.2,(Conn g.2.2 0 (s e.1)↔Conn g.2.2 0 (s e.2.2)):=fun e he=>by
  have hr:=edge_of_gr hx he
  have h3:=(grB_parts hx).1
  have hl: -3≤e.2.1∧e.2.1≤3:=by omega
  have n1:=nextV_out hx hfx he
  have n2:=nextV_in hx hfx he
  have f1:=h.fw e.1 e.2.1 hr.1.1 hr.1.2 hl (by rw[n1];exact hr.2.2.1)
  have f2:=h.fw e.2.2 (-e.2.1) hr.2.2.1 hr.2.2.2 (by omega) (by rw[n2];exact hr.1.1)
  rw[n1] at f1
  rw[n2] at f2
  constructor
  ·intro c
   have:=conn_next hl c (by rw[f1];exact(h.rng _ hr.2.2.1 hr.2.2.2).1)
   rwa [f1] at this
  ·intro c
   have:=conn_next (x:= -e.2.1) (by omega) c (by rw[f2];exact(h.rng _ hr.1.1 hr.1.2).1)
   rwa [f2] at this
 refine conn_of_closed (S:=fun i=>(0≤i∧i<x.2.1)∧Conn g.2.2 0 (s i)) ⟨by omega,h.cn⟩ (fun e he=> ?_) hc
 have hr:=edge_of_gr hx he
 have:=key e he
 constructor
 ·rintro⟨_,c⟩;exact⟨hr.2.2,this.1 c⟩
 ·rintro⟨_,c⟩;exact⟨hr.1,this.2 c⟩
theorem Sub.refl {g:GrD}:Sub g g id where
 rk:=rfl
 rng:=fun _ h0 h1=>⟨h0,h1⟩
 cn:= .base
 fw:=fun _ _ _ _ _ _=>rfl
 lp:=fun _ _ _ _ _ _ _ h=>h
theorem Sub.trans {x y g:GrD} {s t:Int→Int} (h:Sub x y s) (k:Sub y g t) (hx:grB x=true) (hfx:Fol x.2.2) (hy:grB y=true) (hfy:Fol y.2.2) (hg:grB g=true):Sub x g (fun i=>t (s i)) where
 rk:=h.rk.trans k.rk
 rng:=fun i h0 h1=>by have:=h.rng i h0 h1;exact k.rng _ this.1 this.2
 cn:=(k.conn hy hfy hg h.cn).2
 fw:=fun i l h0 h1 hl hn=>by
  have hr:=h.rng i h0 h1
  have f:=h.fw i l h0 h1 hl hn
  rw[←f]
  refine k.fw _ l hr.1 hr.2 hl ?_
  rw[f]
  rcases nextV_range hx i l with e | ⟨e1,e2⟩
  ·omega
  ·exact(h.rng _ e1 e2).1
 lp:=fun i w h0 h1 hc hl hn hw=>by
  have hr:=h.rng i h0 h1
  exact h.lp i w h0 h1 hc hl hn (k.lp (s i) w hr.1 hr.2 (h.conn hx hfx hy hc).2 hl hn hw)
theorem NoB.tail {a:Int} {l:List Int} (h:NoB (a::l)):NoB l:=by
 cases l with
 | nil=>trivial
 | cons b l=>exact h.2
theorem Sub.rn {g:GrD} {o:List Int} (hf:foldB g=true) (ho:OrdN g.2.1 o) (h0:Conn g.2.2 0 (ov o 0))
  (H: ∀v∈o,Conn g.2.2 0 v→ ∀l w,-3≤l∧l≤3→(∀x∈w,-3≤x∧x≤3)→NoB (l::w)→0≤nextV g.2.2 v l→nextV g.2.2 v l∉o→walkF g.2.2 (nextV g.2.2 v l) w∉o):Sub (rnG g o) g (ov o):=by
 obtain⟨hg,hfo⟩:=foldB_parts hf
 obtain⟨hg',hfo'⟩:=foldB_parts (foldB_rnGN hf ho)
 have rngs: ∀i,0≤i→i<(rnG g o).2.1→0≤ov o i∧ov o i<g.2.1:=fun i a b=>ho.2.1 _ (ov_mem a b)
 have fws: ∀i l,0≤i→i<(rnG g o).2.1→ -3≤l∧l≤3→0≤nextV (rnG g o).2.2 i l→nextV g.2.2 (ov o i) l=ov o (nextV (rnG g o).2.2 i l):=fun i l a b hl hn=>by
  have e:=rn_next hf ho a b hl
  split at e
  ·rename_i hp
   rw[e] at hn⊢
   refine(ov_plv ho.1 (Classical.byContradiction fun hm=> ?_)).symm
   have:=plv_zero.2 hm
   omega
  ·omega
 have walks: ∀(w:List Int) (v:Int),v∈o→Conn g.2.2 0 v→(∀l∈w,-3≤l∧l≤3)→NoB w→walkF g.2.2 v w∈o→walkF (rnG g o).2.2 (plv o v-1) w=plv o (walkF g.2.2 v w)-1:=by
  intro w
  induction w with
  | nil=>intro v _ _ _ _ _;rfl
  | cons l w ih=>
    intro v hv hc hl hn hw
    have hl0:=hl l (by simp)
    have hlw: ∀x∈w,-3≤x∧x≤3:=fun x hx=>hl x (by simp[hx])
    rw[walkF_cons] at hw
    split at hw
    ·have:=(ho.2.1 _ hw).1;omega
    ·rename_i hnn
     have hm:nextV g.2.2 v l∈o:=Classical.byContradiction fun hm=>H v hv hc l w hl0 hlw hn (by omega) hm hw
     have hp:=plv_pos hv
     have hr:=plv_range o v
     have hp2:=plv_pos hm
     have e:=rn_next hf ho (i:=plv o v-1) (x:=l) (by omega) (by omega) hl0
     rw[ov_plv ho.1 hv,if_pos (by omega)] at e
     rw[walkF_cons,walkF_cons,e,if_neg (by omega),if_neg hnn]
     exact ih _ hm (conn_next hl0 hc (by omega)) hlw hn.tail hw
 exact⟨rfl,rngs,h0,fws,fun i w a b hc hl hn hw=>by
  have hci:Conn g.2.2 0 (ov o i):=by
   have key: ∀e∈(rnG g o).2.2,(Conn g.2.2 0 (ov o e.1)↔Conn g.2.2 0 (ov o e.2.2)):=fun e he=>by
    have hr:=edge_of_gr hg' he
    have h3:=(grB_parts hg').1
    have hl: -3≤e.2.1∧e.2.1≤3:=by omega
    have n1:=nextV_out hg' hfo' he
    have n2:=nextV_in hg' hfo' he
    have f1:=fws e.1 e.2.1 hr.1.1 hr.1.2 hl (by rw[n1];exact hr.2.2.1)
    have f2:=fws e.2.2 (-e.2.1) hr.2.2.1 hr.2.2.2 (by omega) (by rw[n2];exact hr.1.1)
    rw[n1] at f1
    rw[n2] at f2
    constructor
    ·intro c
     have:=conn_next hl c (by rw[f1];exact(rngs _ hr.2.2.1 hr.2.2.2).1)
     rwa [f1] at this
    ·intro c
     have:=conn_next (x:= -e.2.1) (by omega) c (by rw[f2];exact(rngs _ hr.1.1 hr.1.2).1)
     rwa [f2] at this
   exact conn_of_closed (S:=fun i=>Conn g.2.2 0 (ov o i)) h0 key hc
  have hmi:=ov_mem a b
  have:=walks w (ov o i) hmi hci hl hn (by rw[hw];exact hmi)
  rw[hw,plv_ov ho.1 a b] at this
  rw[show i+1-1=i by omega] at this
  exact this⟩
theorem degE_pos {v x y:Int} {e:EdD} (hx: -3≤x∧x≤3) (h:mt v x e=some y):1≤degE v e:=by
 unfold degE
 rcases(mt_iff hx).1 h with ⟨_,_,r,_⟩ | ⟨_,_,r,_⟩
 ·rw[if_pos r];omega
 ·rw[if_pos r];omega
theorem degL_cons (e:EdD) (es:List EdD) (v:Int):degL (e::es) v=degE v e+degL es v:=by simp[degL]
theorem degL_mem {v:Int} {e:EdD}: ∀ {es:List EdD},e∈es→degE v e≤degL es v
 | a::es,h=>by
   rw[degL_cons]
   rcases List.mem_cons.1 h with rfl | h
   ·omega
   ·have:=degL_mem (v:=v) h;omega
theorem degL_two {v:Int} {e1 e2:EdD} (hne:e1≠e2): ∀ {es:List EdD},e1∈es→e2∈es→degE v e1+degE v e2≤degL es v
 | a::es,h1,h2=>by
   rw[degL_cons]
   rcases List.mem_cons.1 h1 with r1 | h1
   ·rcases List.mem_cons.1 h2 with r2 | h2
    ·exact absurd (r1.trans r2.symm) hne
    ·have:=degL_mem (v:=v) h2
     rw[r1];omega
   ·rcases List.mem_cons.1 h2 with r2 | h2
    ·have:=degL_mem (v:=v) h1
     rw[r2];omega
    ·have:=degL_two (v:=v) hne h1 h2;omega
theorem deg_uniq {es:List EdD} {v l m:Int} (hl: -3≤l∧l≤3) (hm: -3≤m∧m≤3) (hd:degL es v≤1) (h1:0≤nextV es v l) (h2:0≤nextV es v m):l=m:=by
 obtain⟨e1,he1,m1⟩:=nextV_mem h1
 obtain⟨e2,he2,m2⟩:=nextV_mem h2
 have p1:=degE_pos hl m1
 have p2:=degE_pos hm m2
 by_cases he:e1=e2
 ·subst he
  have hd1:=degL_mem (v:=v) he1
  unfold degE at hd1
  rcases(mt_iff hl).1 m1 with ⟨a1,a2,a3,a4⟩ | ⟨a1,a2,a3,a4⟩<;>rcases(mt_iff hm).1 m2 with ⟨b1,b2,b3,b4⟩ | ⟨b1,b2,b3,b4⟩
  ·omega
  ·rw[if_pos a3,if_pos b3] at hd1;omega
  ·rw[if_pos a3,if_pos b3] at hd1;omega
  ·omega
 ·have:=degL_two (v:=v) he he1 he2
  omega
theorem leafFrom_leaf (es:List EdD) (n:Nat): ∀f v:Nat,0≤leafFrom es n f v→leafB es (leafFrom es n f v).toNat=true
 | 0,v,h=>by unfold leafFrom at h;exact absurd h (by decide)
 | f+1,v,h=>by
   unfold leafFrom at h⊢
   split
   ·rename_i hv
    rw[if_pos hv] at h
    split
    ·rename_i hb;simpa using hb
    ·rename_i hb
     rw[if_neg hb] at h
     exact leafFrom_leaf es n f (v+1) h
   ·rename_i hv
    rw[if_neg hv] at h
    exact absurd h (by decide)
theorem Sub.leaf {g:GrD} (hf:foldB g=true) (hl:0≤leafV g.2.2 g.2.1.toNat):Sub (rnG g (delO g.2.1.toNat (leafV g.2.2 g.2.1.toNat))) g (ov (delO g.2.1.toNat (leafV g.2.2 g.2.1.toNat)))∧ov (delO g.2.1.toNat (leafV g.2.2 g.2.1.toNat)) 0=0:=by
 obtain⟨hg,hfo⟩:=foldB_parts hf
 have hsz:=(grB_parts hg).2.1
 have hr:=leafV_range g.2.2 g.2.1.toNat
 have hlf:=leafFrom_leaf g.2.2 g.2.1.toNat _ _ hl
 change leafB g.2.2 (leafV g.2.2 g.2.1.toNat).toNat=true at hlf
 generalize leafV g.2.2 g.2.1.toNat=u at*
 have hok:=delO_ok (n:=g.2.1.toNat) (x:=u) (by omega) (by omega)
 rw[show((g.2.1.toNat:Nat):Int)=g.2.1 by omega] at hok
 have hz:ov (delO g.2.1.toNat u) 0=0:=by
  have:=hok.2.2
  unfold ov
  simp[List.getD,this]
 refine⟨Sub.rn hf hok.toN (by rw[hz];exact .base) ?_,hz⟩
 intro v hv hc l w hll hlw hn h0 hm
 have hyu:nextV g.2.2 v l=u:=Classical.byContradiction fun hne=>by
  rcases nextV_range hg v l with e | ⟨e1,e2⟩
  ·omega
  ·exact hm (delO_mem.2 ⟨⟨e1,by omega⟩,hne⟩)
 have hcu:=conn_next hll hc h0
 rw[hyu] at hcu hm⊢
 have hd:degL g.2.2 u<2:=by
  unfold leafB at hlf
  rw[show((u.toNat:Nat):Int)=u by omega,Bool.or_eq_true,decide_eq_true_eq] at hlf
  rcases hlf with h | h
  ·exact h
  ·rw[hasB_iff.2 ((reachL_mem _ _ _).2 hcu)] at h
   cases h
 cases w with
 | nil=>exact hm
 | cons m w=>
   have hml:=hlw m (by simp)
   rw[walkF_cons]
   by_cases hnm:nextV g.2.2 u m<0
   ·rw[if_pos hnm]
    intro q
    have:=(delO_mem.1 q).1
    omega
   ·have hb:=nextV_back hg hfo hll h0
    rw[hyu] at hb
    have hv0:=(hok.2.1 v hv).1
    have:=deg_uniq hml (m:= -l) (by omega) (by omega:degL g.2.2 u≤1) (by omega) (by rw[hb];exact hv0)
    exact absurd this hn.1
theorem Sub.trimF: ∀(f:Nat) (g:GrD) (l:List Int),foldB g=true→ ∃s,Sub (trimF f g l).1 g s∧s 0=0
 | 0,g,l,_=>⟨id,Sub.refl,rfl⟩
 | f+1,g,l,hf=>by
   unfold Go.Proofs.YtnjpoljbagfdnaaGreat.trimF
   split
   ·exact⟨id,Sub.refl,rfl⟩
   ·rename_i hn
    obtain⟨hg,hfo⟩:=foldB_parts hf
    obtain⟨s1,z1⟩:=Sub.leaf hf (by omega)
    have hsz:=(grB_parts hg).2.1
    have hr:=leafV_range g.2.2 g.2.1.toNat
    have hok:=delO_ok (n:=g.2.1.toNat) (x:=leafV g.2.2 g.2.1.toNat) (by omega) (by omega)
    rw[show((g.2.1.toNat:Nat):Int)=g.2.1 by omega] at hok
    have hf2:=foldB_rnG hf hok
    obtain⟨s,hs,hz⟩:=Sub.trimF f _ (l.take (leafV g.2.2 g.2.1.toNat).toNat++l.drop ((leafV g.2.2 g.2.1.toNat).toNat+1)) hf2
    obtain⟨ga,fa⟩:=foldB_parts hf2
    obtain⟨gb,fb⟩:=foldB_parts (trimF_fold f _ (l.take (leafV g.2.2 g.2.1.toNat).toNat++l.drop ((leafV g.2.2 g.2.1.toNat).toNat+1)) hf2)
    exact⟨_,hs.trans s1 gb fb ga fa hg,by rw[hz,z1]⟩
theorem leafV_one (es:List EdD):leafV es 1= -1:=rfl
theorem trimF_noleaf: ∀(f:Nat) (g:GrD) (l:List Int),foldB g=true→g.2.1≤f+1→leafV (Go.Proofs.YtnjpoljbagfdnaaGreat.trimF f g l).1.2.2 (Go.Proofs.YtnjpoljbagfdnaaGreat.trimF f g l).1.2.1.toNat<0
 | 0,g,l,hf,h=>by
   have hsz:=(grB_parts (foldB_parts hf).1).2.1
   have e:g.2.1.toNat=1:=by omega
   show leafV g.2.2 g.2.1.toNat<0
   rw[e,leafV_one];decide
 | f+1,g,l,hf,h=>by
   unfold Go.Proofs.YtnjpoljbagfdnaaGreat.trimF
   split
   ·rename_i hn;exact hn
   ·rename_i hn
    have hsz:=(grB_parts (foldB_parts hf).1).2.1
    have hr:=leafV_range g.2.2 g.2.1.toNat
    have hok:=delO_ok (n:=g.2.1.toNat) (x:=leafV g.2.2 g.2.1.toNat) (by omega) (by omega)
    rw[show((g.2.1.toNat:Nat):Int)=g.2.1 by omega] at hok
    refine trimF_noleaf f _ _ (foldB_rnG hf hok) ?_
    rw[rnG_size,delO_len2,if_pos (by omega)]
    omega
theorem trimG_noleaf {g:GrD} (hf:foldB g=true):leafV (trimG g).1.2.2 (trimG g).1.2.1.toNat<0:=by
 have hsz:=(grB_parts (foldB_parts hf).1).2.1
 exact trimF_noleaf _ _ _ hf (by omega)
theorem cstep_sub (es:List EdD) (u:Int) (o:List Int) (x:Int) {y:Int} (h:y∈o):y∈cstep es u o x:=by
 unfold cstep
 split
 ·split
  ·exact h
  ·exact List.mem_append.2 (.inl h)
 ·exact h
theorem cfold_sub (es:List EdD) (u:Int): ∀(ls:List Int) (o:List Int) {y:Int},y∈o→y∈ls.foldl (cstep es u) o
 | [],_,_,h=>h
 | x::ls,o,_,h=>cfold_sub es u ls _ (cstep_sub es u o x h)
theorem cfold_has (es:List EdD) (u:Int): ∀(ls:List Int) (o:List Int) (x:Int),x∈ls→0≤nextV es u x→nextV es u x∈ls.foldl (cstep es u) o
 | a::ls,o,x,hx,h=>by
   rw[List.foldl_cons]
   rcases List.mem_cons.1 hx with rfl | hx
   ·refine cfold_sub es u ls _ ?_
    unfold cstep
    rw[if_pos h]
    split
    ·rename_i hb;exact hasB_iff.1 hb
    ·exact List.mem_append.2 (.inr (by simp))
   ·exact cfold_has es u ls _ x hx h
theorem canF_closed {g:GrD} (hg:grB g=true) (ls:List Int): ∀(f i:Nat) (o:List Int),OrdOk g.2.1 o→41≤f+i→
  (∀(j:Nat) (v:Int),j<i→o[j]? =some v→ ∀x∈ls,0≤nextV g.2.2 v x→nextV g.2.2 v x∈o)→
  ∀v∈canF g.2.2 ls f i o,∀x∈ls,0≤nextV g.2.2 v x→nextV g.2.2 v x∈canF g.2.2 ls f i o
 | 0,i,o,hok,hi,hc=>by
   have hl:=hok.len (grB_parts hg).2.1.2 (by have:=(grB_parts hg).2.1.1;omega)
   intro v hv x hx h0
   obtain⟨j,hj,rfl⟩:=List.getElem_of_mem hv
   exact hc j _ (by have:(canF g.2.2 ls 0 i o).length=o.length:=rfl;omega) (List.getElem?_eq_getElem hj) x hx h0
 | f+1,i,o,hok,hi,hc=>by
   have hl:=hok.len (grB_parts hg).2.1.2 (by have:=(grB_parts hg).2.1.1;omega)
   by_cases hil:i<o.length
   ·rw[canF_step _ _ _ _ _ hil]
    refine canF_closed hg ls f (i+1) _ (cfold_ok hg ls hok) (by omega) ?_
    intro j v hj hv x hx h0
    by_cases hji:j<i
    ·have hjo:j<o.length:=by omega
     have e:=cfold_prefix g.2.2 o[i] ls o j _ (List.getElem?_eq_getElem hjo)
     rw[hv] at e
     injection e with e
     subst e
     exact cfold_sub _ _ _ _ (hc j _ hji (List.getElem?_eq_getElem hjo) x hx h0)
    ·obtain rfl:j=i:=by omega
     have e:=cfold_prefix g.2.2 o[j] ls o j _ (List.getElem?_eq_getElem hil)
     rw[hv] at e
     injection e with e
     subst e
     exact cfold_has _ _ _ _ _ hx h0
   ·have e:canF g.2.2 ls (f+1) i o=o:=by
     rw[canF,List.getElem?_eq_none (by omega)]
    rw[e]
    intro v hv x hx h0
    obtain⟨j,hj,rfl⟩:=List.getElem_of_mem hv
    exact hc j _ (by omega) (List.getElem?_eq_getElem hj) x hx h0
theorem canO_closed {g:GrD} (hg:grB g=true) {v x:Int} (hv:v∈canO g) (hx: -3≤x∧x≤3) (h0:0≤nextV g.2.2 v x):nextV g.2.2 v x∈canO g:=
 canF_closed hg _ 41 0 [0] (OrdOk.one (grB_parts hg).2.1.1) (by omega) (fun j _ hj=>by omega) v hv x (next_letter hg hx h0) h0
theorem ov_zero {n:Int} {o:List Int} (h:OrdOk n o):ov o 0=0:=by
 have:=h.2.2
 unfold ov
 simp[List.getD,this]
theorem Sub.can {g:GrD} (hf:foldB g=true):Sub (canG g) g (ov (canO g)):=by
 obtain⟨hg,hfo⟩:=foldB_parts hf
 have hok:=canO_ok hg
 refine Sub.rn hf hok.toN (by rw[ov_zero hok];exact .base) ?_
 intro v hv hc l w hl hlw hn h0 hm
 exact absurd (canO_closed hg hv hl h0) hm
theorem foL_of_fol {es:List EdD} (h:Fol es):foL es= []:=by
 cases e:foL es with
 | nil=>rfl
 | cons f l=>
   obtain⟨i,k,hi,hk,hf⟩:=foL_from (show f∈foL es by rw[e];simp)
   have hc:=List.pairwise_iff_getElem.1 h i k (by omega) hk hi
   unfold clash at hc
   unfold fo2 at hf
   rw[Bool.eq_false_iff] at hc
   rcases List.mem_append.1 hf with hf | hf
   ·split at hf
    ·rename_i q
     exact absurd (by simp[q.1,q.2]) hc
    ·cases hf
   ·split at hf
    ·rename_i q
     exact absurd (by simp[q.1,q.2]) hc
    ·cases hf
theorem folA_fol {g:GrD} (hf:foldB g=true):folA g=g:=folF_nil (foL_of_fol (foldB_parts hf).2) _
theorem foldB_canG {g:GrD} (hf:foldB g=true):foldB (canG g)=true:=foldB_rnG hf (canO_ok (foldB_parts hf).1)
theorem Sub.core {g:GrD} (hf:foldB g=true): ∃s,Sub (coreG g) g s∧s 0=0:=by
 obtain⟨hg,hfo⟩:=foldB_parts hf
 unfold coreG
 rw[folA_fol hf]
 obtain⟨s,hs,hz⟩:=Sub.trimF g.2.1.toNat g ((List.range g.2.1.toNat).map fun v=>((v:Nat):Int)) hf
 have ht:=trimG_fold hf
 obtain⟨ga,fa⟩:=foldB_parts ht
 obtain⟨gb,fb⟩:=foldB_parts (foldB_canG ht)
 exact⟨_,(Sub.can ht).trans hs gb fb ga fa hg,by rw[ov_zero (canO_ok ga),hz]⟩
theorem canF_map {g h:GrD} {o:List Int} {f:Int→Int} {ls:List Int} (hinj: ∀u∈o,∀v∈o,f u=f v→u=v)
  (hst: ∀u∈o,∀x∈ls,(0≤nextV g.2.2 u x→nextV g.2.2 u x∈o∧nextV h.2.2 (f u) x=f (nextV g.2.2 u x)∧0≤f (nextV g.2.2 u x))∧(nextV g.2.2 u x<0→nextV h.2.2 (f u) x<0)):
  ∀(n i:Nat) (o1:List Int),(∀y∈o1,y∈o)→canF h.2.2 ls n i (o1.map f)=(canF g.2.2 ls n i o1).map f:=by
 have hhas: ∀(o1:List Int) (y:Int),(∀z∈o1,z∈o)→y∈o→hasB (o1.map f) (f y)=hasB o1 y:=fun o1 y ho hy=>by
  rw[Bool.eq_iff_iff,hasB_iff,hasB_iff,List.mem_map]
  constructor
  ·rintro⟨z,hz,e⟩
   rw[←hinj z (ho z hz) y hy e]
   exact hz
  ·intro h;exact⟨y,h,rfl⟩
 have step: ∀(o1:List Int) (u x:Int),(∀z∈o1,z∈o)→u∈o→x∈ls→cstep h.2.2 (f u) (o1.map f) x=(cstep g.2.2 u o1 x).map f∧ ∀z∈cstep g.2.2 u o1 x,z∈o:=fun o1 u x ho hu hx=>by
  have hs:=hst u hu x hx
  unfold cstep
  by_cases h0:0≤nextV g.2.2 u x
  ·obtain⟨a,b,c⟩:=hs.1 h0
   rw[if_pos h0,b,if_pos c,hhas o1 _ ho a]
   by_cases hb:hasB o1 (nextV g.2.2 u x)=true
   ·rw[if_pos hb,if_pos hb];exact⟨rfl,ho⟩
   ·rw[if_neg hb,if_neg hb]
    refine⟨by simp,fun z hz=> ?_⟩
    rcases List.mem_append.1 hz with hz | hz
    ·exact ho z hz
    ·rw[List.mem_singleton.1 hz];exact a
  ·have:=hs.2 (by omega)
   rw[if_neg h0,if_neg (by omega)]
   exact⟨rfl,ho⟩
 have fold: ∀(l2:List Int) (o1:List Int) (u:Int),(∀x∈l2,x∈ls)→(∀z∈o1,z∈o)→u∈o→l2.foldl (cstep h.2.2 (f u)) (o1.map f)=(l2.foldl (cstep g.2.2 u) o1).map f∧ ∀z∈l2.foldl (cstep g.2.2 u) o1,z∈o:=by
  intro l2
  induction l2 with
  | nil=>intro o1 u _ ho _;exact⟨rfl,ho⟩
  | cons x l2 ih=>
    intro o1 u hl ho hu
    have:=step o1 u x ho hu (hl x (by simp))
    rw[List.foldl_cons,List.foldl_cons,this.1]
    exact ih _ u (fun y hy=>hl y (by simp[hy])) this.2 hu
 intro n
 induction n with
 | zero=>intro i o1 _;rfl
 | succ n ih=>
   intro i o1 ho
   rw[canF,canF,List.getElem?_map]
   cases hi:o1[i]? with
   | none=>rfl
   | some u=>
     simp only[Option.map_some]
     have:=fold ls o1 u (fun _ h=>h) ho (ho u (List.mem_of_getElem? hi))
     rw[this.1]
     exact ih _ _ this.2
theorem rng_get {n k:Nat} (h:k<(rng n).length):(rng n)[k]=(k:Int):=by simp[rng]
theorem rng_nodup (n:Nat):(rng n).Nodup:=by
 unfold rng List.Nodup
 rw[List.pairwise_map]
 exact(List.nodup_range (n:=n)).imp fun hab e=>hab (by omega)
theorem plv_rng {n:Nat} {v:Int} (h:0≤v∧v<n):plv (rng n) v=v+1:=by
 obtain⟨k,rfl⟩: ∃k:Nat,v=(k:Int):=⟨v.toNat,by omega⟩
 have hk:k<(rng n).length:=by rw[rng_len];omega
 have:=plv_get (rng_nodup n) k hk
 rwa [rng_get hk] at this
theorem rnG_rng {g:GrD} (hg:grB g=true):rnG g (rng g.2.1.toNat)=g:=by
 have hs:=(grB_parts hg).2.1
 have hL:rnL g.2.2 (rng g.2.1.toNat)=g.2.2:=by
  unfold rnL
  have: ∀e∈g.2.2,rnE (rng g.2.1.toNat) e=some e:=fun e he=>by
   have hr:=edge_of_gr hg he
   unfold rnE
   rw[plv_rng ⟨hr.1.1,by omega⟩,plv_rng ⟨hr.2.2.1,by omega⟩,if_pos ⟨by omega,by omega⟩]
   obtain⟨a,l,b⟩:=e
   simp only
   rw[show a+1-1=a by omega,show b+1-1=b by omega]
  generalize g.2.2=es at*
  induction es with
  | nil=>rfl
  | cons e es ih=>
    rw[List.filterMap_cons,this e (by simp)]
    simp only
    rw[ih fun a ha=>this a (by simp[ha])]
 unfold rnG
 rw[hL,←srt_eq cmpE_ord (gr_srt hg) (fun _=>Iff.rfl),rng_len]
 obtain⟨a,b,c⟩:=g
 simp only at hs⊢
 rw[show((b.toNat:Nat):Int)=b by omega]
theorem coreB_can {h:GrD} (hf:foldB h=true) (hl:leafV h.2.2 h.2.1.toNat<0):coreB (canG h)=true:=by
 obtain⟨hg,hfo⟩:=foldB_parts hf
 have hf':=foldB_canG hf
 obtain⟨hg',hfo'⟩:=foldB_parts hf'
 have hok:=canO_ok hg
 have hsz:=(grB_parts hg).2.1
 have hsz':=(grB_parts hg').2.1
 have next: ∀u∈canO h,∀x,-3≤x∧x≤3→(0≤nextV h.2.2 u x→nextV h.2.2 u x∈canO h∧nextV (canG h).2.2 (plv (canO h) u-1) x=plv (canO h) (nextV h.2.2 u x)-1∧0≤plv (canO h) (nextV h.2.2 u x)-1)∧(nextV h.2.2 u x<0→nextV (canG h).2.2 (plv (canO h) u-1) x<0):=fun u hu x hx=>by
  have hp:=plv_pos hu
  have hr:=plv_range (canO h) u
  have e:=rn_next hf hok.toN (i:=plv (canO h) u-1) (x:=x) (by omega) (by omega) hx
  rw[ov_plv hok.1 hu] at e
  constructor
  ·intro h0
   have hm:=canO_closed hg hu hx h0
   have:=plv_pos hm
   rw[if_pos h0] at e
   exact⟨hm,e,by omega⟩
  ·intro h0
   rw[if_neg (by omega)] at e
   show nextV (rnG h (canO h)).2.2 _ x<0
   omega
 have hcan:canO (canG h)=rng (canO h).length:=by
  have hm:=canF_map (g:=h) (h:=canG h) (o:=canO h) (f:=fun u=>plv (canO h) u-1) (ls:=lettersL h.1.toNat) (fun u hu v hv e=>by
   have:=plv_pos hu
   exact plv_inj (o:=canO h) (by have e':plv (canO h) u-1=plv (canO h) v-1:=e;omega) (by omega)) (fun u hu x hx=>next u hu x (let3 hg hx)) 41 0 [0] (fun y hy=>by
   rw[List.mem_singleton.1 hy];exact List.mem_of_getElem? hok.2.2)
  have e0:plv (canO h) 0-1=0:=by
   have h0:0<(canO h).length:=(List.getElem?_eq_some_iff.1 hok.2.2).1
   have:=plv_get hok.1 0 h0
   have h1:=(List.getElem?_eq_some_iff.1 hok.2.2).2
   rw[h1] at this
   omega
  simp only[List.map_cons,List.map_nil,e0] at hm
  show canF (canG h).2.2 (lettersL h.1.toNat) 41 0 [0]=_
  rw[hm]
  show(canO h).map (fun u=>plv (canO h) u-1)=_
  apply List.ext_getElem
  ·rw[List.length_map,rng_len]
  ·intro k h1 h2
   rw[List.getElem_map,rng_get,plv_get hok.1 k (by simpa using h1)]
   omega
 have hcc:canG (canG h)=canG h:=by
  have e:(canO h).length=(canG h).2.1.toNat:=by show _=((canO h).length:Int).toNat;omega
  show rnG (canG h) (canO (canG h))=_
  rw[hcan,e,rnG_rng hg']
 have hleaf:leafV (canG h).2.2 (canG h).2.1.toNat<0:=by
  apply Classical.byContradiction
  intro hn
  have hb:=leafFrom_leaf (canG h).2.2 (canG h).2.1.toNat _ _ (by omega:0≤leafV (canG h).2.2 (canG h).2.1.toNat)
  change leafB (canG h).2.2 (leafV (canG h).2.2 (canG h).2.1.toNat).toNat=true at hb
  have hr:=leafV_range (canG h).2.2 (canG h).2.1.toNat
  generalize leafV (canG h).2.2 (canG h).2.1.toNat=u at*
  have hlen:(canG h).2.1=((canO h).length:Int):=rfl
  have hu0:0≤u:=by omega
  have hu1:u<((canO h).length:Int):=by omega
  have hov:=ov_mem hu0 hu1
  have hpo:=plv_ov hok.1 hu0 hu1
  have hovr:=hok.2.1 _ hov
  have hov0:ov (canO h) u≠0:=fun e=>by
   have h0:0<(canO h).length:=(List.getElem?_eq_some_iff.1 hok.2.2).1
   have:=plv_get hok.1 0 h0
   rw[(List.getElem?_eq_some_iff.1 hok.2.2).2] at this
   rw[e] at hpo
   omega
  have hlb:=leaf_none h.2.2 h.2.1.toNat (h.2.1.toNat-1) 1 (by omega) hl (ov (canO h) u).toNat (by omega) (by omega)
  unfold leafB at hlb hb
  rw[show((u.toNat:Nat):Int)=u by omega] at hb
  rw[show(((ov (canO h) u).toNat:Nat):Int)=ov (canO h) u by omega] at hlb
  simp only[Bool.or_eq_false_iff,decide_eq_false_iff_not,Bool.not_eq_false'] at hlb
  rw[Bool.or_eq_true,decide_eq_true_eq] at hb
  rcases hb with hb | hb
  ·--two letters at ov u
   obtain⟨l,m,hll,hmm,hlm,n1,n2⟩: ∃l m,(-3≤l∧l≤3)∧(-3≤m∧m≤3)∧l≠m∧0≤nextV h.2.2 (ov (canO h) u) l∧0≤nextV h.2.2 (ov (canO h) u) m:=by
    apply Classical.byContradiction
    intro hno
    have all: ∀l m,(-3≤l∧l≤3)→(-3≤m∧m≤3)→0≤nextV h.2.2 (ov (canO h) u) l→0≤nextV h.2.2 (ov (canO h) u) m→l=m:=fun l m a b c d=>Classical.byContradiction fun e=>hno ⟨l,m,a,b,e,c,d⟩
    have hd: ∀l0,(∀l,(-3≤l∧l≤3)→0≤nextV h.2.2 (ov (canO h) u) l→l=l0)→degL h.2.2 (ov (canO h) u)≤1:=fun l0 hl0=>deg_one (l0:=l0) hfo (let_of_gr hg) fun e he=>by
     have hre:=edge_of_gr hg he
     have h3:=(grB_parts hg).1
     constructor
     ·intro e1
      refine hl0 e.2.1 (by omega) ?_
      rw[←e1,nextV_out hg hfo he];exact hre.2.2.1
     ·intro e1
      refine hl0 (-e.2.1) (by omega) ?_
      rw[←e1,nextV_in hg hfo he];exact hre.1.1
    by_cases hex: ∃l,(-3≤l∧l≤3)∧0≤nextV h.2.2 (ov (canO h) u) l
    ·obtain⟨l0,a,b⟩:=hex
     have:=hd l0 fun l c d=>all l l0 c a d b
     omega
    ·have:=hd 0 fun l c d=>absurd ⟨l,c,d⟩ hex
     omega
   have t1:=(next _ hov l hll).1 n1
   have t2:=(next _ hov m hmm).1 n2
   rw[hpo,show u+1-1=u by omega] at t1 t2
   exact hlm (deg_uniq (es:=(canG h).2.2) (v:=u) hll hmm (by omega) (by rw[t1.2.1];exact t1.2.2) (by rw[t2.2.1];exact t2.2.2))
  ·have hc:=(reachL_mem _ _ _).1 (hasB_iff.1 hlb.2)
   have hc2:(ov (canO h) u∈canO h∧Conn (canG h).2.2 0 (plv (canO h) (ov (canO h) u)-1)):=by
    have h0:0<(canO h).length:=(List.getElem?_eq_some_iff.1 hok.2.2).1
    have hp0:=plv_get hok.1 0 h0
    rw[(List.getElem?_eq_some_iff.1 hok.2.2).2] at hp0
    refine conn_of_closed (S:=fun v=>v∈canO h∧Conn (canG h).2.2 0 (plv (canO h) v-1)) ⟨List.mem_of_getElem? hok.2.2,by rw[hp0];exact .base⟩ (fun e he=> ?_) hc
    have hre:=edge_of_gr hg he
    have h3:=(grB_parts hg).1
    have p1:=nextV_out hg hfo he
    have p2:=nextV_in hg hfo he
    constructor
    ·rintro⟨a,b⟩
     have t:=(next _ a e.2.1 (by omega)).1 (by rw[p1];exact hre.2.2.1)
     rw[p1] at t
     refine⟨t.1,?_⟩
     have:=conn_next (x:=e.2.1) (by omega) b (by rw[t.2.1];exact t.2.2)
     rwa [t.2.1] at this
    ·rintro⟨a,b⟩
     have t:=(next _ a (-e.2.1) (by omega)).1 (by rw[p2];exact hre.1.1)
     rw[p2] at t
     refine⟨t.1,?_⟩
     have:=conn_next (x:= -e.2.1) (by omega) b (by rw[t.2.1];exact t.2.2)
     rwa [t.2.1] at this
   rw[hpo,show u+1-1=u by omega] at hc2
   rw[hasB_iff.2 ((reachL_mem _ _ _).2 hc2.2)] at hb
   cases hb
 unfold coreB
 rw[hf',hcc,decide_eq_true hleaf,decide_eq_true rfl]
 rfl
theorem coreB_coreG {g:GrD} (hg:grB g=true):coreB (coreG g)=true:=by
 have h1:=trimG_fold (folA_ok hg)
 exact coreB_can h1 (trimG_noleaf (folA_ok hg))
theorem incl_hom {a b:GrD} (h:inclS a b=true): ∀(w:List Int) (u:Int),(∀x∈w,-3≤x∧x≤3)→u∈canO a→0≤walkF a.2.2 u w→walkF b.2.2 (imgW a b u) w=imgW a b (walkF a.2.2 u w):=by
 unfold inclS at h
 simp only[Bool.and_eq_true,decide_eq_true_eq] at h
 obtain⟨⟨⟨ha,hb⟩,hr⟩,H⟩:=h
 have hga:=coreB_grB ha
 intro w
 induction w with
 | nil=>intro u _ _ _;rfl
 | cons x w ih=>
   intro u hx hu hw
   rw[walkF_cons] at hw⊢
   split at hw
   ·exact absurd hw (by decide)
   ·rename_i hn
    have hs:=List.all_eq_true.1 (List.all_eq_true.1 H u hu) x (next_letter (v:=u) hga (hx x (by simp)) (Int.not_lt.1 hn))
    unfold stB at hs
    rw[decide_eq_false hn,Bool.false_or,Bool.and_eq_true,decide_eq_true_eq,decide_eq_true_eq] at hs
    rw[if_neg (by omega)]
    conv=>rhs;rw[walkF_cons,if_neg hn]
    rw[←hs.2]
    exact ih _ (fun y hy=>hx y (by simp[hy])) (canO_closed hga hu (hx x (by simp)) (Int.not_lt.1 hn)) hw
theorem incl_parts {a b:GrD} (h:inclS a b=true):coreB a=true∧coreB b=true∧a.1=b.1:=by
 unfold inclS at h
 simp only[Bool.and_eq_true,decide_eq_true_eq] at h
 exact⟨h.1.1.1,h.1.1.2,h.1.2⟩
theorem incl_zero {a b:GrD} (ha:grB a=true):imgW a b 0=0:=by unfold imgW;rw[wd_zero ha];rfl
theorem core_fold {g:GrD} (h:coreB g=true):foldB g=true:=by
 unfold coreB at h;simp only[Bool.and_eq_true] at h;exact h.1.1
theorem bas_let3 {g:GrD} (hg:grB g=true) {e:EdD} (he:e∈g.2.2) (h1:e.1∈canO g) (h2:e.2.2∈canO g): ∀x∈basW g e,-3≤x∧x≤3:=fun y hy=>by
 unfold basW at hy
 rcases List.mem_append.1 hy with hy | hy
 ·rcases List.mem_append.1 hy with hy | hy
  ·exact wd_let3 hg h1 y hy
  ·rw[List.mem_singleton.1 hy]
   have:=(edge_of_gr hg he).2.1
   have:=(grB_parts hg).1
   omega
 ·have:=wd_let3 hg h2 _ (invN_mem hy)
  omega
theorem conn_walk {es:List EdD} {u:Int}: ∀(w:List Int) (v:Int),(∀x∈w,-3≤x∧x≤3)→Conn es u v→0≤walkF es v w→Conn es u (walkF es v w)
 | [],_,_,h,_=>h
 | x::w,v,hx,h,h0=>by
   rw[walkF_cons] at h0⊢
   split at h0
   ·exact absurd h0 (by decide)
   ·rename_i hn
    rw[if_neg hn]
    exact conn_walk w _ (fun y hy=>hx y (by simp[hy])) (conn_next (hx x (by simp)) h (by omega)) h0
theorem core_conn {g:GrD} (h:coreB g=true) {v:Int} (hv:0≤v∧v<g.2.1):Conn g.2.2 0 v:=by
 have hg:=coreB_grB h
 have hc:=core_all h hv
 have:=conn_walk (es:=g.2.2) (u:=0) (wdO g v) 0 (wd_let3 hg hc) .base (by rw[wd_walk hg hc];omega)
 rwa [wd_walk hg hc] at this
structure GBx (w:World) (p base:Nat) (A:Option Addr) (c:Nat) (g:GrD):Prop where
 c0:w.cell? ⟨p,0,none⟩=some (.int .i64 g.1)
 c1:w.cell? ⟨p,1,none⟩=some (.int .i64 g.2.1)
 c2:w.cell? ⟨p,2,none⟩=some (.slice A g.2.2.length c)
 fz: ∀j,w.frozen? ⟨p,j,none⟩=false
 ow:OwE w base (.slice A g.2.2.length c) g.2.2
 ne: ∀b,(Value.slice A g.2.2.length c).ownBlock=some b→b≠p
 i1:I64 g.1
 i2:I64 g.2.1
 lt:p<w.heap.size
theorem GBx.below {w w':World} {p base:Nat} {A:Option Addr} {c:Nat} {g:GrD} (h:GBx w p base A c g) (hb:Below w.heap.size w w'):GBx w' p base A c g:=
 ⟨(hb.cell (p:=⟨p,0,none⟩) h.lt).trans h.c0,(hb.cell (p:=⟨p,1,none⟩) h.lt).trans h.c1,(hb.cell (p:=⟨p,2,none⟩) h.lt).trans h.c2,fun j=>(hb.frozen (p:=⟨p,j,none⟩) h.lt).trans (h.fz j),h.ow.below hb,h.ne,h.i1,h.i2,Nat.lt_of_lt_of_le h.lt hb.size⟩
theorem GBx.keep {w w':World} {p base:Nat} {A:Option Addr} {c:Nat} {g:GrD} (h:GBx w p base A c g) (hs:w.heap.size≤w'.heap.size) (hk: ∀b,b=p∨(Value.slice A g.2.2.length c).ownBlock=some b→w'.heap[b]? =w.heap[b]?):GBx w' p base A c g:=by
 have hp:=hk p (.inl rfl)
 exact⟨(World.cell?_of_block (w:=w) hp).trans h.c0,(World.cell?_of_block (w:=w) hp).trans h.c1,(World.cell?_of_block (w:=w) hp).trans h.c2,fun j=>(World.frozen?_of_block (w:=w) hp).trans (h.fz j),h.ow.keep fun b hb=>hk b (.inr hb),h.ne,h.i1,h.i2,Nat.lt_of_lt_of_le h.lt hs⟩
theorem GBx.arg {w:World} {p base:Nat} {A:Option Addr} {c:Nat} {g:GrD} (h:GBx w p base A c g):ArgG w (.agg #[.int .i64 g.1, .int .i64 g.2.1, .slice A g.2.2.length c]) g:=⟨_,rfl,h.i1,h.i2,h.ow.arg⟩
theorem OwI.keepB {w w':World} {base:Nat} {s:Value} {xs:List Int} (h:OwI w base s xs) (hb: ∀b,s.ownBlock=some b→w'.heap[b]? =w.heap[b]?):OwI w' base s xs:=by
 refine⟨⟨h.1.1,?_⟩,h.2⟩
 rcases h.1.2 with h0 | ⟨g,cap,cur,hv,hg,hh,r⟩
 ·exact .inl h0
 ·exact .inr ⟨g,cap,cur,hv,hg,by rw[hb g (by rw[hv];rfl)];exact hh,r⟩
theorem GBx.set {w:World} {p base base':Nat} {A A':Option Addr} {c c':Nat} {g m:GrD} (h:GBx w p base A c g) (o:OwE w base' (.slice A' m.2.2.length c') m.2.2) (hn: ∀b,(Value.slice A' m.2.2.length c').ownBlock=some b→b≠p) (h1:I64 m.1) (h2:I64 m.2.1):
  GBx (((w.setCell ⟨p,0,none⟩ (.int .i64 m.1)).setCell ⟨p,1,none⟩ (.int .i64 m.2.1)).setCell ⟨p,2,none⟩ (.slice A' m.2.2.length c')) p base' A' c' m:=by
 obtain⟨e0,e1,e2⟩:=cells3F (.int .i64 m.1) (.int .i64 m.2.1) (.slice A' m.2.2.length c') h.c0 h.c1 h.c2
 refine⟨e0,e1,e2,fun j=>by rw[World.frozen?_setCell,World.frozen?_setCell,World.frozen?_setCell];exact h.fz j,?_,hn,h1,h2,by simpa using h.lt⟩
 refine o.keep fun b hb=> ?_
 have:=hn b hb
 rw[Below.heap_setCell _ _ _ b this,Below.heap_setCell _ _ _ b this,Below.heap_setCell _ _ _ b this]
structure CBx (w:World) (p:Nat) (x y z:Value):Prop where
 c0:w.cell? ⟨p,0,none⟩=some x
 c1:w.cell? ⟨p,1,none⟩=some y
 c2:w.cell? ⟨p,2,none⟩=some z
 fz: ∀j,w.frozen? ⟨p,j,none⟩=false
 lt:p<w.heap.size
theorem CBx.below {w w':World} {p:Nat} {x y z:Value} (h:CBx w p x y z) (hb:Below w.heap.size w w'):CBx w' p x y z:=
 ⟨(hb.cell (p:=⟨p,0,none⟩) h.lt).trans h.c0,(hb.cell (p:=⟨p,1,none⟩) h.lt).trans h.c1,(hb.cell (p:=⟨p,2,none⟩) h.lt).trans h.c2,fun j=>(hb.frozen (p:=⟨p,j,none⟩) h.lt).trans (h.fz j),Nat.lt_of_lt_of_le h.lt hb.size⟩
theorem CBx.belowAt {w w':World} {p n:Nat} {x y z:Value} (h:CBx w p x y z) (hb:Below n w w') (hn:p<n):CBx w' p x y z:=
 ⟨(hb.cell (p:=⟨p,0,none⟩) hn).trans h.c0,(hb.cell (p:=⟨p,1,none⟩) hn).trans h.c1,(hb.cell (p:=⟨p,2,none⟩) hn).trans h.c2,fun j=>(hb.frozen (p:=⟨p,j,none⟩) hn).trans (h.fz j),Nat.lt_of_lt_of_le h.lt hb.size⟩
theorem CBx.other {w:World} {p q:Nat} {x y z a b c:Value} (h:CBx w p x y z) (hne:p≠q):CBx (((w.setCell ⟨q,0,none⟩ a).setCell ⟨q,1,none⟩ b).setCell ⟨q,2,none⟩ c) p x y z:=by
 have hp:(((w.setCell ⟨q,0,none⟩ a).setCell ⟨q,1,none⟩ b).setCell ⟨q,2,none⟩ c).heap[p]? =w.heap[p]? :=by
  rw[Below.heap_setCell _ _ _ p hne,Below.heap_setCell _ _ _ p hne,Below.heap_setCell _ _ _ p hne]
 exact⟨(World.cell?_of_block (w:=w) hp).trans h.c0,(World.cell?_of_block (w:=w) hp).trans h.c1,(World.cell?_of_block (w:=w) hp).trans h.c2,fun j=>(World.frozen?_of_block (w:=w) hp).trans (h.fz j),by simpa using h.lt⟩
theorem CBx.set {w:World} {p base':Nat} {x y z:Value} {A':Option Addr} {c':Nat} {m:GrD} (h:CBx w p x y z) (o:OwE w base' (.slice A' m.2.2.length c') m.2.2) (hn: ∀b,(Value.slice A' m.2.2.length c').ownBlock=some b→b≠p) (h1:I64 m.1) (h2:I64 m.2.1):
  GBx (((w.setCell ⟨p,0,none⟩ (.int .i64 m.1)).setCell ⟨p,1,none⟩ (.int .i64 m.2.1)).setCell ⟨p,2,none⟩ (.slice A' m.2.2.length c')) p base' A' c' m:=by
 obtain⟨e0,e1,e2⟩:=cells3F (.int .i64 m.1) (.int .i64 m.2.1) (.slice A' m.2.2.length c') h.c0 h.c1 h.c2
 refine⟨e0,e1,e2,fun j=>by rw[World.frozen?_setCell,World.frozen?_setCell,World.frozen?_setCell];exact h.fz j,?_,hn,h1,h2,by simpa using h.lt⟩
 refine o.keep fun b hb=> ?_
 have:=hn b hb
 rw[Below.heap_setCell _ _ _ b this,Below.heap_setCell _ _ _ b this,Below.heap_setCell _ _ _ b this]
theorem CBx.new {w W:World} {x y z:Value} {t:TypeId} (hW:W=w.alloc (.cells #[x,y,z] t)):CBx W w.heap.size x y z∧Below w.heap.size w W∧W.heap.size=w.heap.size+1:=by
 refine⟨⟨by rw[hW];simp[go_sem],by rw[hW];simp[go_sem],by rw[hW];simp[go_sem],fun j=>by rw[hW];simp[go_sem],by rw[hW];simp⟩,by rw[hW];exact(Below.refl _ _).alloc (Nat.le_refl _) _,by rw[hW];simp⟩
theorem GBx.cbx {w:World} {p base:Nat} {A:Option Addr} {c:Nat} {g:GrD} (h:GBx w p base A c g):CBx w p (.int .i64 g.1) (.int .i64 g.2.1) (.slice A g.2.2.length c):=⟨h.c0,h.c1,h.c2,h.fz,h.lt⟩
theorem GBx.belowAt {w w':World} {p n base:Nat} {A:Option Addr} {c:Nat} {g:GrD} (h:GBx w p base A c g) (hb:Below n w w') (hn:p<n) (hr: ∀b,(Value.slice A g.2.2.length c).ownBlock=some b→b<n):GBx w' p base A c g:=by
 have h2:=h.cbx.belowAt hb hn
 exact⟨h2.c0,h2.c1,h2.c2,h2.fz,h.ow.keep fun b hb'=>hb.block b (hr b hb'),h.ne,h.i1,h.i2,h2.lt⟩
theorem set3_heap (w:World) (p:Nat) (x y z:Value) {b:Nat} (h:b≠p):(((w.setCell ⟨p,0,none⟩ x).setCell ⟨p,1,none⟩ y).setCell ⟨p,2,none⟩ z).heap[b]? =w.heap[b]? :=by
 rw[Below.heap_setCell _ _ _ b h,Below.heap_setCell _ _ _ b h,Below.heap_setCell _ _ _ b h]
theorem set3_below {w0 w:World} {n p:Nat} (x y z:Value) (h:Below n w0 w) (hp:n≤p):Below n w0 (((w.setCell ⟨p,0,none⟩ x).setCell ⟨p,1,none⟩ y).setCell ⟨p,2,none⟩ z):=((h.setCell hp _).setCell hp _).setCell hp _
theorem set3_size (w:World) (p:Nat) (x y z:Value):(((w.setCell ⟨p,0,none⟩ x).setCell ⟨p,1,none⟩ y).setCell ⟨p,2,none⟩ z).heap.size=w.heap.size:=by simp
theorem GBx.new {w W:World} {base:Nat} {A:Option Addr} {c:Nat} {m:GrD} {t:TypeId} (o:OwE w base (.slice A m.2.2.length c) m.2.2) (h1:I64 m.1) (h2:I64 m.2.1) (hW:W=w.alloc (.cells #[.int .i64 m.1, .int .i64 m.2.1, .slice A m.2.2.length c] t)):
  GBx W w.heap.size base A c m:=by
 have hb:Below w.heap.size w W:=by rw[hW];exact(Below.refl _ _).alloc (Nat.le_refl _) _
 exact⟨by rw[hW];simp[go_sem],by rw[hW];simp[go_sem],by rw[hW];simp[go_sem],fun j=>by rw[hW];simp[go_sem],o.below hb,fun b hb=>by have:=(o.1.lt b hb).2;omega,h1,h2,by rw[hW];simp⟩
theorem GBx.mono {w:World} {p base base':Nat} {A:Option Addr} {c:Nat} {g:GrD} (h:GBx w p base A c g) (hb:base'≤base):GBx w p base' A c g:=
 ⟨h.c0,h.c1,h.c2,h.fz,h.ow.mono hb,h.ne,h.i1,h.i2,h.lt⟩
theorem stp_in {x y:GrD} (h:inclS x y=true) {u l:Int} (hu:u∈canO x) (hl: -3≤l∧l≤3) (h0:0≤nextV x.2.2 u l):0≤nextV y.2.2 (imgW x y u) l∧imgW x y (nextV x.2.2 u l)=nextV y.2.2 (imgW x y u) l:=by
 have hga:=coreB_grB (incl_parts h).1
 unfold inclS at h
 simp only[Bool.and_eq_true] at h
 have hs:=List.all_eq_true.1 (List.all_eq_true.1 h.2 u hu) l (next_letter hga hl h0)
 unfold stB at hs
 rw[decide_eq_false (by omega: ¬nextV x.2.2 u l<0),Bool.false_or,Bool.and_eq_true,decide_eq_true_eq,decide_eq_true_eq] at hs
 exact hs
theorem imgW_range {x y:GrD} (h:inclS x y=true) {u:Int} (hu:u∈canO x):0≤imgW x y u∧imgW x y u<y.2.1:=by
 have hgx:=coreB_grB (incl_parts h).1
 have hgy:=coreB_grB (incl_parts h).2.1
 have hsy:=(grB_parts hgy).2.1
 have hr:=walkF_range hgy (wdO x u) 0 (by omega)
 have h0:0≤imgW x y u:=by
  have:=incl_hom h (wdO x u) 0 (wd_let3 hgx hu) (List.mem_of_getElem? (canO_ok hgx).2.2) (by rw[wd_walk hgx hu];exact((canO_ok hgx).2.1 u hu).1)
  rw[wd_walk hgx hu,incl_zero hgx] at this
  have hI:=h
  rw[incl_eq] at hI
  unfold inclI at hI
  simp only[Bool.and_eq_true,decide_eq_true_eq] at hI
  exact img_read (incl_parts h).1 (incl_parts h).2.1 (fun e he=>by
   have:=List.all_eq_true.1 hI.2 (basW x e) (by unfold basF;rw[if_pos (incl_parts h).1];exact List.mem_map.2 ⟨e,he,rfl⟩)
   simpa using this) 40 hu (by omega)
 unfold imgW at*
 omega
end Go.Proofs.YtnjpoljbagfdnaaGreat
namespace Go.Proofs.YtnjpoljbagfdnaaGreat
set_option maxRecDepth 20000
set_option linter.unusedVariables false
set_option linter.unusedSimpArgs false
open Go.RowKit
structure Two (a b:GrD) (A B:Nat):Prop where
 ga:grB a=true
 gb:grB b=true
 fa:Fol a.2.2
 fb:Fol b.2.2
 sa:a.2.1=(A:Int)
 sb:b.2.1=(B:Int)
section
variable {a b:GrD} {A B:Nat} {p q:Nat} {x:Int} {o:List Nat} {ls:List Int}
end
section
variable {a b:GrD} {u v:Nat}
end
theorem GBx.put {w:World} {p base base':Nat} {A A':Option Addr} {c c':Nat} {g:GrD} {ms:List EdD} (h:GBx w p base A c g) (o:OwE w base' (.slice A' ms.length c') ms) (hn: ∀b,(Value.slice A' ms.length c').ownBlock=some b→b≠p):
  GBx (w.setCell ⟨p,2,none⟩ (.slice A' ms.length c')) p base' A' c' (g.1,g.2.1,ms):=by
 refine⟨(World.cell?_setCell_other _ _ _ _ (by simp)).trans h.c0,(World.cell?_setCell_other _ _ _ _ (by simp)).trans h.c1,World.cell?_setCell_same _ _ _ h.c2,fun j=>by rw[World.frozen?_setCell];exact h.fz j,?_,hn,h.i1,h.i2,by simpa using h.lt⟩
 exact o.keep fun b hb=>Below.heap_setCell _ _ _ b (hn b hb)
structure MatI (X bb P A B:Nat) (w:World) (Q:Nat→Nat) (f:Nat→Nat→Int):Prop where
 outer:w.ownsRow bb 37 1 (.slice (some ⟨P,0,none⟩) A A) A ((List.range A).map fun i=> .slice (some ⟨Q i,0,none⟩) B B)
 rows: ∀i,i<A→OwI w bb (.slice (some ⟨Q i,0,none⟩) B B) ((List.range B).map (f i))
 inj: ∀i j,i<A→j<A→Q i=Q j→i=j
 neP: ∀i,i<A→Q i≠P
 ltP:P<X
 ltQ: ∀i,i<A→Q i<X
section
variable {X bb P A B:Nat} {w w':World} {Q:Nat→Nat} {f:Nat→Nat→Int}
end
def kp (s t:Int):Lit:= .string (keyBytes [.int .i64 s, .int .i64 t])
structure MapI (B:Nat) (D:DataW Unit) (o:List Nat):Prop where
 im:Go.Maps.IsMap D
 has: ∀s t:Nat,s≤40→t<B→Go.Maps.has D (kp (s:Int) (t:Int))=decide (s*B+t∈o)
 at_: ∀s t:Nat,s≤40→t<B→s*B+t∈o→D.atKey (kp (s:Int) (t:Int)) (.lit (.int .i64 0))= .lit (.int .i64 ((o.idxOf (s*B+t):Nat):Int))
end Go.Proofs.YtnjpoljbagfdnaaGreat
namespace Go.Proofs.YtnjpoljbagfdnaaGreat
set_option maxRecDepth 20000
set_option linter.unusedVariables false
set_option linter.unusedSimpArgs false
open Go.RowKit
theorem GBx.sz {w:World} {p base:Nat} {A:Option Addr} {c:Nat} {g:GrD} (h:GBx w p base A c g) {z:Int} (hz:I64 z):GBx (w.setCell ⟨p,1,none⟩ (.int .i64 z)) p base A c (g.1,z,g.2.2):=
 ⟨(World.cell?_setCell_other _ _ _ _ (by simp)).trans h.c0,World.cell?_setCell_same _ _ _ h.c1,(World.cell?_setCell_other _ _ _ _ (by simp)).trans h.c2,fun j=>by rw[World.frozen?_setCell];exact h.fz j,h.ow.keep fun b hb=>Below.heap_setCell _ _ _ b (h.ne b hb),h.ne,h.i1,hz,by simpa using h.lt⟩
theorem put_e {v:Value} {es:List EdD} {w:World} (e:EdD) (x y z:Int) (h:ArgE w v es) (he:E64 e) (hl:es.length≤268435456) (hq:e=(x,y,z)):
  Calls Tryz.prog 166 #[v, .agg #[.int .i64 x, .int .i64 y, .int .i64 z]] w fun e' w'=> ∃r,e'= .returned r∧OwE w' w.heap.size r (insF cmpE es e)∧Below w.heap.size w w':=by
 subst hq
 exact l4Put_any v es (x,y,z) w h he hl
set_option maxHeartbeats 4000000 in
theorem specAddPath_any (v y:Value) (g:GrD) (a b:Int) (t:List Int) (w:World) (h:ArgG w v g) (ht:RdI w y t) (hg:grB g=true) (ha:0≤a∧a<g.2.1) (hb:0≤b∧b<g.2.1) (hw:wordB g.1 t=true) (h0:t.length≠0) (hl:t.length≤1073741824):
  Calls Tryz.prog 182 #[v, .int .i64 a,y, .int .i64 b] w fun x w'=> ∃r,x= .returned (.tuple #[r, .bool (addOk g t)])∧OwG w' w.heap.size r (if addOk g t=true then addG g a b t else g)∧Below w.heap.size w w':=by
 have HG:=hDD h
 have HY:=hDD ht
 have HGR:=hDD hg
 have HW:=hDD hw
 have HA:=hDD ha
 have HBV:=hDD hb
 obtain⟨h13,h40,h120,_⟩:=grB_parts hg
 obtain⟨s,rfl,hi1,hi2,hga⟩:=h
 obtain⟨A,cap,rfl⟩:=hga.form
 obtain⟨T,tc,rfl,_⟩:=ht.arg
 obtain⟨g1,N,es⟩:=g
 simp only at*
 clear hga hg hw ha hb
 obtain⟨OK,hOK⟩: ∃o,o=addOk (g1,N,es) t:=⟨_,rfl⟩
 rw[←hOK]
 obtain⟨RES,hRES⟩: ∃R,R=(if OK=true then addG (g1,N,es) a b t else(g1,N,es)):=⟨_,rfl⟩
 rw[←hRES]
 have HOK:=hDD hOK
 have HRES:=hDD hRES
 clear hRES hOK
 go_enter Tryz.func182,Tryz.ntmps182
 go_wp2_with fail
 obtain⟨W1,hW1⟩: ∃W,W=w.alloc (Obj.cells #[Value.int IntKind.i64 g1,Value.int IntKind.i64 N, .slice A es.length cap] 26):=⟨_,rfl⟩
 rw[←hW1]
 obtain⟨hs1,b1,hc1,_⟩:=gbox hW1
 obtain⟨W,hW⟩: ∃W,W=W1.alloc (Obj.cells #[Value.int IntKind.i64 0,Value.int IntKind.i64 0, .slice none 0 0] 26):=⟨_,rfl⟩
 rw[←hW]
 obtain⟨hs2,b2,hc2,hf2⟩:=gbox hW
 have hsW:W.heap.size=w.heap.size+2:=by omega
 have HC1:=hDD hc1
 have HC2:=hDD hc2
 have HF2:=hDD hf2
 have BX1:=hDD b1
 have BX2:=hDD b2
 have BX:Hid (Below w.heap.size w W):=hDD (b1.trans (b2.mono (by omega)))
 have HCL:Hid (∀w',Below (w.heap.size+2) W w'→w'.cell? ⟨w.heap.size,0,none⟩=some (.int .i64 g1)∧w'.cell? ⟨w.heap.size,1,none⟩=some (.int .i64 N)∧w'.cell? ⟨w.heap.size,2,none⟩=some (.slice A es.length cap)):=hDD fun w' hb=>HC1.out w' ((BX2.out.mono (by omega)).trans (hb.mono (by omega)))
 have HRC:Hid (∀w',Below (w.heap.size+2) W w'→(w'.cell? ⟨w.heap.size+1,0,none⟩=some (.int .i64 0)∧w'.cell? ⟨w.heap.size+1,1,none⟩=some (.int .i64 0)∧w'.cell? ⟨w.heap.size+1,2,none⟩=some (.slice none 0 0))∧ ∀j,w'.frozen? ⟨w.heap.size+1,j,none⟩=false):=hDD fun w' hb=>by
  have e:Below (W1.heap.size+1) W w':=hb.mono (by omega)
  have h1:=HC2.out w' e
  have h2:=fun j=>HF2.out j w' e
  rw[hs1] at h1 h2
  exact⟨h1,h2⟩
 have HAG:Hid (∀w',Below (w.heap.size+2) W w'→ArgG w' (.agg #[.int .i64 g1, .int .i64 N, .slice A es.length cap]) (g1,N,es)):=hDD fun w' hb=>HG.out.below (BX.out.trans (hb.mono (by omega)))
 have HAT:Hid (∀w',Below (w.heap.size+2) W w'→RdI w' (.slice T t.length tc) t):=hDD fun w' hb=>HY.out.below (BX.out.trans (hb.mono (by omega)))
 clear hW1 hW hc1 hc2 hf2 b1 b2 HC1 HC2 HF2 BX1 BX2 hs1 hs2
 obtain⟨q0,q1,q2⟩:=HCL.out W ((Below.refl W.heap.size W).mono (by omega))
 refine(l4Copy_any _ (g1,N,es) W (HAG.out W ((Below.refl W.heap.size W).mono (by omega))) (by simp only;omega)).mono ?_
 clear q0 q1 q2
 rintro e w5 ⟨r,rfl,o5,b5⟩
 have hs5:=b5.size
 have B5:Hid (Below (w.heap.size+2) W w5):=hDD (b5.mono (by omega))
 obtain⟨s1,rfl,_,_,oe5⟩:=o5
 obtain⟨A1,c1,rfl,_⟩:=oe5.form
 simp only at*
 clear b5
 have b6':Below w5.heap.size w5 (w5.alloc (Obj.cells #[Value.int IntKind.i64 g1,Value.int IntKind.i64 N, .slice A1 es.length c1] 26)):=(Below.refl _ _).alloc (Nat.le_refl _) _
 obtain⟨q0,q1,q2⟩:=HCL.out _ (B5.out.trans (b6'.mono (by omega)))
 clear b6'
 go_wp2_with fail
 clear q0 q1 q2
 obtain⟨W6,hW6⟩: ∃W,W=w5.alloc (Obj.cells #[Value.int IntKind.i64 g1,Value.int IntKind.i64 N, .slice A1 es.length c1] 26):=⟨_,rfl⟩
 have GB6:=hDD (GBx.new (m:=(g1,N,es)) oe5 hi1 hi2 hW6)
 obtain⟨hs6,b6,_,_⟩:=gbox hW6
 rw[←hW6]
 have B6:Hid (Below (w.heap.size+2) W W6):=hDD (B5.out.trans (b6.mono (by omega)))
 clear hW6 b6 oe5
 obtain⟨p,hp⟩: ∃p,p=w5.heap.size:=⟨_,rfl⟩
 rw[←hp] at GB6⊢
 have hpw:w.heap.size+2≤p:=by omega
 have hp6:p<W6.heap.size:=by omega
 clear hp hs6 hs5
 have HIG:=hDD (specIsGraph_any _ (g1,N,es) W6 (HAG.out W6 B6.out))
 rw[HGR.out] at HIG
 refine HIG.out.mono ?_
 clear HIG
 rintro e w7 ⟨rfl,b7⟩
 have B7:=hDD (B6.out.trans (b7.mono (by have:=B6.out.size;omega)))
 have GB7:=hDD (GB6.out.below b7)
 clear b7
 obtain⟨q0,q1,q2⟩:=HCL.out w7 B7.out
 have E1:inB a 0 (N-1)=true:=by unfold inB;simp;have:=HA.out;omega
 have E2:inB b 0 (N-1)=true:=by unfold inB;simp;have:=HBV.out;omega
 have EW:=hDD (specIsWord_any g1 _ t w7 (HAT.out w7 B7.out).arg (by omega))
 rw[HW.out] at EW
 go_wp2_with (go_at_call 138;refine(l1In_any _ _ _ _).mono ?_;rintro e w' ⟨rfl,rfl⟩)
 refine EW.out.mono ?_
 clear EW E1 E2 q0 q1 q2
 rintro e w8 ⟨rfl,nd,rfl⟩
 obtain⟨w8,hw8⟩: ∃W,W=w7.drewN nd:=⟨_,rfl⟩
 rw[←hw8]
 have B8:Hid (Below (w.heap.size+2) W w8):=hDD (by rw[hw8];exact bel_drewN B7.out _)
 have GB8:Hid (GBx w8 p W.heap.size A1 c1 (g1,N,es)):=hDD (by rw[hw8];exact GB7.out.below (bel_drewN (Below.refl _ _) _))
 clear hw8
 obtain⟨q0,q1,q2⟩:=HCL.out w8 B8.out
 have z0:=GB8.out.c0
 have z1:=GB8.out.c1
 have z2:=GB8.out.c2
 simp only at z0 z1 z2
 obtain⟨⟨r0,r1,r2⟩,hrf⟩:=HRC.out w8 B8.out
 have rf0:=hrf 0
 have rf1:=hrf 1
 have rf2:=hrf 2
 have h0I: ¬(t.length:Int)=0:=by omega
 have h0N: ¬t= []:=fun q=>h0 (by rw[q];rfl)
 clear hrf
 by_cases hA:N+t.length-1≤40
 ·by_cases hE:(es.length:Int)+t.length≤120
  ·have hok:addOk (g1,N,es) t=true:=decide_eq_true ⟨hA,hE⟩
   have HK:Hid (OK=true∧RES=addG (g1,N,es) a b t):=hDD (by have:=HOK.out.trans hok;exact⟨this,by rw[HRES.out,this];rfl⟩)
   clear hok
   obtain⟨n,rfl⟩: ∃n:Nat,N=(n:Int):=⟨N.toNat,by omega⟩
   have hes0:srt cmpE es=es:=srt_self (gr_srt HGR.out)
   have HS0:=hDD hes0
   clear hes0
   have h0B:((t.length:Int)==0)=false:=beq_eq_false_iff_ne.2 h0I
   have hA': ¬40<(n:Int)+t.length-1:=by omega
   have hE': ¬120<(es.length:Int)+t.length:=by omega
   go_wp2_with fail
   clear q0 q1 q2 r0 r1 r2 rf0 rf1 rf2 z0 z1 z2 h0I h0N h0B hA' hE'
   go_loopw [11,12] (fun q i wr=> ∃(k:Nat) (L:List EdD) (A2:Option Addr) (c2:Nat),k≤t.length∧i= .int .i64 k∧q= .int .i64 (atP n t.length a b k)∧Hid (L=srt cmpE (es++pthL n a b t k))∧L.length≤es.length+k∧GBx wr p (w.heap.size+2) A2 c2 (g1,((szP n t.length k:Nat):Int),L)∧Below (w.heap.size+2) W wr) (fun _ i _=>t.length-(intOf i).toNat)
   case atStart=>
    refine⟨0,es,A1,c1,Nat.zero_le _,rfl,rfl,hDD ?_,Nat.le_refl _,?_,B8.out⟩
    ·show es=srt cmpE (es++ [])
     rw[List.append_nil,HS0.out]
    ·exact GB8.out.mono (by omega)
   case round=>
    obtain⟨k,L,A2,c2,hk,rfl,rfl,hL,hLl,hgb,hbr⟩:=hrel
    obtain⟨wk,rfl⟩: ∃wk:World,wk=wr:=⟨_,rfl⟩
    have HT:=hDD (HAT.out wk hbr)
    have HGB:=hDD hgb
    have HBR:=hDD hbr
    have hwk:=hgb.lt
    have z0:=hgb.c0
    have z1:=hgb.c1
    have z2:=hgb.c2
    have zf1:=hgb.fz 1
    have zf2:=hgb.fz 2
    simp only at z0 z1 z2
    clear hgb hbr
    rcases Nat.lt_or_ge k t.length with hlt | hge
    ·have hzz:=wordB_get HW.out k hlt
     obtain⟨bt,off,rfl,hbt,hct⟩:=HY.out.at (by omega)
     have HTC:Hid (∀W',Below (w.heap.size+2) W W'→W'.cell? ⟨bt,off+k,none⟩=some (.int .i64 t[k])):=hDD fun W' hb=>((BX.out.trans (hb.mono (by omega))).cell (p:=⟨bt,off+k,none⟩) hbt).trans (hct k hlt)
     have cz:=HTC.out wk HBR.out
     have HPS:Hid (pthL n a b t (k+1)=pthL n a b t k++ [stpE (atP n t.length a b k) t[k] (nxP n t.length b k)]):=hDD (by rw[pthL_succ];unfold pthE;rw[getD_at hlt])
     have har:=atP_range (N:=n) (len:=t.length) (j:=k) HA.out HBV.out
     have hnr:=nxP_range (N:=n) (len:=t.length) (j:=k) HBV.out
     have HSZ:=hDD (szP_succ (N:=n) hlt)
     have HSK:=hDD (fun q=>szP_at (N:=n) (len:=t.length) (j:=k) q)
     have HNX:Hid (nxP n t.length b k=if k+1<t.length then((n+k:Nat):Int) else b):=hDD rfl
     have hso:(srt cmpE (es++pthL n a b t k)).length≤es.length+k:=by rw[←hL];exact hLl
     have HAT1:Hid (atP n t.length a b (k+1)=nxP n t.length b k):=hDD rfl
     generalize t[k]=z at*
     generalize atP n t.length a b k=q at*
     generalize nxP n t.length b k=m at*
     have HL:Hid (srt cmpE (es++pthL n a b t (k+1))=insF cmpE L (stpE q z m)):=hDD (by rw[HPS.out,←List.append_assoc,srt_snocP,hL.out])
     have HLL:Hid ((insF cmpE L (stpE q z m)).length≤es.length+(k+1)):=hDD (by have:=insF_len (c:=cmpE) L (stpE q z m);omega)
     clear hct HT HPS hso
     generalize hs1:szP n t.length k=S1 at*
     have hSb:S1≤n+24:=by rw[←hs1];unfold szP;have:=wordB_len HW.out;omega
     clear hs1
     have hk24:=wordB_len HW.out
     have hpw':p<wk.heap.size:=hwk
     obtain⟨S2,hS2⟩: ∃S,S=szP n t.length (k+1):=⟨_,rfl⟩
     rw[←hS2] at HSZ
     have HS2:=hDD hS2
     clear hS2
     have hneg:IntKind.i64.wrap (-z)= -z:=by rw[IntKind.wrap_i64];omega
     have hinc:IntKind.i64.wrap ((S1:Int)+1)=(S1:Int)+1:=by rw[IntKind.wrap_i64];omega
     have HE64:Hid (E64 (stpE q z m)):=hDD (by unfold stpE;split<;>exact⟨⟨by simp only;omega,by simp only;omega⟩,⟨by simp only;omega,by simp only;omega⟩,⟨by simp only;omega,by simp only;omega⟩⟩)
     have hLb:L.length≤268435456:=by omega
     have HLN:Hid (L.length≤es.length+k):=hDD hLl
     have HLE:=hDD hL.out
     have HKL:=hDD hk
     have HZZ:=hDD (And.intro hzz (And.intro har hnr))
     have hI2:I64 ((S2:Nat):Int):=by
      have:S2≤S1+1:=by rw[HSZ.out];split<;>omega
      exact⟨by omega,by omega⟩
     have HI2:=hDD hI2
     clear hL hLl hzz har hnr hI2
     by_cases h1:k+1<t.length<;>by_cases h2:0<z
     all_goals
      have HHH:=hDD (And.intro h1 h2)
      go_wp2_with fail
      have hk0:=HKL.out
      first
       | (have h1':k+1<t.length:=HHH.out.1
          obtain⟨wn,hwn⟩: ∃W,W=wk.setCell ⟨p,1,none⟩ (.int .i64 ((S1:Int)+1)):=⟨_,rfl⟩
          rw[←hwn]
          have HM:Hid (m=(S1:Int)):=hDD (by rw[HNX.out,if_pos h1'];have:=HSK.out h1';omega)
          have GBN:Hid (GBx wn p (w.heap.size+2) A2 c2 (g1,((S2:Nat):Int),L)):=hDD (by
           have e:(S2:Int)=(S1:Int)+1:=by rw[HSZ.out,if_pos h1'];rfl
           have hi:=HI2.out
           rw[e] at hi
           rw[hwn,e]
           exact HGB.out.sz hi)
          have BN:Hid (Below (w.heap.size+2) W wn):=hDD (by rw[hwn];exact HBR.out.setCell hpw _)
          clear hwn)
       | (have h1': ¬k+1<t.length:=HHH.out.1
          obtain⟨wn,rfl⟩: ∃W,W=wk:=⟨_,rfl⟩
          have HM:Hid (m=b):=hDD (by rw[HNX.out,if_neg h1'])
          have GBN:Hid (GBx wn p (w.heap.size+2) A2 c2 (g1,((S2:Nat):Int),L)):=hDD (by rw[show S2=S1 by rw[HSZ.out,if_neg h1']];exact HGB.out)
          have BN:Hid (Below (w.heap.size+2) W wn):=hDD HBR.out)
      clear h1 hk0 z0 z1 z2 cz zf1 zf2 hwk
      have z2:=GBN.out.c2
      simp only at z2
      have cz:=HTC.out wn BN.out
      have hpn:=GBN.out.lt
      have hbn:bt<wn.heap.size:=by omega
      have f0:=BelW.cell z2 hpn
      have f1:=BelW.cell cz hbn
      have hnn: ¬((k:Int)<0):=by omega
      have hkl:(k:Int)<(t.length:Int):=by omega
      first | (have h2':0<z:=HHH.out.2;clear h2';(refine wp_region_call3 9 (by kernel_rfl) (by kernel_rfl) (by kernel_rfl) (by kernel_rfl) (by rfl) (by rfl) ?_;dsimp only[dum3,dumO];(repeat(go_big_quiet_step (fail)));refine wpQuiet_nil ?_;refine⟨⟨_,fun _=>by rfl⟩,?_⟩;intro wq hw';obtain⟨pq,hw''⟩:=hw';have bq:=pq.h;rw[←hw''] at bq;clear hw'' pq;refine⟨_,_,by rfl,?_⟩)) | (refine wp_region_call3 10 (by kernel_rfl) (by kernel_rfl) (by kernel_rfl) (by kernel_rfl) (by rfl) (by rfl) ?_;dsimp only[dum3,dumO];(repeat(go_big_quiet_step (fail)));refine wpQuiet_nil ?_;refine⟨⟨_,fun _=>by rfl⟩,?_⟩;intro wq hw';obtain⟨pq,hw''⟩:=hw';have bq:=pq.h;rw[←hw''] at bq;clear hw'' pq;refine⟨_,_,by rfl,?_⟩)
      clear f0 f1
      try simp only[hneg]
      simp only[List.map_toArray,List.map_cons,List.map_nil,Array.empty_append,Array.append_empty]
      refine(show Calls Tryz.prog 166 #[.slice A2 L.length c2, .agg #[.int .i64 _, .int .i64 _, .int .i64 _]] wq _ from ?_)
      refine(put_e (stpE q z m) _ _ _ (GBN.out.ow.below bq).arg HE64.out hLb (by unfold stpE;rw[HM.out];have hh:=HHH.out.2;first | rw[if_pos (by omega)] | rw[if_neg (by omega)])).mono ?_
      rintro e' w9 ⟨r9,rfl,o9,b9⟩
      have B9:=hDD (bq.trans (b9.mono bq.size))
      have qx:=(B9.out.cell (p:=⟨p,2,none⟩) hpn).trans z2
      have qf:=(B9.out.frozen (p:=⟨p,2,none⟩) hpn).trans (GBN.out.fz 2)
      have s9:wn.heap.size≤w9.heap.size:=B9.out.size
      have hq9:=bq.size
      have O9:=hDD o9
      obtain⟨A9,c9,rfl,_⟩:=o9.form
      clear o9 b9 z2 cz
      refine⟨_,rfl,?_⟩
      simp only[Act.put,List.setIfInBounds_toArray,List.set_cons_zero,List.set_cons_succ]
      go_wp2
      go_roundw
      case rel=>
       exact⟨k+1,insF cmpE L (stpE q z m),A9,c9,by have:=HKL.out;omega,by go_num,by rw[HAT1.out,HM.out],hDD HL.out.symm,HLL.out,by rw[←HS2.out];exact(GBN.out.below B9.out).put (O9.out.mono (by omega)) (fun y hy=>by have:=(O9.out.1.lt y hy).1;omega),(BN.out.trans (B9.out.mono (by omega))).setCell hpw _⟩
      case measure=>simp[intOf];omega
    ·have hkt:k=t.length:=by omega
     subst hkt
     obtain⟨⟨r0,r1,r2⟩,hrf⟩:=HRC.out wk HBR.out
     have rf0:=hrf 0
     have rf1:=hrf 1
     have rf2:=hrf 2
     have hpne:w.heap.size+1≠p:=by omega
     clear hrf
     have hR:RES=(g1,((szP n t.length t.length:Nat):Int),L):=by
      rw[HK.out.2,hL.out]
      show(g1,(((n:Int).toNat+(t.length-1):Nat):Int),srt cmpE (es++pthL (n:Int).toNat a b t t.length))=_
      rw[Int.toNat_natCast,show szP n t.length t.length=n+(t.length-1) by unfold szP;omega]
     have HR:=hDD hR
     clear hR
     go_wp2
     obtain⟨e0,e1,e2⟩:=cells3F (.int .i64 g1) (.int .i64 ((szP n t.length t.length:Nat):Int)) (.slice A2 L.length c2) r0 r1 r2
     have bw:Below w.heap.size w (((wk.setCell ⟨w.heap.size+1,0,none⟩ (.int .i64 g1)).setCell ⟨w.heap.size+1,1,none⟩ (.int .i64 ((szP n t.length t.length:Nat):Int))).setCell ⟨w.heap.size+1,2,none⟩ (.slice A2 L.length c2)):=set3_below _ _ _ (BX.out.trans (HBR.out.mono (by omega))) (by omega)
     have ow:OwE (((wk.setCell ⟨w.heap.size+1,0,none⟩ (.int .i64 g1)).setCell ⟨w.heap.size+1,1,none⟩ (.int .i64 ((szP n t.length t.length:Nat):Int))).setCell ⟨w.heap.size+1,2,none⟩ (.slice A2 L.length c2)) (w.heap.size+2) (.slice A2 L.length c2) L:=HGB.out.ow.keep fun b hb=>set3_heap _ _ _ _ _ (by have:=(HGB.out.ow.1.lt b hb).1;omega)
     exact bodyPost_ret (v:= .tuple #[.agg #[.int .i64 g1, .int .i64 ((szP n t.length t.length:Nat):Int), .slice A2 L.length c2], .bool true]) (by simp[results,Tryz.results182,go_sem,e0,e1,e2]) rfl ⟨_,by rw[HK.out.1],by rw[HR.out];exact⟨.slice A2 L.length c2,rfl,hi1,HGB.out.i2,ow.mono (by omega)⟩,bw⟩
  ·have hok:addOk (g1,N,es) t=false:=decide_eq_false fun q=>hE q.2
   have HK:Hid (OK=false∧RES=(g1,N,es)):=hDD (by have:=HOK.out.trans hok;exact⟨this,by rw[HRES.out,this];rfl⟩)
   clear hok
   go_wp2
   obtain⟨e0,e1,e2⟩:=cells3F (.int .i64 g1) (.int .i64 N) (.slice A1 es.length c1) r0 r1 r2
   have bw:Below w.heap.size w (((w8.setCell ⟨w.heap.size+1,0,none⟩ (.int .i64 g1)).setCell ⟨w.heap.size+1,1,none⟩ (.int .i64 N)).setCell ⟨w.heap.size+1,2,none⟩ (.slice A1 es.length c1)):=set3_below _ _ _ (BX.out.trans (B8.out.mono (by omega))) (by omega)
   have ow:OwE (((w8.setCell ⟨w.heap.size+1,0,none⟩ (.int .i64 g1)).setCell ⟨w.heap.size+1,1,none⟩ (.int .i64 N)).setCell ⟨w.heap.size+1,2,none⟩ (.slice A1 es.length c1)) W.heap.size (.slice A1 es.length c1) es:=GB8.out.ow.keep fun b hb=>set3_heap _ _ _ _ _ (by have:=(GB8.out.ow.1.lt b hb).1;omega)
   exact bodyPost_ret (v:= .tuple #[.agg #[.int .i64 g1, .int .i64 N, .slice A1 es.length c1], .bool false]) (by simp[results,Tryz.results182,go_sem,e0,e1,e2]) rfl ⟨_,by rw[HK.out.1],by rw[HK.out.2];exact⟨.slice A1 es.length c1,rfl,hi1,hi2,ow.mono (by omega)⟩,bw⟩
 ·have hok:addOk (g1,N,es) t=false:=decide_eq_false fun q=>hA q.1
  have HK:Hid (OK=false∧RES=(g1,N,es)):=hDD (by have:=HOK.out.trans hok;exact⟨this,by rw[HRES.out,this];rfl⟩)
  clear hok
  go_wp2
  obtain⟨e0,e1,e2⟩:=cells3F (.int .i64 g1) (.int .i64 N) (.slice A1 es.length c1) r0 r1 r2
  have bw:Below w.heap.size w (((w8.setCell ⟨w.heap.size+1,0,none⟩ (.int .i64 g1)).setCell ⟨w.heap.size+1,1,none⟩ (.int .i64 N)).setCell ⟨w.heap.size+1,2,none⟩ (.slice A1 es.length c1)):=set3_below _ _ _ (BX.out.trans (B8.out.mono (by omega))) (by omega)
  have ow:OwE (((w8.setCell ⟨w.heap.size+1,0,none⟩ (.int .i64 g1)).setCell ⟨w.heap.size+1,1,none⟩ (.int .i64 N)).setCell ⟨w.heap.size+1,2,none⟩ (.slice A1 es.length c1)) W.heap.size (.slice A1 es.length c1) es:=GB8.out.ow.keep fun b hb=>set3_heap _ _ _ _ _ (by have:=(GB8.out.ow.1.lt b hb).1;omega)
  exact bodyPost_ret (v:= .tuple #[.agg #[.int .i64 g1, .int .i64 N, .slice A1 es.length c1], .bool false]) (by simp[results,Tryz.results182,go_sem,e0,e1,e2]) rfl ⟨_,by rw[HK.out.1],by rw[HK.out.2];exact⟨.slice A1 es.length c1,rfl,hi1,hi2,ow.mono (by omega)⟩,bw⟩
end Go.Proofs.YtnjpoljbagfdnaaGreat
namespace Go.Proofs.YtnjpoljbagfdnaaGreat
set_option maxRecDepth 20000
set_option linter.unusedVariables false
set_option linter.unusedSimpArgs false
open Go.RowKit
def Lt3 (x:Int):Prop:= -3≤x∧x≤3∧x≠0
theorem Lt3.b3 {x:Int} (h:Lt3 x): -3≤x∧x≤3:=⟨h.1,h.2.1⟩
theorem Lt3.inv {l x:Int} (h:Lt3 l):invB l x=true↔x= -l:=by
 unfold invB
 have:=h.1;have:=h.2.2
 simp
 omega
def actS (es:List EdD) (s:Int×List Int) (x:Int):Int×List Int:=
 match s.2 with
 | []=>if nextV es s.1 x<0 then(s.1,[x]) else(nextV es s.1 x,[])
 | y::r=>if y= -x then(s.1,r) else(s.1,x::y::r)
def runS (es:List EdD) (s:Int×List Int) (w:List Int):Int×List Int:=w.foldl (actS es) s
def okR (es:List EdD) (v:Int):List Int→Prop
 | []=>True
 | [y]=>nextV es v y<0∧Lt3 y
 | y::z::r=>y≠ -z∧Lt3 y∧okR es v (z::r)
def okS (g:GrD) (s:Int×List Int):Prop:=(0≤s.1∧s.1<g.2.1)∧okR g.2.2 s.1 s.2
theorem okR_tail {es:List EdD} {v y:Int}: ∀ {r:List Int},okR es v (y::r)→okR es v r
 | [],_=>trivial
 | _::_,h=>h.2.2
theorem runS_app (es:List EdD) (s:Int×List Int) (a b:List Int):runS es s (a++b)=runS es (runS es s a) b:=List.foldl_append
theorem runS_cons (es:List EdD) (s:Int×List Int) (x:Int) (b:List Int):runS es s (x::b)=runS es (actS es s x) b:=rfl
section
variable {g:GrD} (hg:grB g=true) (hf:Fol g.2.2)
include hg
theorem act_ok {s:Int×List Int} {x:Int} (h:okS g s) (hx:Lt3 x):okS g (actS g.2.2 s x):=by
 obtain⟨v,r⟩:=s
 obtain⟨hv,hr⟩:=h
 simp only at hv hr
 unfold actS
 match r with
 | []=>
   simp only
   rcases nextV_range hg v x with q | q
   ·rw[if_pos (by omega)];exact⟨hv,(show nextV g.2.2 v x<0 by omega),hx⟩
   ·rw[if_neg (by omega)];exact⟨q,trivial⟩
 | y::r=>
   simp only
   by_cases e:y= -x
   ·rw[if_pos e];exact⟨hv,okR_tail hr⟩
   ·rw[if_neg e];exact⟨hv,fun q=>e (by have q':x= -y:=q;omega),hx,hr⟩
include hf
theorem act_back {s:Int×List Int} {x:Int} (h:okS g s) (hx:Lt3 x):actS g.2.2 (actS g.2.2 s x) (-x)=s:=by
 obtain⟨v,r⟩:=s
 obtain⟨hv,hr⟩:=h
 simp only at hv hr
 match r with
 | []=>
   by_cases q:nextV g.2.2 v x<0
   ·have e:actS g.2.2 (v,[]) x=(v,[x]):=by unfold actS;simp only;rw[if_pos q]
    rw[e]
    show(if x= - -x then(v,[]) else _)=_
    rw[if_pos (by omega)]
   ·have e:actS g.2.2 (v,[]) x=(nextV g.2.2 v x,[]):=by unfold actS;simp only;rw[if_neg q]
    rw[e]
    have hb:=nextV_back hg hf hx.b3 (by omega:0≤nextV g.2.2 v x)
    show(if nextV g.2.2 (nextV g.2.2 v x) (-x)<0 then _ else(nextV g.2.2 (nextV g.2.2 v x) (-x),[]))=_
    rw[hb,if_neg (by omega)]
 | [y]=>
   by_cases q:y= -x
   ·have e:actS g.2.2 (v,[y]) x=(v,[]):=by unfold actS;simp only;rw[if_pos q]
    rw[e]
    show(if nextV g.2.2 v (-x)<0 then(v,[-x]) else _)=_
    rw[←q,if_pos hr.1]
   ·have e:actS g.2.2 (v,[y]) x=(v,[x,y]):=by unfold actS;simp only;rw[if_neg q]
    rw[e]
    show(if x= - -x then(v,[y]) else _)=_
    rw[if_pos (by omega)]
 | y::z::r=>
   by_cases q:y= -x
   ·have e:actS g.2.2 (v,y::z::r) x=(v,z::r):=by unfold actS;simp only;rw[if_pos q]
    rw[e]
    show(if z= - -x then(v,r) else(v,-x::z::r))=_
    have:=hr.1
    rw[if_neg (by omega),q]
   ·have e:actS g.2.2 (v,y::z::r) x=(v,x::y::z::r):=by unfold actS;simp only;rw[if_neg q]
    rw[e]
    show(if x= - -x then(v,y::z::r) else _)=_
    rw[if_pos (by omega)]
omit hf in
theorem run_ok: ∀ {w:List Int} {s:Int×List Int},okS g s→(∀x∈w,Lt3 x)→okS g (runS g.2.2 s w)
 | [],_,h,_=>h
 | x::w,s,h,hw=>run_ok (w:=w) (act_ok hg h (hw x (by simp))) fun y hy=>hw y (by simp[hy])
theorem run_red1 {s:Int×List Int} {acc:List Int} {x:Int} (h:okS g s) (ha: ∀y∈acc,Lt3 y) (hx:Lt3 x):runS g.2.2 s (red1 acc x)=actS g.2.2 (runS g.2.2 s acc) x:=by
 unfold red1
 split
 ·rename_i q
  obtain⟨q0,q1⟩:=q
  obtain⟨b,l,rfl⟩: ∃b l,acc=b++ [l]:=⟨acc.dropLast,acc.getLast (List.ne_nil_of_length_pos q0),(List.dropLast_concat_getLast (List.ne_nil_of_length_pos q0)).symm⟩
  rw[getLastD_snoc] at q1
  have hl:=ha l (by simp)
  have e:=(Lt3.inv hl).1 q1
  subst e
  rw[List.dropLast_concat,runS_app]
  show _=actS g.2.2 (actS g.2.2 _ l) (-l)
  rw[act_back hg hf (run_ok hg h fun y hy=>ha y (by simp[hy])) hl]
 ·rw[runS_app];rfl
theorem run_redA: ∀ {xs acc:List Int} {s:Int×List Int},okS g s→(∀y∈acc,Lt3 y)→(∀y∈xs,Lt3 y)→runS g.2.2 s (redL acc xs)=runS g.2.2 (runS g.2.2 s acc) xs
 | [],_,_,_,_,_=>rfl
 | x::xs,acc,s,h,ha,hx=>by
   have hr: ∀y∈red1 acc x,Lt3 y:=fun y hy=>by
    unfold red1 at hy
    split at hy
    ·exact ha y (List.dropLast_subset _ hy)
    ·rcases List.mem_append.1 hy with q | q
     ·exact ha y q
     ·exact hx y (by simp at q;simp[q])
   show runS g.2.2 s (redL (red1 acc x) xs)=_
   rw[run_redA (xs:=xs) h hr fun y hy=>hx y (by simp[hy]),run_red1 hg hf h ha (hx x (by simp))]
   rfl
theorem run_red {w:List Int} {s:Int×List Int} (h:okS g s) (hw: ∀y∈w,Lt3 y):runS g.2.2 s (redL [] w)=runS g.2.2 s w:=
 run_redA hg hf h (fun y hy=>by cases hy) hw
theorem run_inv: ∀ {w:List Int} {s:Int×List Int},okS g s→(∀y∈w,Lt3 y)→runS g.2.2 (runS g.2.2 s w) (invN w)=s
 | [],_,_,_=>rfl
 | x::w,s,h,hw=>by
   have e:invN (x::w)=invN w++ [-x]:=by simp[invN]
   have hx:=hw x (by simp)
   rw[e,runS_app,runS_cons g.2.2 s,run_inv (w:=w) (act_ok hg h hx) fun y hy=>hw y (by simp[hy])]
   exact act_back hg hf h hx
omit hf
omit hg in
theorem red_lt3 {w:List Int} (hw: ∀y∈w,Lt3 y): ∀y∈redL [] w,Lt3 y:=fun y hy=>by
 have: ∀(xs acc:List Int),(∀y∈acc,Lt3 y)→(∀y∈xs,Lt3 y)→ ∀y∈redL acc xs,Lt3 y:=by
  intro xs
  induction xs with
  | nil=>exact fun acc ha _=>ha
  | cons x xs ih=>
    intro acc ha hx
    refine ih (red1 acc x) (fun z hz=> ?_) fun z hz=>hx z (by simp[hz])
    unfold red1 at hz
    split at hz
    ·exact ha z (List.dropLast_subset _ hz)
    ·rcases List.mem_append.1 hz with q | q
     ·exact ha z q
     ·exact hx z (by simp at q;simp[q])
 exact this w [] (fun z hz=>by cases hz) hw y hy
omit hg in
theorem run_walk: ∀ {w:List Int} {v:Int},0≤walkF g.2.2 v w→runS g.2.2 (v,[]) w=(walkF g.2.2 v w,[])
 | [],_,_=>rfl
 | x::w,v,h=>by
   rw[walkF_cons] at h⊢
   split at h
   ·exact absurd h (by decide)
   ·rename_i q
    rw[if_neg q,runS_cons]
    have e:actS g.2.2 (v,[]) x=(nextV g.2.2 v x,[]):=by unfold actS;simp only;rw[if_neg q]
    rw[e,run_walk h]
omit hg in
theorem run_push: ∀ {w:List Int} {v y:Int} {r:List Int},NoB (y::w)→runS g.2.2 (v,y::r) w=(v,w.reverse++y::r)
 | [],_,_,_,_=>rfl
 | x::w,v,y,r,h=>by
   have e:actS g.2.2 (v,y::r) x=(v,x::y::r):=by unfold actS;simp only;rw[if_neg (by have:=h.1;omega)]
   rw[runS_cons,e,run_push h.2]
   simp
theorem run_stop: ∀ {w:List Int} {v:Int},NoB w→(0≤v∧v<g.2.1)→walkF g.2.2 v w<0→(runS g.2.2 (v,[]) w).2≠ []
 | [],v,_,hv,h=>by exfalso;have:walkF g.2.2 v []=v:=rfl;omega
 | x::w,v,hn,hv,h=>by
   rw[walkF_cons] at h
   rw[runS_cons]
   by_cases q:nextV g.2.2 v x<0
   ·have e:actS g.2.2 (v,[]) x=(v,[x]):=by unfold actS;simp only;rw[if_pos q]
    rw[e,run_push hn]
    simp
   ·have e:actS g.2.2 (v,[]) x=(nextV g.2.2 v x,[]):=by unfold actS;simp only;rw[if_neg q]
    rw[if_neg q] at h
    rw[e]
    refine run_stop (w:=w) ?_ (by rcases nextV_range hg v x with z | z<;>omega) h
    cases w with
    | nil=>trivial
    | cons z w=>exact hn.2
omit hg in
theorem noB_of_red {w:List Int} (h:redP w) (hw: ∀y∈w,Lt3 y):NoB w:=by
 induction w with
 | nil=>trivial
 | cons x w ih=>
   cases w with
   | nil=>trivial
   | cons y w=>
     refine⟨fun e=> ?_,ih (fun i hi=> ?_) fun z hz=>hw z (by simp[hz])⟩
     ·have:=h 0 (by simp)
      have h2:invB x y=true:=(Lt3.inv (hw x (by simp))).2 e
      rw[show invB x y=false from this] at h2
      cases h2
     ·have:=h (i+1) (by simpa using hi)
      simpa using this
omit hg in
theorem red_noB {w:List Int} (hw: ∀y∈w,Lt3 y):NoB (redL [] w):=noB_of_red (redL_red redP_nil) (red_lt3 hw)
include hf
theorem loop_iff {w:List Int} (hw: ∀y∈w,Lt3 y) {v:Int} (hv:0≤v∧v<g.2.1) {u:Int} (hu:0≤u):walkF g.2.2 v (redL [] w)=u↔runS g.2.2 (v,[]) w=(u,[]):=by
 rw[←run_red hg hf (s:=(v,[])) ⟨hv,trivial⟩ hw]
 constructor
 ·intro e
  rw[run_walk (by omega),e]
 ·intro e
  rcases Int.lt_or_le (walkF g.2.2 v (redL [] w)) 0 with q | q
  ·have:=run_stop hg (red_noB hw) hv q
   rw[e] at this
   exact absurd rfl this
  ·rw[run_walk q] at e
   injection e
end
end Go.Proofs.YtnjpoljbagfdnaaGreat
namespace Go.Proofs.YtnjpoljbagfdnaaGreat
set_option maxRecDepth 20000
set_option linter.unusedVariables false
set_option linter.unusedSimpArgs false
open Go.RowKit
def hE (e:EdD) (p x:Int):Prop:=(e.1=p∧e.2.1=x)∨(e.2.2=p∧e.2.1= -x)
section
variable {g:GrD} {u v:Int} {t:List Int}
theorem pth_mem {N:Nat} {e:EdD}:e∈pthL N u v t t.length↔ ∃j,j<t.length∧e=pthE N u v t j:=by
 unfold pthL
 rw[List.mem_map]
 exact⟨fun ⟨j,h1,h2⟩=>⟨j,List.mem_range.1 h1,h2.symm⟩,fun ⟨j,h1,h2⟩=>⟨j,List.mem_range.2 h1,h2.symm⟩⟩
theorem addOk_parts (h:addOk g t=true):g.2.1+t.length-1≤40∧(g.2.2.length:Int)+t.length≤120:=by
 unfold addOk at h
 exact of_decide_eq_true h
theorem pth_range (hg:grB g=true) (hu:0≤u∧u<g.2.1) (hv:0≤v∧v<g.2.1) (hw:wordB g.1 t=true) (h0:t.length≠0) {e:EdD} (he:e∈pthL g.2.1.toNat u v t t.length):
  (0≤e.1∧e.1<g.2.1+t.length-1)∧(1≤e.2.1∧e.2.1≤g.1)∧(0≤e.2.2∧e.2.2<g.2.1+t.length-1):=by
 obtain⟨j,hj,rfl⟩:=pth_mem.1 he
 have hN:=(grB_parts hg).2.1
 have hx:=wordB_get hw j hj
 have ha:0≤atP g.2.1.toNat t.length u v j∧atP g.2.1.toNat t.length u v j<g.2.1+t.length-1:=by
  cases j with
  | zero=>show 0≤u∧u<_;omega
  | succ j=>rw[atP_succ];unfold nxP;split<;>omega
 have hn:0≤nxP g.2.1.toNat t.length v j∧nxP g.2.1.toNat t.length v j<g.2.1+t.length-1:=by
  unfold nxP;split<;>omega
 unfold pthE stpE
 rw[getD_at hj]
 split<;>(simp only;omega)
theorem addG_gr (hg:grB g=true) (hu:0≤u∧u<g.2.1) (hv:0≤v∧v<g.2.1) (hw:wordB g.1 t=true) (h0:t.length≠0) (hok:addOk g t=true):grB (addG g u v t)=true:=by
 obtain⟨k1,k2⟩:=addOk_parts hok
 obtain⟨h1,h2,h3,_⟩:=grB_parts hg
 have hsp:=srt_spec cmpE_ord (g.2.2++pthL g.2.1.toNat u v t t.length)
 have hs:(addG g u v t).2.1=g.2.1+t.length-1:=by unfold addG;simp only;omega
 refine grB_of h1 (by rw[hs];omega) ?_ hsp.1 fun e he=> ?_
 ·have:=srt_len (c:=cmpE) (g.2.2++pthL g.2.1.toNat u v t t.length)
  rw[List.length_append,pthL_len] at this
  show(srt cmpE (g.2.2++pthL g.2.1.toNat u v t t.length)).length≤120
  omega
 ·rw[hs]
  rcases List.mem_append.1 ((hsp.2 e).1 he) with q | q
  ·have:=edge_of_gr hg q
   exact⟨by omega,this.2.1,by omega⟩
  ·exact pth_range hg hu hv hw h0 q
end
end Go.Proofs.YtnjpoljbagfdnaaGreat
namespace Go.Proofs.YtnjpoljbagfdnaaGreat
set_option maxRecDepth 20000
set_option linter.unusedVariables false
set_option linter.unusedSimpArgs false
open Go.RowKit
theorem OwE.trP {p base:Nat} {w w':World} {v:Value} {es:List EdD} (h:OwE w base v es) (ht:Tr p (p+1) w w') (hp:p<base):OwE w' base v es:=
 h.keep fun b hb=>ht.block b (h.1.lt b hb).2 (by have:=(h.1.lt b hb).1;omega)
theorem GBx.trP {p q base c:Nat} {A:Option Addr} {g:GrD} {w w':World} (h:GBx w q base A c g) (ht:Tr p (p+1) w w') (hp:p<base) (hq:p≠q):GBx w' q base A c g:=
 h.keep ht.size fun b hb=>by
  rcases hb with rfl | hb
  ·exact ht.block _ h.lt (by omega)
  ·exact ht.block b (h.ow.1.lt b hb).2 (by have:=(h.ow.1.lt b hb).1;omega)
theorem CBx.trP {p q:Nat} {x y z:Value} {w w':World} (h:CBx w q x y z) (ht:Tr p (p+1) w w') (hq:p≠q):CBx w' q x y z:=by
 have hp:=ht.block q h.lt (by omega)
 exact⟨(World.cell?_of_block (w:=w) hp).trans h.c0,(World.cell?_of_block (w:=w) hp).trans h.c1,(World.cell?_of_block (w:=w) hp).trans h.c2,fun j=>(World.frozen?_of_block (w:=w) hp).trans (h.fz j),Nat.lt_of_lt_of_le h.lt ht.size⟩
structure DrI (p:Nat) (A:Option Addr) (cap:Nat) (cs:List Int) (w0 W:World):Prop where
 tr:Tr p (p+1) w0 W
 cur:Cur p A cap cs W
section
variable {p cap:Nat} {A:Option Addr} {cs:List Int} {w0 W W':World}
theorem DrI.refl (h:Cur p A cap cs w0):DrI p A cap cs w0 w0:=⟨⟨rfl,rfl,rfl,Nat.le_refl _,fun _ _ _=>rfl⟩,h⟩
theorem DrI.to (h:DrI p A cap cs w0 W) (ht:Tr p (p+1) W W') (hc:Cur p A cap cs W'):DrI p A cap cs w0 W':=⟨h.tr.trans ht,hc⟩
theorem DrI.bel (h:DrI p A cap cs w0 W) (hb:Below W.heap.size W W'):DrI p A cap cs w0 W':=⟨h.tr.bel2 hb,h.cur.below hb⟩
theorem DrI.hi (h:DrI p A cap cs w0 W) (h0:Cur p A cap cs w0) {B:Nat} (hB:w0.heap.size≤B) (hb:Below B W W'):DrI p A cap cs w0 W':=by
 refine⟨⟨hb.os.trans h.tr.os,hb.tape.trans h.tr.tape,hb.output.trans h.tr.output,Nat.le_trans h.tr.size hb.size,fun k hk hn=>(hb.block k (by omega)).trans (h.tr.block k hk hn)⟩,?_⟩
 refine h.cur.tr (lo:=B) (hi:=W.heap.size) ⟨hb.os,hb.tape,hb.output,hb.size,fun k hk hn=>hb.block k (by omega)⟩ (by have:=h0.lt;omega) fun hl b off e=> ?_
 obtain⟨b',off',e',_,hlt,_⟩:=h0.at_ hl
 rw[e] at e'
 injection e' with e'
 injection e' with e1
 omega
theorem DrI.trans {w1:World} (h:DrI p A cap cs w0 w1) (h':DrI p A cap cs w1 W):DrI p A cap cs w0 W:=⟨h.tr.trans h'.tr,h'.cur⟩
end
theorem CBx.setv {w:World} {p:Nat} {x y z:Value} (h:CBx w p x y z) (a b c:Value):CBx (((w.setCell ⟨p,0,none⟩ a).setCell ⟨p,1,none⟩ b).setCell ⟨p,2,none⟩ c) p a b c:=by
 obtain⟨e0,e1,e2⟩:=cells3F a b c h.c0 h.c1 h.c2
 exact⟨e0,e1,e2,fun j=>by rw[World.frozen?_setCell,World.frozen?_setCell,World.frozen?_setCell];exact h.fz j,by simpa using h.lt⟩
theorem CBx.any {w:World} {p q:Nat} {x y z:Value} (h:CBx w p x y z) (a b c:Value): ∃x y z,CBx (((w.setCell ⟨q,0,none⟩ a).setCell ⟨q,1,none⟩ b).setCell ⟨q,2,none⟩ c) p x y z:=by
 by_cases e:p=q
 ·subst e;exact⟨_,_,_,h.setv a b c⟩
 ·exact⟨_,_,_,h.other e⟩
theorem gr_put {g:GrD} {e:EdD} (hg:grB g=true) (he:(0≤e.1∧e.1<g.2.1)∧(1≤e.2.1∧e.2.1≤g.1)∧(0≤e.2.2∧e.2.2<g.2.1)) (hl:g.2.2.length<120):grB (g.1,g.2.1,insF cmpE g.2.2 e)=true:=by
 obtain⟨h1,h2,h3,h4⟩:=grB_parts hg
 have hs:=gr_srt hg
 refine grB_of h1 h2 (by have:=insF_len (c:=cmpE) g.2.2 e;simp only;omega) ?_ fun x hx=> ?_
 ·simp only;rw[insF_eq];exact insR_srt cmpE_ord e g.2.2 hs
 ·simp only at hx
  rw[insF_eq] at hx
  rcases(insR_mem e g.2.2 cmpE_ord x).1 hx with rfl | hx
  ·exact he
  ·exact edge_of_gr hg hx
theorem edgeOk_of {r n:Int} {e:EdD} (hn:1≤n∧n≤40) (h:(0≤e.1∧e.1<n)∧(1≤e.2.1∧e.2.1≤r)∧(0≤e.2.2∧e.2.2<n)):edgeOk r n e=true:=by
 have hw:wrap64 (n-1)=n-1:=by unfold wrap64;omega
 obtain⟨⟨a1,a2⟩,⟨b1,b2⟩,c1,c2⟩:=h
 unfold edgeOk
 rw[hw]
 simp only[Bool.and_eq_true]
 exact⟨⟨inB_iff.2 ⟨by omega,by omega⟩,inB_iff.2 ⟨by omega,by omega⟩⟩,inB_iff.2 ⟨by omega,by omega⟩⟩
set_option maxRecDepth 100000 in
set_option maxHeartbeats 4000000 in
theorem l4Graph_any (p:Nat) (A:Option Addr) (cap:Nat) (cs:List Int) (w:World) (h:Cur p A cap cs w):
  Calls Tryz.prog 225 #[.pointer (some ⟨p,0,none⟩)] w fun e w'=> ∃v g,e= .returned v∧OwG w' w.heap.size v g∧(grB g=true∧g.2.2.length≤8)∧Cur p A cap cs w'∧Tr p (p+1) w w':=by
 have H:=hDD h
 have hp:=h.lt
 clear h
 go_enter Tryz.func225,Tryz.ntmps225
 go_wp2_with fail
 obtain⟨W0,hW0⟩: ∃W,W=w.alloc (Obj.cells #[Value.int IntKind.i64 0,Value.int IntKind.i64 0, .slice none 0 0] 26):=⟨_,rfl⟩
 rw[←hW0]
 obtain⟨xb,b0,s0⟩:=CBx.new hW0
 clear hW0
 have XB:=hDD xb
 have I0:Hid (DrI p A cap cs w W0):=hDD ((DrI.refl H.out).bel b0)
 clear xb b0
 have RA:Hid (RdI (W0.alloc (Obj.cells #[.int .i64 1, .int .i64 2, .int .i64 2, .int .i64 2, .int .i64 3] 3)) (.slice (some ⟨W0.heap.size,0,none⟩) 5 5) [1,2,2,2,3]):=hDD (OwI_lit W0 [1,2,2,2,3] (by intro y hy;simp at hy;rcases hy with rfl | rfl | rfl<;>(unfold I64;omega)) (by simp) (Nat.le_refl _)).rd
 have IA:=hDD (I0.out.bel ((Below.refl _ _).alloc (Nat.le_refl _) (Obj.cells #[.int .i64 1, .int .i64 2, .int .i64 2, .int .i64 2, .int .i64 3] 3)))
 have XA:=hDD (XB.out.below ((Below.refl _ _).alloc (Nat.le_refl _) (Obj.cells #[.int .i64 1, .int .i64 2, .int .i64 2, .int .i64 2, .int .i64 3] 3)))
 have hneA:(Value.slice (some ⟨W0.heap.size,0,none⟩) 5 5).ownBlock≠some p:=fun e=>by simp[Value.ownBlock] at e;omega
 rw[←s0]
 (with_reducible refine(l1PickInt_any p A cap cs _ [1,2,2,2,3] _ IA.out.cur RA.out hneA (by simp) (by simp)).mono ?_)
 rintro e w1 ⟨r,rfl,hr,c1,t1⟩
 have I1:=hDD (IA.out.to t1 c1)
 have X1:=hDD (XA.out.trP t1 (by omega))
 have hr1:1≤r:=by simp at hr;omega
 have hr3:r≤3:=by simp at hr;omega
 clear c1 t1 IA RA hr hneA XA I0 XB
 go_wp2_with fail
 refine(l1Below_any p A cap cs 5 _ I1.out.cur (by omega) (by omega)).mono ?_
 rintro e w2 ⟨n0,rfl,⟨n1,n2⟩,c2,t2⟩
 have I2:=hDD (I1.out.to t2 c2)
 have X2:=hDD (X1.out.trP t2 (by omega))
 obtain⟨N,hN⟩: ∃N,N=1+n0:=⟨_,rfl⟩
 have hN1:1≤N:=by omega
 have hN5:N≤5:=by omega
 have hwN:IntKind.i64.wrap (1+n0)=N:=by rw[IntKind.wrap_i64];omega
 clear c2 t2 I1 X1
 go_wp2_with fail
 rw[←hN]
 obtain⟨W3,hW3⟩: ∃W,W=w2.alloc (Obj.cells #[Value.int IntKind.i64 r,Value.int IntKind.i64 N, .slice none 0 0] 26):=⟨_,rfl⟩
 have g3:GBx W3 w2.heap.size (w.heap.size+1) none 0 (r,N,[]):=GBx.new (base:=w.heap.size+1) (m:=(r,N,[])) OwE.nil (show I64 r from⟨by omega,by omega⟩) (show I64 N from⟨by omega,by omega⟩) hW3
 obtain⟨_,b3,s3⟩:=CBx.new hW3
 rw[←hW3]
 have G3:=hDD g3
 have I3:=hDD (I2.out.bel b3)
 have X3:=hDD (X2.out.below b3)
 have hs2:=X2.out.lt
 have hgr3:grB (r,N,[])=true:=grB_of ⟨hr1,hr3⟩ ⟨hN1,by simp only;omega⟩ (by simp) List.Pairwise.nil (fun _ h=>by cases h)
 have HGR3:=hDD hgr3
 clear hW3 g3 b3 I2 X2 hN hwN hgr3
 generalize hb:w2.heap.size=b at*
 clear hb
 refine(l1Below_any p A cap cs 9 _ I3.out.cur (by omega) (by omega)).mono ?_
 rintro e w4 ⟨k0,rfl,⟨k1,k2⟩,c4,t4⟩
 have I4:=hDD (I3.out.to t4 c4)
 have X4:=hDD (X3.out.trP t4 (by omega))
 have G4:=hDD (G3.out.trP t4 (by omega) (by omega))
 clear c4 t4 I3 X3 G3
 go_wp2
 go_loopw [4,5] (fun nv _ wr=> ∃(k:Int) (g:GrD) (Ar:Option Addr) (cr:Nat),nv= .int .i64 k∧0≤k∧k+g.2.2.length≤8∧grB g=true∧GBx wr b (w.heap.size+1) Ar cr g∧CBx wr w.heap.size (.int .i64 0) (.int .i64 0) (.slice none 0 0)∧DrI p A cap cs w wr) (fun nv _ _=>(intOf nv).toNat)
 case atStart=>exact⟨k0,_,none,0,rfl,k1,by simp;omega,HGR3.out,G4.out,X4.out,I4.out⟩
 case round=>
  obtain⟨k,⟨g1,M,es⟩,Ar,cr,rfl,hk0,hkl,hgr,hG,hX,hI⟩:=hrel
  have HGR:=hDD hgr
  have HG:=hDD hG
  have HX:=hDD hX
  have HI:=hDD hI
  obtain⟨q1,q2,_,_⟩:=grB_parts hgr
  simp only at q1 q2 hkl
  have hsr:=hI.tr.size
  have hbr:=hG.lt
  have HGT:Hid (∀W',Tr p (p+1) wr W'→GBx W' b (w.heap.size+1) Ar cr (g1,M,es)):=hDD fun W' ht=>hG.trP ht (by omega) (by omega)
  have x0:=hX.c0
  have x1:=hX.c1
  have x2:=hX.c2
  have y0:=hG.c0
  have y1:=hG.c1
  have y2:=hG.c2
  have f0:=hX.fz 0
  have f1:=hX.fz 1
  have f2:=hX.fz 2
  simp only at y0 y1 y2
  clear hgr hG hX hI
  by_cases hlt:0<k
  ·clear x0 x1 x2 y0 y1 y2 f0 f1 f2
   go_wp2_with fail
   refine wp_region_gen [.val (.pointer (some ⟨p,0,none⟩)), .val (.pointer (some ⟨b,1,none⟩)), .val (.int .i64 M), .pur (fun _ v=> ∃x:Int,v= .int .i64 x∧0≤x∧x<M), .val (.pointer (some ⟨p,0,none⟩)), .val (.pointer (some ⟨b,0,none⟩)), .val (.int .i64 g1), .pur (fun _ v=> ∃x:Int,v= .int .i64 x∧0≤x∧x<g1), .pur (fun _ v=> ∃x:Int,v= .int .i64 x∧1≤x∧x≤g1), .val (.pointer (some ⟨p,0,none⟩)), .val (.pointer (some ⟨b,1,none⟩)), .val (.int .i64 M), .pur (fun _ v=> ∃x:Int,v= .int .i64 x∧0≤x∧x<M), .pur (fun _ v=> ∃x y z:Int,v= .agg #[.int .i64 x, .int .i64 y, .int .i64 z]∧(0≤x∧x<M)∧(1≤y∧y≤g1)∧(0≤z∧z<M)), .mem (fun _ W v=> ∃q x y z,v= .pointer (some ⟨q,0,none⟩)∧wr.heap.size≤q∧CBx W q x y z), .mem (fun us W _=> ∃(q:Nat) (x y z:Int),us 14= .pointer (some ⟨q,0,none⟩)∧wr.heap.size≤q∧CBx W q (.int .i64 x) (.int .i64 y) (.int .i64 z)∧(0≤x∧x<M)∧(1≤y∧y≤g1)∧(0≤z∧z<M))]
    [none,none,none,some (fun W W'=>Tr p (p+1) W W'∧Cur p A cap cs W'),none,none,none,some (fun W W'=>Tr p (p+1) W W'∧Cur p A cap cs W'),none,none,none,none,some (fun W W'=>Tr p (p+1) W W'∧Cur p A cap cs W'),none,some (fun W W'=>Below W.heap.size W W'),some (fun W W'=> ∃q x y z,wr.heap.size≤q∧W'=((W.setCell ⟨q,0,none⟩ x).setCell ⟨q,1,none⟩ y).setCell ⟨q,2,none⟩ z)]
    (DrI p A cap cs wr) [(14,3),(14,7),(14,12),(14,15)] (by kernel_rfl) (by kernel_rfl) (by rfl) (by rfl)
    ((DrI.refl HI.out.cur).bel (Below.refl _ _).drew)
    ⟨fun _ _ h t=>h.to t.1 t.2,fun _ _ h t=>h.to t.1 t.2,fun _ _ h t=>h.to t.1 t.2,fun _ _ h t=>h.bel t,fun _ _ h ⟨q,x,y,z,hq,e⟩=>by rw[e];exact h.hi HI.out.cur (Nat.le_refl _) (set3_below x y z (Below.refl _ _) hq),trivial⟩
    ⟨fun _ _ _ _ _ _ t ⟨q,x,y,z,e,hq,c⟩=>⟨q,x,y,z,e,hq,c.trP t.1 (by omega)⟩,fun _ _ _ _ _ _ t ⟨q,x,y,z,e,hq,c⟩=>⟨q,x,y,z,e,hq,c.trP t.1 (by omega)⟩,fun _ _ _ _ _ _ t ⟨q,x,y,z,e,hq,c⟩=>⟨q,x,y,z,e,hq,c.trP t.1 (by omega)⟩,fun _ _ _ _ _ _ ⟨q',a,b,c',_,e'⟩ ⟨q,x,y,z,e,hq,c⟩=>(by rw[e'];obtain⟨x',y',z',h'⟩:=c.any (q:=q') a b c';exact⟨q,x',y',z',e,hq,h'⟩),trivial⟩ (fun vs=> ?_)
   refine⟨fun W' K' Q0 hI hD hK=> ?_,?_⟩
   ·skip
    go_simp
    exact hK.out _ _ rfl rfl
   simp only[Act.put,List.setIfInBounds_toArray,List.set_cons_zero,List.set_cons_succ,Sg.pick,Nat.reduceAdd]
   refine⟨fun W' K' Q0 hI hD hK=> ?_,?_⟩
   ·have z1:=(HGT.out W' hI.out.tr).c1
    go_simp
    exact hK.out _ _ rfl rfl
   simp only[Act.put,List.setIfInBounds_toArray,List.set_cons_zero,List.set_cons_succ,Sg.pick,Nat.reduceAdd]
   refine⟨fun W' K' Q0 hI hD hK=> ?_,?_⟩
   ·have z1:=(HGT.out W' hI.out.tr).c1
    go_simp
    exact hK.out _ _ rfl rfl
   simp only[Act.put,List.setIfInBounds_toArray,List.set_cons_zero,List.set_cons_succ,Sg.pick,Nat.reduceAdd]
   refine⟨fun W' K' Q0 hI hD hK=> ?_,?_⟩
   ·skip
    go_simp
    (refine(l1Below_any p A cap cs M _ hI.out.cur (by omega) (by omega)).mono ?_;rintro e w' ⟨x,rfl,hx,c,t⟩;exact hK.out _ _ ⟨t,c⟩ ⟨x,rfl,hx⟩)
   simp only[Act.put,List.setIfInBounds_toArray,List.set_cons_zero,List.set_cons_succ,Sg.pick,Nat.reduceAdd]
   refine⟨fun W' K' Q0 hI hD hK=> ?_,?_⟩
   ·skip
    go_simp
    exact hK.out _ _ rfl rfl
   simp only[Act.put,List.setIfInBounds_toArray,List.set_cons_zero,List.set_cons_succ,Sg.pick,Nat.reduceAdd]
   refine⟨fun W' K' Q0 hI hD hK=> ?_,?_⟩
   ·have z1:=(HGT.out W' hI.out.tr).c0
    go_simp
    exact hK.out _ _ rfl rfl
   simp only[Act.put,List.setIfInBounds_toArray,List.set_cons_zero,List.set_cons_succ,Sg.pick,Nat.reduceAdd]
   refine⟨fun W' K' Q0 hI hD hK=> ?_,?_⟩
   ·have z1:=(HGT.out W' hI.out.tr).c0
    go_simp
    exact hK.out _ _ rfl rfl
   simp only[Act.put,List.setIfInBounds_toArray,List.set_cons_zero,List.set_cons_succ,Sg.pick,Nat.reduceAdd]
   refine⟨fun W' K' Q0 hI hD hK=> ?_,?_⟩
   ·skip
    go_simp
    (refine(l1Below_any p A cap cs g1 _ hI.out.cur (by omega) (by omega)).mono ?_;rintro e w' ⟨x,rfl,hx,c,t⟩;exact hK.out _ _ ⟨t,c⟩ ⟨x,rfl,hx⟩)
   simp only[Act.put,List.setIfInBounds_toArray,List.set_cons_zero,List.set_cons_succ,Sg.pick,Nat.reduceAdd]
   refine⟨fun W' K' Q0 hI hD hK=> ?_,?_⟩
   ·obtain⟨x7,e7,h7⟩:=(show ∃x:Int,vs 7= .int .i64 x∧0≤x∧x<g1 from hD.out 7 (by kernel_rfl))
    have hw7:IntKind.i64.wrap (1+x7)=1+x7:=(by rw[IntKind.wrap_i64];omega)
    rw[e7] at hK⊢
    go_simp
    exact hK.out _ _ rfl ⟨1+x7,rfl,by omega,by omega⟩
   simp only[Act.put,List.setIfInBounds_toArray,List.set_cons_zero,List.set_cons_succ,Sg.pick,Nat.reduceAdd]
   refine⟨fun W' K' Q0 hI hD hK=> ?_,?_⟩
   ·skip
    go_simp
    exact hK.out _ _ rfl rfl
   simp only[Act.put,List.setIfInBounds_toArray,List.set_cons_zero,List.set_cons_succ,Sg.pick,Nat.reduceAdd]
   refine⟨fun W' K' Q0 hI hD hK=> ?_,?_⟩
   ·have z1:=(HGT.out W' hI.out.tr).c1
    go_simp
    exact hK.out _ _ rfl rfl
   simp only[Act.put,List.setIfInBounds_toArray,List.set_cons_zero,List.set_cons_succ,Sg.pick,Nat.reduceAdd]
   refine⟨fun W' K' Q0 hI hD hK=> ?_,?_⟩
   ·have z1:=(HGT.out W' hI.out.tr).c1
    go_simp
    exact hK.out _ _ rfl rfl
   simp only[Act.put,List.setIfInBounds_toArray,List.set_cons_zero,List.set_cons_succ,Sg.pick,Nat.reduceAdd]
   refine⟨fun W' K' Q0 hI hD hK=> ?_,?_⟩
   ·skip
    go_simp
    (refine(l1Below_any p A cap cs M _ hI.out.cur (by omega) (by omega)).mono ?_;rintro e w' ⟨x,rfl,hx,c,t⟩;exact hK.out _ _ ⟨t,c⟩ ⟨x,rfl,hx⟩)
   simp only[Act.put,List.setIfInBounds_toArray,List.set_cons_zero,List.set_cons_succ,Sg.pick,Nat.reduceAdd]
   refine⟨fun W' K' Q0 hI hD hK=> ?_,?_⟩
   ·obtain⟨x3,e3,h3⟩:=(show ∃x:Int,vs 3= .int .i64 x∧0≤x∧x<M from hD.out 3 (by kernel_rfl))
    obtain⟨x8,e8,h8⟩:=(show ∃x:Int,vs 8= .int .i64 x∧1≤x∧x≤g1 from hD.out 8 (by kernel_rfl))
    obtain⟨x12,e12,h12⟩:=(show ∃x:Int,vs 12= .int .i64 x∧0≤x∧x<M from hD.out 12 (by kernel_rfl))
    rw[e3,e8,e12] at hK⊢
    go_simp
    exact hK.out _ _ rfl ⟨x3,x8,x12,rfl,h3,h8,h12⟩
   simp only[Act.put,List.setIfInBounds_toArray,List.set_cons_zero,List.set_cons_succ,Sg.pick,Nat.reduceAdd]
   refine⟨fun W' K' Q0 hI hD hK=> ?_,?_⟩
   ·skip
    go_simp
    exact hK.out _ _ ((Below.refl _ _).alloc (Nat.le_refl _) _) ⟨_,_,_,_,rfl,hI.out.tr.size,(CBx.new rfl).1⟩
   simp only[Act.put,List.setIfInBounds_toArray,List.set_cons_zero,List.set_cons_succ,Sg.pick,Nat.reduceAdd]
   refine⟨fun W' K' Q0 hI hD hK=> ?_,?_⟩
   ·obtain⟨q,a0,a1,a2,e14,hq,hc⟩:=(show ∃q x y z,vs 14= .pointer (some ⟨q,0,none⟩)∧wr.heap.size≤q∧CBx W' q x y z from hD.out 14 (by kernel_rfl))
    obtain⟨x,y,z,e13,hx⟩:=(show ∃x y z:Int,vs 13= .agg #[.int .i64 x, .int .i64 y, .int .i64 z]∧(0≤x∧x<M)∧(1≤y∧y≤g1)∧(0≤z∧z<M) from hD.out 13 (by kernel_rfl))
    rw[e13,e14] at hK⊢
    have z0:=hc.c0
    have z1:=hc.c1
    have z2:=hc.c2
    have u0:=hc.fz 0
    have u1:=hc.fz 1
    have u2:=hc.fz 2
    go_simp
    exact hK.out undef _ ⟨q,_,_,_,hq,rfl⟩ ⟨q,x,y,z,(mask_at (by kernel_rfl)).trans e14,hq,hc.setv _ _ _,hx⟩
   simp only[Act.put,List.setIfInBounds_toArray,List.set_cons_zero,List.set_cons_succ,Sg.pick,Nat.reduceAdd]
   intro W9 hI9 hD9
   obtain⟨q,x,y,z,e14,hq,hc,hx,hy,hz⟩:=(show ∃(q:Nat) (x y z:Int),maskV _ 15 vs 14= .pointer (some ⟨q,0,none⟩)∧wr.heap.size≤q∧CBx W9 q (.int .i64 x) (.int .i64 y) (.int .i64 z)∧(0≤x∧x<M)∧(1≤y∧y≤g1)∧(0≤z∧z<M) from hD9.out 15 (by decide))
   rw[mask_at (by kernel_rfl)] at e14
   rw[e14]
   have G9:=hDD (HGT.out W9 hI9.out.tr)
   have X9:=hDD (HX.out.trP hI9.out.tr (by omega))
   have HAD:=hDD (specAddEdge_any (.agg #[.int .i64 g1, .int .i64 M, .slice Ar es.length cr]) (g1,M,es) (x,y,z) W9 G9.out.arg ⟨⟨by simp only;omega,by simp only;omega⟩,⟨by simp only;omega,by simp only;omega⟩,⟨by simp only;omega,by simp only;omega⟩⟩ HGR.out (edgeOk_of q2 ⟨hx,hy,hz⟩) (by simp only;omega))
   have HG2:Hid (grB (g1,M,insF cmpE es (x,y,z))=true):=hDD (gr_put HGR.out ⟨hx,hy,hz⟩ (by simp only;omega))
   have hl2:(insF cmpE es (x,y,z)).length≤es.length+1:=insF_len (c:=cmpE) es (x,y,z)
   unfold edV at HAD
   simp only at HAD
   generalize insF cmpE es (x,y,z)=es2 at*
   generalize decide (es.length<es2.length)=dd at*
   have z0:=G9.out.c0
   have z1:=G9.out.c1
   have z2:=G9.out.c2
   have v0:=hc.c0
   have v1:=hc.c1
   have v2:=hc.c2
   simp only at z0 z1 z2
   clear hD9 e14
   go_wp2_with fail
   refine HAD.out.mono ?_
   rintro e w10 ⟨r10,rfl,o10,b10⟩
   obtain⟨s10,rfl,hi1,hi2,oe10⟩:=o10
   obtain⟨A10,c10,rfl,_⟩:=oe10.form
   simp only at oe10 hi1 hi2⊢
   clear z0 z1 z2 v0 v1 v2 HAD
   have G10:=hDD (G9.out.below b10)
   have X10:=hDD (X9.out.below b10)
   have I10:=hDD (HI.out.trans (hI9.out.bel b10))
   have hs9:=hI9.out.tr.size
   have O10:=hDD oe10
   have z0:=G10.out.c0
   have z1:=G10.out.c1
   have z2:=G10.out.c2
   have f0:=G10.out.fz 0
   have f1:=G10.out.fz 1
   have f2:=G10.out.fz 2
   simp only at z0 z1 z2
   have hwk:IntKind.i64.wrap (k-1)=k-1:=by rw[IntKind.wrap_i64];omega
   clear oe10 b10 hI9
   go_wp2
   go_roundw
   case rel=>
    refine⟨k-1,(g1,M,es2),A10,c10,by go_num,by omega,by simp only;omega,HG2.out,?_,X10.out.other (by omega),?_⟩
    ·exact(G10.out.set (m:=(g1,M,es2)) O10.out (fun b hb=>by have:=(O10.out.1.lt b hb).1;omega) hi1 hi2).mono (by omega)
    ·exact I10.out.hi H.out (Nat.le_refl _) (set3_below _ _ _ (Below.refl _ _) (by omega))
   case measure=>(simp[intOf];omega)
  ·go_wp2
   have XF:=HX.out.setv (.int .i64 g1) (.int .i64 M) (.slice Ar es.length cr)
   have e0:=XF.c0
   have e1:=XF.c1
   have e2:=XF.c2
   have IF:=HI.out.hi H.out (Nat.le_refl _) (set3_below (.int .i64 g1) (.int .i64 M) (.slice Ar es.length cr) (Below.refl _ _) (Nat.le_refl w.heap.size))
   exact bodyPost_ret (v:= .agg #[.int .i64 g1, .int .i64 M, .slice Ar es.length cr]) (by simp[results,Tryz.results225,go_sem,e0,e1,e2]) rfl ⟨_,rfl,g1,M,es,⟨_,rfl,HG.out.i1,HG.out.i2,(HG.out.ow.keep fun c hc=>set3_heap _ _ _ _ _ (by have:=(HG.out.ow.1.lt c hc).1;omega)).mono (by omega)⟩,⟨HGR.out,by omega⟩,IF.cur,IF.tr⟩
theorem GBx.rk {w:World} {p base:Nat} {A:Option Addr} {c:Nat} {g:GrD} (h:GBx w p base A c g) {z:Int} (hz:I64 z):GBx (w.setCell ⟨p,0,none⟩ (.int .i64 z)) p base A c (z,g.2.1,g.2.2):=
 ⟨World.cell?_setCell_same _ _ _ h.c0,(World.cell?_setCell_other _ _ _ _ (by simp)).trans h.c1,(World.cell?_setCell_other _ _ _ _ (by simp)).trans h.c2,fun j=>by rw[World.frozen?_setCell];exact h.fz j,h.ow.keep fun b hb=>Below.heap_setCell _ _ _ b (h.ne b hb),h.ne,hz,h.i2,by simpa using h.lt⟩
theorem CBx.one {w:World} {p q j:Nat} {x y z v:Value} (h:CBx w p x y z) (hne:p≠q):CBx (w.setCell ⟨q,j,none⟩ v) p x y z:=by
 have hp:(w.setCell ⟨q,j,none⟩ v).heap[p]? =w.heap[p]? :=Below.heap_setCell _ _ _ p hne
 exact⟨(World.cell?_of_block (w:=w) hp).trans h.c0,(World.cell?_of_block (w:=w) hp).trans h.c1,(World.cell?_of_block (w:=w) hp).trans h.c2,fun j=>(World.frozen?_of_block (w:=w) hp).trans (h.fz j),by simpa using h.lt⟩
theorem CBx.set2 {w:World} {p:Nat} {x y z:Value} (h:CBx w p x y z) (v:Value):CBx (w.setCell ⟨p,2,none⟩ v) p x y v:=
 ⟨(World.cell?_setCell_other _ _ _ _ (by simp)).trans h.c0,(World.cell?_setCell_other _ _ _ _ (by simp)).trans h.c1,World.cell?_setCell_same _ _ _ h.c2,fun j=>by rw[World.frozen?_setCell];exact h.fz j,by simpa using h.lt⟩
theorem CBx.grown {w w':World} {p:Nat} {x y z:Value} {row:Option Nat} (h:CBx w p x y z) (hg:w.grownBy w' row) (hr: ∀b,row=some b→b≠p):CBx w' p x y z:=by
 have hp:=hg.block p h.lt fun e=>hr p e.symm rfl
 exact⟨(World.cell?_of_block (w:=w) hp).trans h.c0,(World.cell?_of_block (w:=w) hp).trans h.c1,(World.cell?_of_block (w:=w) hp).trans h.c2,fun j=>(World.frozen?_of_block (w:=w) hp).trans (h.fz j),Nat.lt_of_lt_of_le h.lt hg.size⟩
theorem CBx.edC {w:World} {p:Nat} {x y z:Int} (h:CBx w p (.int .i64 x) (.int .i64 y) (.int .i64 z)): ∀j u,(edC (x,y,z))[j]? =some u→w.cell? ⟨p,j,none⟩=some u
 | 0,u,e=>by rw[h.c0];exact e
 | 1,u,e=>by rw[h.c1];exact e
 | 2,u,e=>by rw[h.c2];exact e
 | n+3,u,e=>by simp[Go.Proofs.YtnjpoljbagfdnaaGreat.edC] at e
theorem DrI.grow {p cap:Nat} {A:Option Addr} {cs:List Int} {w0 W W':World} {row:Option Nat} (h:DrI p A cap cs w0 W) (h0:Cur p A cap cs w0) (hg:W.grownBy W' row) (hr: ∀b,row=some b→w0.heap.size≤b):DrI p A cap cs w0 W':=⟨h.tr.grow2 hg hr,h.cur.new h0 hg hr⟩
set_option maxRecDepth 100000 in
set_option maxHeartbeats 4000000 in
theorem l4Any_any (p:Nat) (A:Option Addr) (cap:Nat) (cs:List Int) (w:World) (h:Cur p A cap cs w):
  Calls Tryz.prog 185 #[.pointer (some ⟨p,0,none⟩)] w fun e w'=> ∃v g,e= .returned v∧OwG w' w.heap.size v g∧g.2.2.length≤9∧Cur p A cap cs w'∧Tr p (p+1) w w':=by
 have H:=hDD h
 have hp:=h.lt
 clear h
 go_enter Tryz.func185,Tryz.ntmps185
 go_wp2_with fail
 obtain⟨W0,hW0⟩: ∃W,W=w.alloc (Obj.cells #[Value.int IntKind.i64 0,Value.int IntKind.i64 0, .slice none 0 0] 26):=⟨_,rfl⟩
 rw[←hW0]
 obtain⟨xb,b0,s0⟩:=CBx.new hW0
 clear hW0
 have XB:=hDD xb
 have I0:Hid (DrI p A cap cs w W0):=hDD ((DrI.refl H.out).bel b0)
 clear xb b0
 refine(l4Graph_any p A cap cs _ I0.out.cur).mono ?_
 rintro e w1 ⟨v1,⟨g1,M,es⟩,rfl,⟨s1,rfl,hi1,hi2,oe1⟩,⟨_,hl1⟩,c1,t1⟩
 obtain⟨A1,cap1,rfl,_⟩:=oe1.form
 simp only at hi1 hi2 oe1 hl1⊢
 have I1:=hDD (I0.out.to t1 c1)
 have X1:=hDD (XB.out.trP t1 (by omega))
 have hs1:=t1.size
 have OE1:=hDD oe1
 clear c1 t1 oe1 I0 XB
 go_wp2_with fail
 obtain⟨W2,hW2⟩: ∃W,W=w1.alloc (Obj.cells #[Value.int IntKind.i64 g1,Value.int IntKind.i64 M, .slice A1 es.length cap1] 26):=⟨_,rfl⟩
 have g2:=GBx.new (m:=(g1,M,es)) OE1.out hi1 hi2 hW2
 obtain⟨_,b2,s2⟩:=CBx.new hW2
 rw[←hW2]
 rw[s0] at g2
 have G2:=hDD g2
 have I2:=hDD (I1.out.bel b2)
 have X2:=hDD (X1.out.below b2)
 have hb0:w.heap.size<w1.heap.size:=X1.out.lt
 clear hW2 g2 b2 I1 X1 OE1
 generalize hb:w1.heap.size=b at*
 clear hb
 refine(l1Below_any p A cap cs 14 _ I2.out.cur (by omega) (by omega)).mono ?_
 rintro e w3 ⟨y,rfl,⟨y0,y1⟩,c3,t3⟩
 have I3:=hDD (I2.out.to t3 c3)
 have X3:=hDD (X2.out.trP t3 (by omega))
 have G3:=hDD (G2.out.trP t3 (by omega) (by omega))
 clear c3 t3 I2 X2 G2
 have hyc:y=0∨y=1∨y=2∨(¬y=0∧ ¬y=1∧ ¬y=2):=by omega
 rcases hyc with rfl | rfl | rfl | ⟨n0,n1,n2⟩
 ·skip
  have RA:Hid (RdI (w3.alloc (Obj.cells #[.int .i64 (-1), .int .i64 0, .int .i64 1, .int .i64 41] 3)) (.slice (some ⟨w3.heap.size,0,none⟩) 4 4) [-1,0,1,41]):=hDD (OwI_lit w3 [-1,0,1,41] (by intro y hy;simp at hy;unfold I64;omega) (by simp) (Nat.le_refl _)).rd
  have IA:=hDD (I3.out.bel ((Below.refl _ _).alloc (Nat.le_refl _) (Obj.cells #[.int .i64 (-1), .int .i64 0, .int .i64 1, .int .i64 41] 3)))
  have XA:=hDD (X3.out.below ((Below.refl _ _).alloc (Nat.le_refl _) (Obj.cells #[.int .i64 (-1), .int .i64 0, .int .i64 1, .int .i64 41] 3)))
  have GA:=hDD (G3.out.below ((Below.refl _ _).alloc (Nat.le_refl _) (Obj.cells #[.int .i64 (-1), .int .i64 0, .int .i64 1, .int .i64 41] 3)))
  have hneA:(Value.slice (some ⟨w3.heap.size,0,none⟩) 4 4).ownBlock≠some p:=fun e=>by simp[Value.ownBlock] at e;have:=I3.out.tr.size;omega
  go_wp2_with fail
  (with_reducible refine(l1PickInt_any p A cap cs _ [-1,0,1,41] _ IA.out.cur RA.out hneA (by simp) (by simp)).mono ?_)
  rintro e w4 ⟨z,rfl,hz,c4,t4⟩
  have hzI:I64 z:=by simp at hz;unfold I64;omega
  have I4:=hDD (IA.out.to t4 c4)
  have X4:=hDD (XA.out.trP t4 (by omega))
  have G4:=hDD (GA.out.trP t4 (by omega) (by omega))
  clear c4 t4 hz IA XA GA RA hneA
  have y0:=G4.out.c0
  have y1:=G4.out.c1
  have y2:=G4.out.c2
  simp only at y0 y1 y2
  have x0:=X4.out.c0
  have f0:=X4.out.fz 0
  have x1:=X4.out.c1
  have f1:=X4.out.fz 1
  have x2:=X4.out.c2
  have f2:=X4.out.fz 2
  have q0:=G4.out.fz 0
  have q1:=G4.out.fz 1
  go_wp2
  have hset:GBx (w4.setCell ⟨b,1,none⟩ (.int .i64 z)) b (w.heap.size+1) A1 cap1 (g1,z,es):=G4.out.sz hzI
  have X5:=hDD (X4.out.one (q:=b) (j:=1) (v:= .int .i64 z) (by omega))
  have G5:=hDD hset
  have I5:=hDD (I4.out.hi H.out (Nat.le_refl _) ((Below.refl w.heap.size w4).setCell (p:=⟨b,1,none⟩) (by show w.heap.size≤b;omega) (.int .i64 z)))
  have XF:=X5.out.setv (.int .i64 g1) (.int .i64 z) (.slice A1 es.length cap1)
  have e0:=XF.c0
  have e1:=XF.c1
  have e2:=XF.c2
  have IF:=I5.out.hi H.out (Nat.le_refl _) (set3_below (.int .i64 g1) (.int .i64 z) (.slice A1 es.length cap1) (Below.refl _ _) (Nat.le_refl w.heap.size))
  exact bodyPost_ret (v:= .agg #[.int .i64 g1, .int .i64 z, .slice A1 es.length cap1]) (by simp[results,Tryz.results185,go_sem,e0,e1,e2]) rfl ⟨_,(g1,z,es),rfl,⟨_,rfl,G5.out.i1,G5.out.i2,(G5.out.ow.keep fun c hc=>set3_heap _ _ _ _ _ (by have:=(G5.out.ow.1.lt c hc).1;omega)).mono (by omega)⟩,by simp only;omega,IF.cur,IF.tr⟩
 ·skip
  have RA:Hid (RdI (w3.alloc (Obj.cells #[.int .i64 0, .int .i64 1, .int .i64 4] 3)) (.slice (some ⟨w3.heap.size,0,none⟩) 3 3) [0,1,4]):=hDD (OwI_lit w3 [0,1,4] (by intro y hy;simp at hy;unfold I64;omega) (by simp) (Nat.le_refl _)).rd
  have IA:=hDD (I3.out.bel ((Below.refl _ _).alloc (Nat.le_refl _) (Obj.cells #[.int .i64 0, .int .i64 1, .int .i64 4] 3)))
  have XA:=hDD (X3.out.below ((Below.refl _ _).alloc (Nat.le_refl _) (Obj.cells #[.int .i64 0, .int .i64 1, .int .i64 4] 3)))
  have GA:=hDD (G3.out.below ((Below.refl _ _).alloc (Nat.le_refl _) (Obj.cells #[.int .i64 0, .int .i64 1, .int .i64 4] 3)))
  have hneA:(Value.slice (some ⟨w3.heap.size,0,none⟩) 3 3).ownBlock≠some p:=fun e=>by simp[Value.ownBlock] at e;have:=I3.out.tr.size;omega
  go_wp2_with fail
  (with_reducible refine(l1PickInt_any p A cap cs _ [0,1,4] _ IA.out.cur RA.out hneA (by simp) (by simp)).mono ?_)
  rintro e w4 ⟨z,rfl,hz,c4,t4⟩
  have hzI:I64 z:=by simp at hz;unfold I64;omega
  have I4:=hDD (IA.out.to t4 c4)
  have X4:=hDD (XA.out.trP t4 (by omega))
  have G4:=hDD (GA.out.trP t4 (by omega) (by omega))
  clear c4 t4 hz IA XA GA RA hneA
  have y0:=G4.out.c0
  have y1:=G4.out.c1
  have y2:=G4.out.c2
  simp only at y0 y1 y2
  have x0:=X4.out.c0
  have f0:=X4.out.fz 0
  have x1:=X4.out.c1
  have f1:=X4.out.fz 1
  have x2:=X4.out.c2
  have f2:=X4.out.fz 2
  have q0:=G4.out.fz 0
  have q1:=G4.out.fz 1
  go_wp2
  have hset:GBx (w4.setCell ⟨b,0,none⟩ (.int .i64 z)) b (w.heap.size+1) A1 cap1 (z,M,es):=G4.out.rk hzI
  have X5:=hDD (X4.out.one (q:=b) (j:=0) (v:= .int .i64 z) (by omega))
  have G5:=hDD hset
  have I5:=hDD (I4.out.hi H.out (Nat.le_refl _) ((Below.refl w.heap.size w4).setCell (p:=⟨b,0,none⟩) (by show w.heap.size≤b;omega) (.int .i64 z)))
  have XF:=X5.out.setv (.int .i64 z) (.int .i64 M) (.slice A1 es.length cap1)
  have e0:=XF.c0
  have e1:=XF.c1
  have e2:=XF.c2
  have IF:=I5.out.hi H.out (Nat.le_refl _) (set3_below (.int .i64 z) (.int .i64 M) (.slice A1 es.length cap1) (Below.refl _ _) (Nat.le_refl w.heap.size))
  exact bodyPost_ret (v:= .agg #[.int .i64 z, .int .i64 M, .slice A1 es.length cap1]) (by simp[results,Tryz.results185,go_sem,e0,e1,e2]) rfl ⟨_,(z,M,es),rfl,⟨_,rfl,G5.out.i1,G5.out.i2,(G5.out.ow.keep fun c hc=>set3_heap _ _ _ _ _ (by have:=(G5.out.ow.1.lt c hc).1;omega)).mono (by omega)⟩,by simp only;omega,IF.cur,IF.tr⟩
 ·go_wp2_with fail
  have hrw:Hid (∀c,(Value.slice A1 es.length cap1).ownBlock=some c→w.heap.size+1≤c∧c<w3.heap.size):=hDD fun c hc=>G3.out.ow.1.lt c hc
  have hb3:=G3.out.lt
  have hnb:=hDD G3.out.ne
  refine wp_region_genH [.val (.pointer (some ⟨b,2,none⟩)), .val (.slice A1 es.length cap1), .val (.pointer (some ⟨p,0,none⟩)), .pur (fun _ v=> ∃x:Int,v= .int .i64 x∧0≤x∧x<4), .pur (fun _ v=> ∃x:Int,v= .agg #[.int .i64 x, .int .i64 1, .int .i64 0]∧0≤x∧x<4), .mem (fun _ W v=> ∃(q:Nat) (x:Int),v= .slice (some ⟨q,0,none⟩) 1 1∧w3.heap.size≤q∧CBx W q (.int .i64 x) (.int .i64 1) (.int .i64 0)∧0≤x∧x<4),
    .mem (fun _ W v=> ∃A' c' ms,v= .slice A' ms.length c'∧ms.length=es.length+1∧OwE W (w.heap.size+1) v ms∧(∀c,v.ownBlock=some c→c≠b)∧ ∃z,CBx W b (.int .i64 g1) (.int .i64 M) z), .val (.pointer (some ⟨b,2,none⟩)), .mem (fun _ W _=> ∃A' c' ms,ms.length=es.length+1∧GBx W b (w.heap.size+1) A' c' (g1,M,ms))]
   [none,none,none,some (fun W W'=>Tr p (p+1) W W'∧Cur p A cap cs W'),none,some (fun W W'=>Below W.heap.size W W'),some (fun W W'=>W.grownBy W' (Value.slice A1 es.length cap1).ownBlock),none,some (fun W W'=> ∃v,W'=W.setCell ⟨b,2,none⟩ v)]
   (fun W=>DrI p A cap cs w W∧w3.heap.size≤W.heap.size∧CBx W w.heap.size (.int .i64 0) (.int .i64 0) (.slice none 0 0)) (fun W=>GBx W b (w.heap.size+1) A1 cap1 (g1,M,es)) [6,8] [(5,6),(5,8),(6,8)] (by kernel_rfl) (by kernel_rfl) (by rfl) (by rfl)
   ⟨I3.out.bel (Below.refl _ _).drew,Nat.le_refl _,X3.out.below (Below.refl _ _).drew⟩ (G3.out.below (Below.refl _ _).drew)
   ⟨fun _ _ h t=>⟨h.1.to t.1 t.2,Nat.le_trans h.2.1 t.1.size,h.2.2.trP t.1 (by omega)⟩,fun _ _ h t=>⟨h.1.bel t,Nat.le_trans h.2.1 t.size,h.2.2.below t⟩,fun _ _ h t=>⟨h.1.grow H.out t (fun c hc=>by have:=(hrw.out c hc).1;omega),Nat.le_trans h.2.1 t.size,h.2.2.grown t (fun c hc=>by have:=(hrw.out c hc).1;omega)⟩,fun W _ h ⟨v,e⟩=>by subst e;exact⟨h.1.hi H.out (Nat.le_refl _) ((Below.refl w.heap.size W).setCell (p:=⟨b,2,none⟩) (by show w.heap.size≤b;omega) v),by simpa using h.2.1,h.2.2.one (by omega)⟩,trivial⟩
   ⟨.inr fun _ _ _ h t=>h.trP t.1 (by omega) (by omega), .inr fun _ _ _ h t=>h.below t, .inl (by simp), .inl (by simp),trivial⟩
   ⟨fun _ _ _ _ _ _ t ⟨q,x,e,hq,c,hx⟩=>⟨q,x,e,hq,c.grown t (fun c' hc'=>by have:=(hrw.out c' hc').2;omega),hx⟩,fun _ _ _ _ _ _ ⟨u,t⟩ ⟨q,x,e,hq,c,hx⟩=>by subst t;exact⟨q,x,e,hq,c.one (by omega),hx⟩,fun _ _ _ _ _ _ ⟨u,t⟩ ⟨A',c',e,hv,hl,o,hn,z,c⟩=>by subst t;exact⟨A',c',e,hv,hl,o.keep fun d hd=>Below.heap_setCell _ _ _ d (hn d hd),hn,_,c.set2 u⟩,trivial⟩ (fun vs=> ?_)
  refine⟨fun W' K' Q0 hI hD hK=> ?_,?_⟩
  ·skip
   go_simp
   exact hK.out _ _ rfl rfl
  simp only[Act.put,List.setIfInBounds_toArray,List.set_cons_zero,List.set_cons_succ,Sg.pick,Nat.reduceAdd]
  refine⟨fun W' K' Q0 hI hD hK=> ?_,?_⟩
  ·have z2:=(hI.out.2 (by kernel_rfl)).c2
   go_simp
   exact hK.out _ _ rfl rfl
  simp only[Act.put,List.setIfInBounds_toArray,List.set_cons_zero,List.set_cons_succ,Sg.pick,Nat.reduceAdd]
  refine⟨fun W' K' Q0 hI hD hK=> ?_,?_⟩
  ·skip
   go_simp
   exact hK.out _ _ rfl rfl
  simp only[Act.put,List.setIfInBounds_toArray,List.set_cons_zero,List.set_cons_succ,Sg.pick,Nat.reduceAdd]
  refine⟨fun W' K' Q0 hI hD hK=> ?_,?_⟩
  ·skip
   go_simp
   (refine(l1Below_any p A cap cs 4 _ hI.out.1.1.cur (by omega) (by omega)).mono ?_;rintro e w' ⟨x,rfl,hx,c,t⟩;exact hK.out _ _ ⟨t,c⟩ ⟨x,rfl,hx⟩)
  simp only[Act.put,List.setIfInBounds_toArray,List.set_cons_zero,List.set_cons_succ,Sg.pick,Nat.reduceAdd]
  refine⟨fun W' K' Q0 hI hD hK=> ?_,?_⟩
  ·obtain⟨x3,e3,h3⟩:=(show ∃x:Int,vs 3= .int .i64 x∧0≤x∧x<4 from hD.out 3 (by kernel_rfl))
   rw[e3] at hK⊢
   go_simp
   exact hK.out _ _ rfl ⟨x3,rfl,h3⟩
  simp only[Act.put,List.setIfInBounds_toArray,List.set_cons_zero,List.set_cons_succ,Sg.pick,Nat.reduceAdd]
  refine⟨fun W' K' Q0 hI hD hK=> ?_,?_⟩
  ·obtain⟨x4,e4,h4⟩:=(show ∃x:Int,vs 4= .agg #[.int .i64 x, .int .i64 1, .int .i64 0]∧0≤x∧x<4 from hD.out 4 (by kernel_rfl))
   rw[e4] at hK⊢
   go_simp
   exact hK.out _ _ ((Below.refl _ _).alloc (Nat.le_refl _) _) ⟨_,x4,rfl,hI.out.1.2.1,(CBx.new rfl).1,h4⟩
  simp only[Act.put,List.setIfInBounds_toArray,List.set_cons_zero,List.set_cons_succ,Sg.pick,Nat.reduceAdd]
  refine⟨fun W' K' Q0 hI hD hK=> ?_,?_⟩
  ·obtain⟨q5,x5,e5,hq5,hc5,hx5⟩:=(show ∃(q:Nat) (x:Int),vs 5= .slice (some ⟨q,0,none⟩) 1 1∧w3.heap.size≤q∧CBx W' q (.int .i64 x) (.int .i64 1) (.int .i64 0)∧0≤x∧x<4 from hD.out 5 (by kernel_rfl))
   rw[e5] at hK⊢
   have hG:=hI.out.2 (by kernel_rfl)
   refine wp_push_edge (.tmp 23) (.tmp 27) rfl (w.heap.size+1) _ es hG.ow rfl q5 (x5,1,0) rfl hc5.edC ⟨⟨by simp only;omega,by simp only;omega⟩,⟨by simp only;omega,by simp only;omega⟩,⟨by simp only;omega,by simp only;omega⟩⟩ (by omega) (by have:=hI.out.1.2.1;omega) ?_
   intro v' w' o g pl
   obtain⟨A',c',rfl,_⟩:=o.form
   exact hK.out _ _ g ⟨A',c',_,rfl,by simp,o,(fun c hc=>pl.elim (fun q=>hnb.out c (q▸hc)) (fun q=>by rw[q] at hc;injection hc with hc;have:=hI.out.1.2.1;omega)),_,hG.cbx.grown g hnb.out⟩
  simp only[Act.put,List.setIfInBounds_toArray,List.set_cons_zero,List.set_cons_succ,Sg.pick,Nat.reduceAdd]
  refine⟨fun W' K' Q0 hI hD hK=> ?_,?_⟩
  ·skip
   go_simp
   exact hK.out _ _ rfl rfl
  simp only[Act.put,List.setIfInBounds_toArray,List.set_cons_zero,List.set_cons_succ,Sg.pick,Nat.reduceAdd]
  refine⟨fun W' K' Q0 hI hD hK=> ?_,?_⟩
  ·obtain⟨A',c',e,e6,hl,o,hn,z,hc⟩:=(show ∃A' c' ms,vs 6= .slice A' ms.length c'∧ms.length=es.length+1∧OwE W' (w.heap.size+1) (vs 6) ms∧(∀c,(vs 6).ownBlock=some c→c≠b)∧ ∃z,CBx W' b (.int .i64 g1) (.int .i64 M) z from hD.out 6 (by kernel_rfl))
   rw[e6] at hK o hn⊢
   have HL:=hDD hl
   clear hl
   have z2:=hc.c2
   have u2:=hc.fz 2
   go_simp
   exact hK.out undef _ ⟨_,rfl⟩ ⟨A',c',e,HL.out,⟨(hc.set2 _).c0,(hc.set2 _).c1,(hc.set2 _).c2,(hc.set2 _).fz,o.keep fun d hd=>Below.heap_setCell _ _ _ d (hn d hd),hn,G3.out.i1,G3.out.i2,(hc.set2 _).lt⟩⟩
  simp only[Act.put,List.setIfInBounds_toArray,List.set_cons_zero,List.set_cons_succ,Sg.pick,Nat.reduceAdd]
  intro W9 hI9 hD9
  obtain⟨A9,c9,ms,hl9,g9⟩:=(show ∃A' c' ms,ms.length=es.length+1∧GBx W9 b (w.heap.size+1) A' c' (g1,M,ms) from hD9.out 8 (by decide))
  have G9:=hDD g9
  have I9:=hDD hI9.out.1.1
  have X9:=hDD hI9.out.1.2.2
  have HL9:=hDD hl9
  clear hI9 hD9 g9 hl9
  have y0:=G9.out.c0
  have y1:=G9.out.c1
  have y2:=G9.out.c2
  simp only at y0 y1 y2
  have x0:=X9.out.c0
  have f0:=X9.out.fz 0
  have x1:=X9.out.c1
  have f1:=X9.out.fz 1
  have x2:=X9.out.c2
  have f2:=X9.out.fz 2
  go_wp2
  have XF:=X9.out.setv (.int .i64 g1) (.int .i64 M) (.slice A9 ms.length c9)
  have e0:=XF.c0
  have e1:=XF.c1
  have e2:=XF.c2
  have IF:=I9.out.hi H.out (Nat.le_refl _) (set3_below (.int .i64 g1) (.int .i64 M) (.slice A9 ms.length c9) (Below.refl _ _) (Nat.le_refl w.heap.size))
  exact bodyPost_ret (v:= .agg #[.int .i64 g1, .int .i64 M, .slice A9 ms.length c9]) (by simp[results,Tryz.results185,go_sem,e0,e1,e2]) rfl ⟨_,rfl,g1,M,ms,⟨_,rfl,G9.out.i1,G9.out.i2,(G9.out.ow.keep fun c hc=>set3_heap _ _ _ _ _ (by have:=(G9.out.ow.1.lt c hc).1;omega)).mono (by omega)⟩,by have:=HL9.out;omega,IF.cur,IF.tr⟩
 ·skip
  have y0:=G3.out.c0
  have y1:=G3.out.c1
  have y2:=G3.out.c2
  simp only at y0 y1 y2
  have x0:=X3.out.c0
  have f0:=X3.out.fz 0
  have x1:=X3.out.c1
  have f1:=X3.out.fz 1
  have x2:=X3.out.c2
  have f2:=X3.out.fz 2
  go_wp2
  have XF:=X3.out.setv (.int .i64 g1) (.int .i64 M) (.slice A1 es.length cap1)
  have e0:=XF.c0
  have e1:=XF.c1
  have e2:=XF.c2
  have IF:=I3.out.hi H.out (Nat.le_refl _) (set3_below (.int .i64 g1) (.int .i64 M) (.slice A1 es.length cap1) (Below.refl _ _) (Nat.le_refl w.heap.size))
  exact bodyPost_ret (v:= .agg #[.int .i64 g1, .int .i64 M, .slice A1 es.length cap1]) (by simp[results,Tryz.results185,go_sem,e0,e1,e2]) rfl ⟨_,(g1,M,es),rfl,⟨_,rfl,G3.out.i1,G3.out.i2,(G3.out.ow.keep fun c hc=>set3_heap _ _ _ _ _ (by have:=(G3.out.ow.1.lt c hc).1;omega)).mono (by omega)⟩,by simp only;omega,IF.cur,IF.tr⟩
end Go.Proofs.YtnjpoljbagfdnaaGreat
namespace Go.Proofs.YtnjpoljbagfdnaaGreat
set_option maxRecDepth 20000
set_option linter.unusedVariables false
set_option linter.unusedSimpArgs false
open Go.RowKit
def trunc (w:World) (N:Nat):World:= {w with heap:=w.heap.extract 0 N}
theorem trunc_size (w:World) (N:Nat) (h:N≤w.heap.size):(trunc w N).heap.size=N:=by
 show(w.heap.extract 0 N).size=N
 simp;omega
theorem trunc_at (w:World) (N b:Nat) (hb:b<N) (h:N≤w.heap.size):(trunc w N).heap[b]? =w.heap[b]? :=by
 show(w.heap.extract 0 N)[b]? =w.heap[b]?
 rw[Array.getElem?_extract]
 simp;omega
theorem push_rows {lo N:Nat} {w:World} {v:Value} {L:List (List Int)} {ops:Array Oper} {rest:List Oper} {o:Oper} {a:Act} {Q:Exit→Act→World→Prop} (hgd:o.guard=none) (s x:Operand)
  (ho:o.op= .call {callee:= .builtin .append,args:= #[s,x],argTypes:= #[69,69]})
  (hown:OwII lo N v L w) (hlo:lo≤N) (hN:N≤w.heap.size) (hs:a.eval s=v) (b:Nat) (z:Value) (d:List Int) {base:Nat} (hx:a.eval x= .slice (some ⟨b,0,none⟩) 1 1)
  (hel:OwI w base z d) (hbase:N≤base) (hc:w.cell? ⟨b,0,none⟩=some z) (hz:z.oneCell'=true) (hl:L.length≤1073741824)
  (h: ∀v' w',OwII lo w'.heap.size v' (L++ [d]) w'→w.grownBy w' v.ownBlock→wpList Tryz.prog ops Q rest (a.put o.dst v') w'):
  wpList Tryz.prog ops Q (o::rest) a w:=by
 have hsz:=trunc_size w N hN
 refine push_ints (w0:=trunc w N) hgd s x ho (lo:=lo) ?_ (by rw[hsz];exact hlo) ?_ hs b z d hx hel (by rw[hsz];exact hbase) hc hz hl h
 ·rw[hsz]
  exact hown.keep EI.stable fun b _ hb=>trunc_at w N b hb hN
 ·rw[hsz]
  exact⟨rfl,rfl,rfl,by rw[hsz];exact hN,fun b hb=>(trunc_at w N b hb hN).symm⟩
theorem OwII.trP {p lo hi:Nat} {w w':World} {v:Value} {L:List (List Int)} (h:OwII lo hi v L w) (ht:Tr p (p+1) w w') (hp:p<lo) (hh:hi≤w.heap.size):OwII lo hi v L w':=
 h.keep EI.stable fun b h1 h2=>ht.block b (by omega) (by omega)
theorem OwII_any {lo hi:Nat} {v:Value} {L:List (List Int)} {w:World} (h:OwII lo hi v L w): ∃A m c,v= .slice A m c:=by
 obtain⟨A,c,hv,_⟩:=h.len
 exact⟨A,_,c,hv⟩
end Go.Proofs.YtnjpoljbagfdnaaGreat
namespace Go.Proofs.YtnjpoljbagfdnaaGreat
set_option maxRecDepth 20000
set_option linter.unusedVariables false
set_option linter.unusedSimpArgs false
open Go.RowKit
def WdL (r:Int) (n:Nat) (L:List (List Int)):Prop:= ∀x∈L,x.length≤n∧letR r x∧redP x
set_option maxHeartbeats 2000000 in
theorem l6Words_any (p:Nat) (A:Option Addr) (cap:Nat) (cs:List Int) (r:Int) (w:World) (h:Cur p A cap cs w) (hr1:1≤r) (hr3:r≤3):
  Calls Tryz.prog 222 #[.pointer (some ⟨p,0,none⟩), .int .i64 r] w fun e w'=> ∃(v:Value) (L:List (List Int)),e= .returned v∧OwII w.heap.size w'.heap.size v L w'∧(L.length≤3∧WdL r 5 L)∧Cur p A cap cs w'∧Tr p (p+1) w w':=by
 have H:=hDD h
 have hp:=h.lt
 clear h
 have O1:Hid (OwII w.heap.size (w.heap.size+1) (.slice (some ⟨w.heap.size,0,none⟩) 0 0) [] (w.alloc (.cells #[] 37))):=hDD (OwII_lit w (Nat.le_refl _))
 have I1:Hid (DrI p A cap cs w (w.alloc (.cells #[] 37))):=hDD ((DrI.refl H.out).bel ((Below.refl _ _).alloc (Nat.le_refl _) _))
 go_enter Tryz.func222,Tryz.ntmps222
 go_wp2_with fail
 refine(l1Below_any p A cap cs 4 _ I1.out.cur (by omega) (by omega)).mono ?_
 rintro e w2 ⟨k0,rfl,⟨k00,k05⟩,c2,t2⟩
 have I2:=hDD (I1.out.to t2 c2)
 have O2:=hDD ((O1.out.trP t2 hp (by simp)).widen (Nat.le_refl _) (by have:=t2.size;simpa using this))
 clear c2 t2 O1 I1
 go_wp2
 go_loopw [5,6,7] (fun rv nv _ wr=> ∃(k:Int) (L:List (List Int)),nv= .int .i64 k∧0≤k∧k+L.length≤3∧WdL r 5 L∧OwII w.heap.size wr.heap.size rv L wr∧DrI p A cap cs w wr)
  (fun _ nv _ _=>(intOf nv).toNat)
 case atStart=>exact⟨k0,[],rfl,k00,by simp;omega,fun r hr=>(by cases hr),O2.out,I2.out⟩
 case round=>
  obtain⟨k,L,rfl,hk0,hkm,hL,hO,hI⟩:=hrel
  have HL:=hDD hL
  have HO:=hDD hO
  have HI:=hDD hI
  have hsz:=hI.tr.size
  obtain⟨Ar,cr,rfl,_⟩:=hO.len
  clear hO hI hL
  by_cases hlt:0<k
  ·go_wp2_with fail
   refine(l2Of_any p A cap cs r 5 _ HI.out.cur hr1 hr3 (by omega) (by omega)).mono ?_
   rintro e w3 ⟨xv,xs,rfl,ox,⟨hxl,hxr,hxp⟩,c3,t3⟩
   have I3:=hDD (HI.out.to t3 c3)
   have O3:=hDD (HO.out.trP t3 hp (Nat.le_refl _))
   have HX:Hid (xs.length≤5∧letR r xs∧redP xs):=hDD ⟨by omega,hxr,hxp⟩
   have V3:=hDD ox
   obtain⟨Av,mv,cv,rfl⟩:=ox.any2
   have hs3:=t3.size
   have hwk:IntKind.i64.wrap (k-1)=k-1:=by rw[IntKind.wrap_i64];omega
   clear c3 t3 ox hxr hxp hxl
   go_wp2_with (at_builtin;refine push_rows rfl (.tmp 18) (.tmp 20) rfl (O3.out.keep (w':=w3.alloc (.cells #[.slice Av mv cv] 37)) EI.stable fun b _ hb=>Below.heap_alloc w3 _ b (by omega)) hsz (by simp;omega) rfl _ _ xs rfl (V3.out.alloc _) (Nat.le_refl _) (cell_new1 _ _ _) rfl (by omega) ?_;intro v6 w6 o6 g6;have O6:=hDD o6;have G6:=hDD g6;obtain⟨A6,m6,c6,rfl⟩:=OwII_any o6;clear o6 g6)
   have I6:=hDD ((I3.out.bel ((Below.refl _ _).alloc (Nat.le_refl _) (.cells #[.slice Av mv cv] 37))).grow H.out G6.out fun b hb=>(HO.out.lt hb).1)
   go_roundw
   case rel=>
    refine⟨k-1,_,by go_num,by omega,by simp;omega,fun r hr=> ?_,O6.out,I6.out⟩
    rcases List.mem_append.1 hr with hr | hr
    ·exact HL.out r hr
    ·rw[List.mem_singleton] at hr
     rw[hr]
     exact HX.out
   case measure=>(simp[intOf];omega)
  ·go_wp2
   exact bodyPost_ret (v:= .slice Ar L.length cr) (by simp[results,Tryz.results222,go_sem]) rfl ⟨_,rfl,L,HO.out,⟨by omega,HL.out⟩,HI.out.cur,HI.out.tr⟩
theorem lenLL_succ (L:List (List Int)) (k:Nat) (h:k<L.length):lenLL (L.take (k+1))=lenLL (L.take k)+L[k].length:=by
 unfold lenLL
 rw[List.take_succ_eq_append_getElem h,List.map_append,List.sum_append]
 simp only[List.map_cons,List.map_nil,List.sum_cons,List.sum_nil,Nat.add_zero]
theorem lenLL_takeA (L:List (List Int)) (k:Nat):lenLL (L.take k)≤lenLL L:=by
 unfold lenLL
 conv=>rhs;rw[←List.take_append_drop k L,List.map_append,List.sum_append]
 omega
set_option maxHeartbeats 1000000 in
theorem specTotalLength_any (v:Value) (L:List (List Int)) (w:World) (h:RdII w v L) (hl:L.length≤1073741824) (hn:lenLL L≤1073741824):
  Calls Tryz.prog 275 #[v] w fun e w'=>e= .returned (.int .i64 (lenLL L))∧w=w':=by
 have H:=hDD h
 obtain⟨A,cap,rfl,hcap,hm,_⟩:=h.form
 unfold maxLen at hm
 clear h
 go_enter Tryz.func275,Tryz.ntmps275
 go_wp2
 go_loopw [3,4] (fun n i wr=> ∃k:Nat,k≤L.length∧i= .int .i64 k∧n= .int .i64 (lenLL (L.take k))∧w=wr) (fun _ i _=>L.length-(intOf i).toNat)
 case atStart=>exact⟨0,Nat.zero_le _,rfl,rfl,rfl⟩
 case round=>
  obtain⟨k,hk,rfl,rfl,rfl⟩:=hrel
  by_cases hlt:k<L.length
  ·obtain⟨b,off,A1,cap1,rfl,hb,hc,_,_,hr⟩:=H.out.at hlt
   have HS:=hDD (lenLL_succ L k hlt)
   have hs:=HS.out
   have ht:=lenLL_takeA L (k+1)
   have hkI:(k:Int)<(L.length:Int):=by omega
   clear hr
   generalize L[k]=x at*
   have hwa:IntKind.i64.wrap ((lenLL (L.take k):Int)+(x.length:Int))=((lenLL (L.take k)+x.length:Nat):Int):=by rw[IntKind.wrap_i64];omega
   generalize lenLL (L.take k)=m at*
   clear hs ht
   go_wp2
   go_roundw
   case rel=>exact⟨k+1,by omega,by go_num,by rw[HS.out];go_num,trivial⟩
   case measure=>(first | omega | (simp[intOf];omega))
  ·obtain rfl:k=L.length:=by omega
   rw[List.take_length]
   obtain⟨m,hm'⟩: ∃m,m=lenLL L:=⟨_,rfl⟩
   rw[←hm']
   have HM:=hDD hm'
   clear hm'
   go_wp2
   exact bodyPost_ret (v:= .int .i64 m) (by simp[results,Tryz.results275,go_sem]) rfl ⟨by rw[HM.out],rfl⟩
def areW (r:Int) (L:List (List Int)):Bool:=L.all (wordB r)&&(inB r 1 3&&(decide (L.length≤6)&&decide (lenLL L<40)))
set_option maxHeartbeats 1000000 in
theorem specAreWords_any (r:Int) (v:Value) (L:List (List Int)) (w:World) (h:RdII w v L) (hl:L.length≤1073741824) (hn:lenLL L≤1073741824) (hx: ∀x∈L,x.length≤1073741824):
  Calls Tryz.prog 263 #[.int .i64 r,v] w fun e w'=>e= .returned (.bool (areW r L))∧ ∃n,w'=w.drewN n:=by
 have H:=hDD h
 have HX:=hDD hx
 obtain⟨A,cap,rfl,hcap,hm,_⟩:=h.form
 unfold maxLen at hm
 have HR:Hid (areW r L=(L.all (wordB r)&&(inB r 1 3&&(decide (L.length≤6)&&decide (lenLL L<40))))):=hDD rfl
 generalize areW r L=res at*
 clear h hx
 go_enter Tryz.func263,Tryz.ntmps263
 go_wp2
 go_loopw [5] (fun i wr=> ∃k:Nat,k≤L.length∧i= .int .i64 k∧(∀x∈L.take k,wordB r x=true)∧ ∃n,wr=w.drewN n) (fun i _=>L.length-(intOf i).toNat)
 case atStart=>exact⟨0,Nat.zero_le _,rfl,by simp,0,rfl⟩
 case round=>
  obtain⟨k,hk,rfl,hno,n,rfl⟩:=hrel
  have HNO:=hDD hno
  clear hno
  by_cases hlt:k<L.length
  ·obtain⟨b,off,A1,cap1,rfl,hb,hc,_,_,hr⟩:=H.out.at hlt
   have HT:Hid (L.take (k+1)=L.take k++ [L[k]]):=hDD (List.take_succ_eq_append_getElem hlt)
   have HM:=hDD (List.getElem_mem hlt)
   have HRD:=hDD hr
   have hkI:(k:Int)<(L.length:Int):=by omega
   clear hr
   generalize L[k]=x at*
   have hxl:=HX.out x HM.out
   rcases e1:wordB r x with _ | _
   ·have HE:=hDD fun w (h:ArgI w (.slice A1 x.length cap1) x)=>specIsWord_any r _ x w h hxl
    rw[e1] at HE
    have HF:Hid (res=false):=hDD (by
     rw[HR.out]
     have:L.all (wordB r)=false:=by
      rw[List.all_eq_false]
      exact⟨x,HM.out,by simp[e1]⟩
     rw[this];rfl)
    clear e1 hxl
    go_wp2_with (go_at_call 128;refine(HE.out _ (HRD.out.drewN n).arg).mono ?_;rintro e w1 ⟨rfl,n1,rfl⟩)
    rw[HF.out]
    exact bodyPost_ret (v:= .bool false) (by simp[results,Tryz.results263,go_sem]) rfl ⟨rfl,_,rfl⟩
   ·have HE:=hDD fun w (h:ArgI w (.slice A1 x.length cap1) x)=>specIsWord_any r _ x w h hxl
    rw[e1] at HE
    have HW:=hDD e1
    clear e1 hxl
    go_wp2_with (go_at_call 128;refine(HE.out _ (HRD.out.drewN n).arg).mono ?_;rintro e w1 ⟨rfl,n1,rfl⟩)
    go_roundw
    case rel=>exact⟨k+1,by omega,by go_num,fun y hy=>by
     rw[HT.out] at hy
     rcases List.mem_append.1 hy with hy | hy
     ·exact HNO.out y hy
     ·rw[List.mem_singleton.1 hy];exact HW.out,_,rfl⟩
    case measure=>(first | omega | (simp[intOf];omega))
  ·obtain rfl:k=L.length:=by omega
   have HA:Hid (L.all (wordB r)=true):=hDD (by rw[List.all_eq_true];have:=HNO.out;rwa [List.take_length] at this)
   have HR2:Hid (res=(inB r 1 3&&(decide (L.length≤6)&&decide (lenLL L<40)))):=hDD (by rw[HR.out,HA.out,Bool.true_and])
   rcases e1:inB r 1 3 with _ | _
   ·have HF:Hid (res=false):=hDD (by rw[HR2.out,e1];rfl)
    go_wp2_with (go_at_call 138;refine(l1In_any _ _ _ _).mono ?_;rintro e w' ⟨rfl,rfl⟩)
    rw[HF.out]
    exact bodyPost_ret (v:= .bool false) (by simp[results,Tryz.results263,go_sem]) rfl ⟨rfl,_,rfl⟩
   ·by_cases h6:L.length≤6
    ·have HF:Hid (res=decide (lenLL L<40)):=hDD (by rw[HR2.out,e1,decide_eq_true h6];rfl)
     have h6I:(L.length:Int)≤6:=by omega
     have HTL:=hDD (fun w (h:RdII w (.slice A L.length cap) L)=>specTotalLength_any _ L w h hl hn)
     generalize lenLL L=m at*
     go_wp2_with (first | (go_at_call 138;refine(l1In_any _ _ _ _).mono ?_;rintro e w' ⟨rfl,rfl⟩) | (go_at_call 275;refine(HTL.out _ (H.out.drewN n)).mono ?_;rintro e w' ⟨rfl,rfl⟩))
     rw[HF.out]
     by_cases h40:m<40
     ·have h40I:(m:Int)<40:=by omega
      exact bodyPost_ret (v:= .bool true) (by simp[results,Tryz.results263,go_sem,h40I]) rfl ⟨by rw[decide_eq_true h40],_,rfl⟩
     ·have h40I: ¬(m:Int)<40:=by omega
      exact bodyPost_ret (v:= .bool false) (by simp[results,Tryz.results263,go_sem,h40I]) rfl ⟨by rw[decide_eq_false h40],_,rfl⟩
    ·have HF:Hid (res=false):=hDD (by rw[HR2.out,e1,decide_eq_false h6];rfl)
     have h6I: ¬(L.length:Int)≤6:=by omega
     go_wp2_with (go_at_call 138;refine(l1In_any _ _ _ _).mono ?_;rintro e w' ⟨rfl,rfl⟩)
     rw[HF.out]
     exact bodyPost_ret (v:= .bool false) (by simp[results,Tryz.results263,go_sem]) rfl ⟨rfl,_,rfl⟩
end Go.Proofs.YtnjpoljbagfdnaaGreat
namespace Go.Proofs.YtnjpoljbagfdnaaGreat
set_option maxRecDepth 20000
set_option linter.unusedVariables false
set_option linter.unusedSimpArgs false
open Go.RowKit
set_option maxHeartbeats 4000000 in
theorem specAddPath_nil (v y:Value) (g:GrD) (a b:Int) (w:World) (h:ArgG w v g) (ht:RdI w y []) (hg:grB g=true) (ha:0≤a∧a<g.2.1) (hb:0≤b∧b<g.2.1):
  Calls Tryz.prog 182 #[v, .int .i64 a,y, .int .i64 b] w fun x w'=> ∃r,x= .returned (.tuple #[r, .bool false])∧OwG w' w.heap.size r g∧Below w.heap.size w w':=by
 have HG:=hDD h
 have HY:=hDD ht
 have HGR:=hDD hg
 have HW:=hDD (show wordB g.1 []=true by unfold wordB;rw[inB_iff.2 (grB_parts hg).1];rfl)
 have HA:=hDD ha
 have HBV:=hDD hb
 obtain⟨h13,h40,h120,_⟩:=grB_parts hg
 obtain⟨s,rfl,hi1,hi2,hga⟩:=h
 obtain⟨A,cap,rfl⟩:=hga.form
 obtain⟨T,tc,rfl,_⟩:=ht.arg
 obtain⟨g1,N,es⟩:=g
 simp only at*
 clear hga hg ha hb
 go_enter Tryz.func182,Tryz.ntmps182
 go_wp2_with fail
 obtain⟨W1,hW1⟩: ∃W,W=w.alloc (Obj.cells #[Value.int IntKind.i64 g1,Value.int IntKind.i64 N, .slice A es.length cap] 26):=⟨_,rfl⟩
 rw[←hW1]
 obtain⟨hs1,b1,hc1,_⟩:=gbox hW1
 obtain⟨W,hW⟩: ∃W,W=W1.alloc (Obj.cells #[Value.int IntKind.i64 0,Value.int IntKind.i64 0, .slice none 0 0] 26):=⟨_,rfl⟩
 rw[←hW]
 obtain⟨hs2,b2,hc2,hf2⟩:=gbox hW
 have hsW:W.heap.size=w.heap.size+2:=by omega
 have HC1:=hDD hc1
 have HC2:=hDD hc2
 have HF2:=hDD hf2
 have BX1:=hDD b1
 have BX2:=hDD b2
 have BX:Hid (Below w.heap.size w W):=hDD (b1.trans (b2.mono (by omega)))
 have HCL:Hid (∀w',Below (w.heap.size+2) W w'→w'.cell? ⟨w.heap.size,0,none⟩=some (.int .i64 g1)∧w'.cell? ⟨w.heap.size,1,none⟩=some (.int .i64 N)∧w'.cell? ⟨w.heap.size,2,none⟩=some (.slice A es.length cap)):=hDD fun w' hb=>HC1.out w' ((BX2.out.mono (by omega)).trans (hb.mono (by omega)))
 have HRC:Hid (∀w',Below (w.heap.size+2) W w'→(w'.cell? ⟨w.heap.size+1,0,none⟩=some (.int .i64 0)∧w'.cell? ⟨w.heap.size+1,1,none⟩=some (.int .i64 0)∧w'.cell? ⟨w.heap.size+1,2,none⟩=some (.slice none 0 0))∧ ∀j,w'.frozen? ⟨w.heap.size+1,j,none⟩=false):=hDD fun w' hb=>by
  have e:Below (W1.heap.size+1) W w':=hb.mono (by omega)
  have h1:=HC2.out w' e
  have h2:=fun j=>HF2.out j w' e
  rw[hs1] at h1 h2
  exact⟨h1,h2⟩
 have HAG:Hid (∀w',Below (w.heap.size+2) W w'→ArgG w' (.agg #[.int .i64 g1, .int .i64 N, .slice A es.length cap]) (g1,N,es)):=hDD fun w' hb=>HG.out.below (BX.out.trans (hb.mono (by omega)))
 have HAT:Hid (∀w',Below (w.heap.size+2) W w'→RdI w' (.slice T 0 tc) []):=hDD fun w' hb=>HY.out.below (BX.out.trans (hb.mono (by omega)))
 clear hW1 hW hc1 hc2 hf2 b1 b2 HC1 HC2 HF2 BX1 BX2 hs1 hs2
 obtain⟨q0,q1,q2⟩:=HCL.out W ((Below.refl W.heap.size W).mono (by omega))
 refine(l4Copy_any _ (g1,N,es) W (HAG.out W ((Below.refl W.heap.size W).mono (by omega))) (by simp only;omega)).mono ?_
 clear q0 q1 q2
 rintro e w5 ⟨r,rfl,o5,b5⟩
 have hs5:=b5.size
 have B5:Hid (Below (w.heap.size+2) W w5):=hDD (b5.mono (by omega))
 obtain⟨s1,rfl,_,_,oe5⟩:=o5
 obtain⟨A1,c1,rfl,_⟩:=oe5.form
 simp only at*
 clear b5
 have b6':Below w5.heap.size w5 (w5.alloc (Obj.cells #[Value.int IntKind.i64 g1,Value.int IntKind.i64 N, .slice A1 es.length c1] 26)):=(Below.refl _ _).alloc (Nat.le_refl _) _
 obtain⟨q0,q1,q2⟩:=HCL.out _ (B5.out.trans (b6'.mono (by omega)))
 clear b6'
 go_wp2_with fail
 clear q0 q1 q2
 obtain⟨W6,hW6⟩: ∃W,W=w5.alloc (Obj.cells #[Value.int IntKind.i64 g1,Value.int IntKind.i64 N, .slice A1 es.length c1] 26):=⟨_,rfl⟩
 have GB6:=hDD (GBx.new (m:=(g1,N,es)) oe5 hi1 hi2 hW6)
 obtain⟨hs6,b6,_,_⟩:=gbox hW6
 rw[←hW6]
 have B6:Hid (Below (w.heap.size+2) W W6):=hDD (B5.out.trans (b6.mono (by omega)))
 clear hW6 b6 oe5
 obtain⟨p,hp⟩: ∃p,p=w5.heap.size:=⟨_,rfl⟩
 rw[←hp] at GB6⊢
 have hpw:w.heap.size+2≤p:=by omega
 have hp6:p<W6.heap.size:=by omega
 clear hp hs6 hs5
 have HIG:=hDD (specIsGraph_any _ (g1,N,es) W6 (HAG.out W6 B6.out))
 rw[HGR.out] at HIG
 refine HIG.out.mono ?_
 clear HIG
 rintro e w7 ⟨rfl,b7⟩
 have B7:=hDD (B6.out.trans (b7.mono (by have:=B6.out.size;omega)))
 have GB7:=hDD (GB6.out.below b7)
 clear b7
 obtain⟨q0,q1,q2⟩:=HCL.out w7 B7.out
 have E1:inB a 0 (N-1)=true:=by unfold inB;simp;have:=HA.out;omega
 have E2:inB b 0 (N-1)=true:=by unfold inB;simp;have:=HBV.out;omega
 have EW:=hDD (specIsWord_any g1 _ [] w7 (HAT.out w7 B7.out).arg (by simp))
 rw[HW.out] at EW
 go_wp2_with (go_at_call 138;refine(l1In_any _ _ _ _).mono ?_;rintro e w' ⟨rfl,rfl⟩)
 refine EW.out.mono ?_
 clear EW E1 E2 q0 q1 q2
 rintro e w8 ⟨rfl,nd,rfl⟩
 obtain⟨w8,hw8⟩: ∃W,W=w7.drewN nd:=⟨_,rfl⟩
 rw[←hw8]
 have B8:Hid (Below (w.heap.size+2) W w8):=hDD (by rw[hw8];exact bel_drewN B7.out _)
 have GB8:Hid (GBx w8 p W.heap.size A1 c1 (g1,N,es)):=hDD (by rw[hw8];exact GB7.out.below (bel_drewN (Below.refl _ _) _))
 clear hw8
 obtain⟨q0,q1,q2⟩:=HCL.out w8 B8.out
 have z0:=GB8.out.c0
 have z1:=GB8.out.c1
 have z2:=GB8.out.c2
 simp only at z0 z1 z2
 obtain⟨⟨r0,r1,r2⟩,hrf⟩:=HRC.out w8 B8.out
 have rf0:=hrf 0
 have rf1:=hrf 1
 have rf2:=hrf 2
 clear hrf
 go_wp2
 obtain⟨e0,e1,e2⟩:=cells3F (.int .i64 g1) (.int .i64 N) (.slice A1 es.length c1) r0 r1 r2
 have bw:Below w.heap.size w (((w8.setCell ⟨w.heap.size+1,0,none⟩ (.int .i64 g1)).setCell ⟨w.heap.size+1,1,none⟩ (.int .i64 N)).setCell ⟨w.heap.size+1,2,none⟩ (.slice A1 es.length c1)):=set3_below _ _ _ (BX.out.trans (B8.out.mono (by omega))) (by omega)
 have ow:OwE (((w8.setCell ⟨w.heap.size+1,0,none⟩ (.int .i64 g1)).setCell ⟨w.heap.size+1,1,none⟩ (.int .i64 N)).setCell ⟨w.heap.size+1,2,none⟩ (.slice A1 es.length c1)) W.heap.size (.slice A1 es.length c1) es:=GB8.out.ow.keep fun b hb=>set3_heap _ _ _ _ _ (by have:=(GB8.out.ow.1.lt b hb).1;omega)
 exact bodyPost_ret (v:= .tuple #[.agg #[.int .i64 g1, .int .i64 N, .slice A1 es.length c1], .bool false]) (by simp[results,Tryz.results182,go_sem,e0,e1,e2]) rfl ⟨_,rfl,⟨.slice A1 es.length c1,rfl,hi1,hi2,ow.mono (by omega)⟩,bw⟩
def petG (g:GrD) (t:List Int):GrD:=if t= [] then g else if addOk g t=true then addG g 0 0 t else g
def petB (g:GrD) (t:List Int):Bool:=if t= [] then false else addOk g t
theorem petG_ok {g:GrD} {t:List Int} (hg:grB g=true) (hw:wordB g.1 t=true):grB (petG g t)=true∧(petG g t).1=g.1∧(petG g t).2.2.length≤g.2.2.length+t.length:=by
 have hr:=(grB_parts hg).2.1
 unfold petG
 split
 ·exact⟨hg,rfl,by omega⟩
 ·rename_i h0
  have h0':t.length≠0:=fun q=>h0 (List.eq_nil_of_length_eq_zero q)
  split
  ·rename_i hok
   refine⟨addG_gr hg (by omega) (by omega) hw h0' hok,rfl,?_⟩
   have h1:=srt_len (c:=cmpE) (g.2.2++pthL g.2.1.toNat 0 0 t t.length)
   rw[List.length_append,pthL_len] at h1
   exact h1
  ·exact⟨hg,rfl,by omega⟩
theorem addPath0_any (v y:Value) (g:GrD) (t:List Int) (w:World) (h:ArgG w v g) (ht:RdI w y t) (hg:grB g=true) (hw:wordB g.1 t=true) (hl:t.length≤1073741824):
  Calls Tryz.prog 182 #[v, .int .i64 0,y, .int .i64 0] w fun x w'=> ∃r,x= .returned (.tuple #[r, .bool (petB g t)])∧OwG w' w.heap.size r (petG g t)∧Below w.heap.size w w':=by
 have hr:=(grB_parts hg).2.1
 by_cases h0:t= []
 ·subst h0
  refine(specAddPath_nil v y g 0 0 w h ht hg (by omega) (by omega)).mono fun x w' ⟨r,e,o,b⟩=>⟨r,e,?_,b⟩
  unfold petG;rw[if_pos rfl];exact o
 ·refine(specAddPath_any v y g 0 0 t w h ht hg (by omega) (by omega) hw (fun q=>h0 (List.eq_nil_of_length_eq_zero q)) hl).mono fun x w' ⟨r,e,o,b⟩=>⟨r,?_,?_,b⟩
  ·unfold petB;rw[if_neg h0];exact e
  ·unfold petG;rw[if_neg h0];exact o
set_option maxHeartbeats 2000000 in
theorem specAddPetal_any (v y:Value) (g:GrD) (t:List Int) (w:World) (h:ArgG w v g) (ht:RdI w y t) (hg:grB g=true) (hw:wordB g.1 t=true) (hl:t.length≤1073741824):
  Calls Tryz.prog 129 #[v,y] w fun x w'=> ∃r,x= .returned (.tuple #[r, .bool (petB g t)])∧OwG w' w.heap.size r (petG g t)∧Below w.heap.size w w':=by
 have HP:=hDD (fun W v (h:ArgG W v g) (h':RdI W y t)=>addPath0_any v y g t W h h' hg hw hl)
 generalize petG g t=pg at*
 generalize petB g t=o at*
 have HG:=hDD h
 have HY:=hDD ht
 obtain⟨s,rfl,hi1,hi2,hga⟩:=h
 obtain⟨A,cap,rfl⟩:=hga.form
 obtain⟨T,tc,rfl,_⟩:=ht.arg
 obtain⟨g1,N,es⟩:=g
 obtain⟨p1,p2,ps⟩:=pg
 simp only at*
 clear hga hg hw
 go_enter Tryz.func129,Tryz.ntmps129
 go_wp2_with fail
 obtain⟨W1,hW1⟩: ∃W,W=w.alloc (Obj.cells #[Value.int IntKind.i64 g1,Value.int IntKind.i64 N, .slice A es.length cap] 26):=⟨_,rfl⟩
 rw[←hW1]
 obtain⟨_,b1,s1⟩:=CBx.new hW1
 obtain⟨W2,hW2⟩: ∃W,W=W1.alloc (Obj.cells #[Value.int IntKind.i64 0,Value.int IntKind.i64 0, .slice none 0 0] 26):=⟨_,rfl⟩
 rw[←hW2]
 obtain⟨x2,b2,s2⟩:=CBx.new hW2
 rw[s1] at x2
 have X2:=hDD x2
 have B2:Hid (Below w.heap.size w W2):=hDD (b1.trans (b2.mono (by omega)))
 clear hW1 hW2 b1 b2 x2
 refine(HP.out W2 _ (HG.out.below B2.out) (HY.out.below B2.out)).mono ?_
 rintro e w3 ⟨r,rfl,⟨s3,rfl,hj1,hj2,oe3⟩,b3⟩
 obtain⟨A3,c3,rfl,_⟩:=oe3.form
 simp only at hj1 hj2 oe3⊢
 have O3:=hDD oe3
 have X3:=hDD (X2.out.below b3)
 have B3:=hDD (B2.out.trans (b3.mono (by omega)))
 have hs3:=b3.size
 clear oe3 b3 X2 B2
 have u0:=X3.out.c0
 have u1:=X3.out.c1
 have u2:=X3.out.c2
 have f0:=X3.out.fz 0
 have f1:=X3.out.fz 1
 have f2:=X3.out.fz 2
 have hlt:=X3.out.lt
 go_wp2
 have XF:=X3.out.setv (.int .i64 p1) (.int .i64 p2) (.slice A3 ps.length c3)
 have BF:=set3_below (.int .i64 p1) (.int .i64 p2) (.slice A3 ps.length c3) B3.out (show w.heap.size≤w.heap.size+1 by omega)
 have OF:OwE (((w3.setCell ⟨w.heap.size+1,0,none⟩ (.int .i64 p1)).setCell ⟨w.heap.size+1,1,none⟩ (.int .i64 p2)).setCell ⟨w.heap.size+1,2,none⟩ (.slice A3 ps.length c3)) W2.heap.size (.slice A3 ps.length c3) ps:=O3.out.keep fun c hc=>set3_heap _ _ _ _ _ (by have:=(O3.out.1.lt c hc).1;omega)
 have hsF:=set3_size w3 (w.heap.size+1) (.int .i64 p1) (.int .i64 p2) (.slice A3 ps.length c3)
 generalize ((w3.setCell ⟨w.heap.size+1,0,none⟩ (.int .i64 p1)).setCell ⟨w.heap.size+1,1,none⟩ (.int .i64 p2)).setCell ⟨w.heap.size+1,2,none⟩ (.slice A3 ps.length c3)=w5 at*
 have bz:Below w5.heap.size w5 (w5.alloc (Obj.cells #[Value.int IntKind.i64 p1,Value.int IntKind.i64 p2, .slice A3 ps.length c3] 26)):=(Below.refl _ _).alloc (Nat.le_refl _) _
 have e0:=(XF.below bz).c0
 have e1:=(XF.below bz).c1
 have e2:=(XF.below bz).c2
 exact bodyPost_ret (v:= .tuple #[.agg #[.int .i64 p1, .int .i64 p2, .slice A3 ps.length c3], .bool o]) (by simp[results,Tryz.results129,go_sem,e0,e1,e2]) rfl ⟨_,rfl,⟨_,rfl,hj1,hj2,(OF.below bz).mono (by omega)⟩,BF.trans (bz.mono (by omega))⟩
end Go.Proofs.YtnjpoljbagfdnaaGreat
namespace Go.Proofs.YtnjpoljbagfdnaaGreat
set_option maxRecDepth 20000
set_option linter.unusedVariables false
set_option linter.unusedSimpArgs false
open Go.RowKit
def isT (W:World) (q:Nat) (t:TypeId):Prop:= ∃arr fr,W.heap[q]? =some (.cells arr t fr)
theorem isT.lt {W:World} {q:Nat} {t:TypeId} (h:isT W q t):q<W.heap.size:=by
 obtain⟨_,_,h⟩:=h
 rcases Nat.lt_or_ge q W.heap.size with h' | h'
 ·exact h'
 ·rw[Array.getElem?_eq_none h'] at h;cases h
theorem isT.new (w:World) (arr:Array Value) (t:TypeId):isT (w.alloc (.cells arr t)) w.heap.size t:=⟨arr,(0,0),by show(w.heap.push _)[w.heap.size]? =_;simp⟩
theorem isT.below {W W':World} {q:Nat} {t:TypeId} (h:isT W q t) (hb:Below W.heap.size W W'):isT W' q t:=by
 have:=h.lt
 obtain⟨a,f,h⟩:=h
 exact⟨a,f,(hb.block q this).trans h⟩
theorem isT.set {W:World} {q:Nat} {t:TypeId} (h:isT W q t) (a:Addr) (v:Value):isT (W.setCell a v) q t:=by
 obtain⟨c,f,h⟩:=h
 by_cases e:a.block=q
 ·subst e
  refine⟨if a.spot.isSome then c else c.setIfInBounds a.off v,f,?_⟩
  show(W.heap.modify a.block _)[a.block]? =_
  rw[Array.getElem?_modify,if_pos rfl,h]
  rfl
 ·refine⟨c,f,?_⟩
  show(W.heap.modify a.block _)[q]? =_
  rw[Array.getElem?_modify,if_neg e,h]
theorem OwE.notG {W:World} {base q:Nat} {v:Value} {es:List EdD} (h:OwE W base v es) (hq:isT W q 26): ∀b,v.ownBlock=some b→b≠q:=fun b hb e=>by
 subst e
 obtain⟨c,f,hq⟩:=hq
 rcases h.1.2 with ⟨hv,_⟩ | ⟨g,cap,cur,hv,_,hh,_⟩
 ·rw[hv] at hb;cases hb
 ·rw[hv] at hb
  have:g=b:=by simpa[Value.ownBlock] using hb
  subst this
  rw[hh] at hq
  injection hq with hq
  injection hq with _ e2 _
  exact absurd e2 (by decide)
def floF (r:Int) (L:List (List Int)):GrD:=L.foldl petG (r,1,[])
theorem areW_parts {r:Int} {L:List (List Int)} (h:areW r L=true):(∀x∈L,wordB r x=true)∧(1≤r∧r≤3)∧L.length≤6∧lenLL L<40:=by
 unfold areW at h
 simp only[Bool.and_eq_true,List.all_eq_true,decide_eq_true_eq] at h
 exact⟨h.1,inB_iff.1 h.2.1,h.2.2.1,h.2.2.2⟩
theorem flo_ok {r:Int} {L:List (List Int)} (hr:1≤r∧r≤3) (h: ∀x∈L,wordB r x=true): ∀k,k≤L.length→grB ((L.take k).foldl petG (r,1,[]))=true∧((L.take k).foldl petG (r,1,[])).1=r
 | 0,_=>⟨grB_of hr ⟨show(1:Int)≤1 by decide,show(1:Int)≤40 by decide⟩ (by simp) List.Pairwise.nil (fun _ h=>by cases h),rfl⟩
 | k+1,hk=>by
   have ih:=flo_ok hr h k (by omega)
   rw[List.take_succ_eq_append_getElem (by omega),List.foldl_append]
   have hx:=h _ (List.getElem_mem (show k<L.length by omega))
   rw[←ih.2] at hx
   have:=petG_ok ih.1 hx
   exact⟨this.1,this.2.1.trans ih.2⟩
theorem isT.set3 {W:World} {q:Nat} {t:TypeId} (h:isT W q t) (p:Nat) (a b c:Value):isT (((W.setCell ⟨p,0,none⟩ a).setCell ⟨p,1,none⟩ b).setCell ⟨p,2,none⟩ c) q t:=((h.set _ _).set _ _).set _ _
theorem len_mem_LL {x:List Int}: ∀ {L:List (List Int)},x∈L→x.length≤lenLL L
 | a::L,h=>by
   unfold lenLL
   simp only[List.map_cons,List.sum_cons]
   rcases List.mem_cons.1 h with rfl | h
   ·omega
   ·have:=len_mem_LL h
    unfold lenLL at this
    omega
set_option maxRecDepth 100000 in
set_option maxHeartbeats 4000000 in
theorem specFlowerOf_any (r:Int) (v:Value) (L:List (List Int)) (w:World) (h:RdII w v L) (hW:areW r L=true):
  Calls Tryz.prog 238 #[.int .i64 r,v] w fun x w'=> ∃rv,x= .returned (.tuple #[rv, .bool true])∧OwG w' w.heap.size rv (floF r L)∧Below w.heap.size w w':=by
 obtain⟨hwd,hr,hL6,hL40⟩:=areW_parts hW
 have hlen: ∀x∈L,x.length≤1073741824:=fun x hx=>by
  have:=len_mem_LL hx
  omega
 have HWD:=hDD hwd
 have HLN:=hDD hlen
 have HFO:=hDD (fun k hk=>flo_ok hr hwd k hk)
 have HAW:=hDD (fun W (h:RdII W v L)=>specAreWords_any r v L W h (by omega) (by omega) hlen)
 rw[hW] at HAW
 have H:=hDD h
 have hrI:I64 r:=⟨by omega,by omega⟩
 have hinr:inB r 1 3=true:=inB_iff.2 hr
 have HNG:=hDD (fun W=>specNewGraph_any r W hrI)
 rw[hinr] at HNG
 simp only[if_true] at HNG
 obtain⟨A,cap,rfl,hcap,hm,_⟩:=h.form
 unfold maxLen at hm
 clear h hW hwd hlen hinr
 go_enter Tryz.func238,Tryz.ntmps238
 go_wp2_with fail
 obtain⟨W0,hW0⟩: ∃W,W=w.alloc (Obj.cells #[Value.int IntKind.i64 0,Value.int IntKind.i64 0, .slice none 0 0] 26):=⟨_,rfl⟩
 rw[←hW0]
 obtain⟨xb,b0,s0⟩:=CBx.new hW0
 clear hW0
 have XB:=hDD xb
 have B0:=hDD b0
 clear xb b0
 refine(HAW.out _ (H.out.below B0.out)).mono ?_
 rintro e w1 ⟨rfl,nd,rfl⟩
 obtain⟨w1,hw1⟩: ∃W,W=W0.drewN nd:=⟨_,rfl⟩
 rw[←hw1]
 have bd:Below W0.heap.size W0 w1:=by rw[hw1];exact bel_drewN (Below.refl _ _) _
 have X1:=hDD (XB.out.below bd)
 have B1:=hDD (B0.out.trans (bd.mono (by omega)))
 have hs1:=bd.size
 clear hw1 bd XB B0 HAW
 go_wp2_with fail
 refine(HNG.out w1).mono ?_
 rintro e w2 ⟨rfl,b2⟩
 have X2:=hDD (X1.out.below b2)
 have B2:=hDD (B1.out.trans (b2.mono (by omega)))
 have hs2:=b2.size
 clear b2 X1 B1 HNG
 go_wp2_with fail
 obtain⟨W3,hW3⟩: ∃W,W=w2.alloc (Obj.cells #[Value.int IntKind.i64 r,Value.int IntKind.i64 1, .slice none 0 0] 26):=⟨_,rfl⟩
 have g3:GBx W3 w2.heap.size (w.heap.size+1) none 0 (r,1,[]):=GBx.new (base:=w.heap.size+1) (m:=(r,1,[])) OwE.nil hrI (show I64 1 from⟨by omega,by omega⟩) hW3
 obtain⟨_,b3,s3⟩:=CBx.new hW3
 rw[←hW3]
 have G3:=hDD g3
 have X3:=hDD (X2.out.below b3)
 have B3:=hDD (B2.out.trans (b3.mono (by omega)))
 clear hW3 g3 b3 X2 B2
 generalize hb:w2.heap.size=b at*
 have hbw:w.heap.size+1≤b:=by omega
 clear hb hs2 hs1
 go_loopw [8] (fun nv wr=> ∃(k:Nat) (Ar:Option Addr) (cr:Nat),k≤L.length∧nv= .int .i64 k∧GBx wr b (w.heap.size+1) Ar cr ((L.take k).foldl petG (r,1,[]))∧CBx wr w.heap.size (.int .i64 0) (.int .i64 0) (.slice none 0 0)∧Below w.heap.size w wr) (fun nv _=>L.length-(intOf nv).toNat)
 case atStart=>exact⟨0,none,0,Nat.zero_le _,rfl,G3.out,X3.out,B3.out⟩
 case round=>
  obtain⟨k,Ar,cr,hk,rfl,hG,hX,hB⟩:=hrel
  have HGO:=hDD (HFO.out k hk)
  have HG:=hDD hG
  have HX:=hDD hX
  have HB:=hDD hB
  have hsr:=hB.size
  have hbr:=hG.lt
  clear hG hX hB
  by_cases hlt:k<L.length
  ·obtain⟨lb,off,A1,cap1,rfl,hlb,hc,_,_,hrd⟩:=(H.out.below HB.out).at hlt
   have HRD:=hDD hrd
   have HC:=hDD hc
   have HT:Hid ((L.take (k+1)).foldl petG (r,1,[])=petG ((L.take k).foldl petG (r,1,[])) L[k]):=hDD (by rw[List.take_succ_eq_append_getElem hlt,List.foldl_append];rfl)
   have HM:=hDD (List.getElem_mem hlt)
   have hkI:(k:Int)<(L.length:Int):=by omega
   clear hrd hc
   generalize (L.take k).foldl petG (r,1,[])=g at*
   generalize L[k]=x at*
   have hxl:=HLN.out x HM.out
   have HPE:=hDD (fun W v (h:ArgG W v g) (h':RdI W (.slice A1 x.length cap1) x)=>specAddPetal_any v _ g x W h h' HGO.out.1 (by rw[HGO.out.2];exact HWD.out x HM.out) hxl)
   generalize petG g x=pg at*
   generalize petB g x=o at*
   obtain⟨g1,M,es⟩:=g
   obtain⟨p1,p2,ps⟩:=pg
   simp only at*
   go_wp2_with fail
   refine wp_region_gen [.val (.agg #[.int .i64 g1, .int .i64 M, .slice Ar es.length cr]), .val (.slice (some ⟨lb,off,none⟩) L.length cap), .val (.int .i64 k), .val (.pointer (some ⟨lb,off+k,none⟩)), .val (.slice A1 x.length cap1),
     .mem (fun _ W v=> ∃A' c',v= .tuple #[.agg #[.int .i64 p1, .int .i64 p2, .slice A' ps.length c'], .bool o]∧I64 p1∧I64 p2∧OwE W wr.heap.size (.slice A' ps.length c') ps),
     .pur (fun us v=>v=us 5), .pur (fun us v=> ∃A' c',us 5= .tuple #[.agg #[.int .i64 p1, .int .i64 p2, .slice A' ps.length c'], .bool o]∧v= .agg #[.int .i64 p1, .int .i64 p2, .slice A' ps.length c']), .pur (fun _ v=>v= .bool o),
     .mem (fun _ W v=> ∃q x y z,v= .pointer (some ⟨q,0,none⟩)∧wr.heap.size≤q∧CBx W q x y z∧isT W q 26),
     .mem (fun us W _=> ∃q A' c',us 9= .pointer (some ⟨q,0,none⟩)∧wr.heap.size≤q∧us 5= .tuple #[.agg #[.int .i64 p1, .int .i64 p2, .slice A' ps.length c'], .bool o]∧CBx W q (.int .i64 p1) (.int .i64 p2) (.slice A' ps.length c')),
     .pur (fun _ v=>v= .bool o)]
    [none,none,none,none,none,some (fun W W'=>Below W.heap.size W W'),none,none,none,some (fun W W'=>Below W.heap.size W W'),some (fun W W'=> ∃q x y z,wr.heap.size≤q∧isT W q 26∧W'=((W.setCell ⟨q,0,none⟩ x).setCell ⟨q,1,none⟩ y).setCell ⟨q,2,none⟩ z),none]
    (fun W=>Below wr.heap.size wr W) [(5,9),(5,10),(9,5),(9,10)] (by kernel_rfl) (by kernel_rfl) (by rfl) (by rfl)
    (Below.refl _ _).drew
    ⟨fun _ _ h t=>h.trans (t.mono h.size),fun _ _ h t=>h.trans (t.mono h.size),fun _ _ h ⟨q,x,y,z,hq,_,e⟩=>by rw[e];exact set3_below x y z h hq,trivial⟩
    ⟨fun _ _ _ _ _ _ t ⟨A',c',e,i1,i2,o⟩=>⟨A',c',e,i1,i2,o.below t⟩,
     fun _ _ _ _ _ _ ⟨q,_,_,_,_,hq,e'⟩ ⟨A',c',e,i1,i2,o⟩=>by rw[e'];exact⟨A',c',e,i1,i2,o.keep fun d hd=>set3_heap _ _ _ _ _ (o.notG hq d hd)⟩,
     fun _ _ _ _ _ _ t ⟨q,x,y,z,e,hq,c,ht⟩=>⟨q,x,y,z,e,hq,c.below t,ht.below t⟩,
     fun _ _ _ _ _ _ ⟨q',a,b,c',_,_,e'⟩ ⟨q,x,y,z,e,hq,c,ht⟩=>(by rw[e'];obtain⟨x',y',z',h'⟩:=c.any (q:=q') a b c';exact⟨q,x',y',z',e,hq,h',ht.set3 _ _ _ _⟩),trivial⟩ (fun vs=> ?_)
   refine⟨fun W' K' Q0 hI hD hK=> ?_,?_⟩
   ·have z0:=(HG.out.below hI.out).c0
    have z1:=(HG.out.below hI.out).c1
    have z2:=(HG.out.below hI.out).c2
    go_simp
    exact hK.out _ _ rfl rfl
   simp only[Act.put,List.setIfInBounds_toArray,List.set_cons_zero,List.set_cons_succ,Sg.pick,Nat.reduceAdd]
   refine⟨fun W' K' Q0 hI hD hK=> ?_,?_⟩
   ·skip
    go_simp
    exact hK.out _ _ rfl rfl
   simp only[Act.put,List.setIfInBounds_toArray,List.set_cons_zero,List.set_cons_succ,Sg.pick,Nat.reduceAdd]
   refine⟨fun W' K' Q0 hI hD hK=> ?_,?_⟩
   ·skip
    go_simp
    exact hK.out _ _ rfl rfl
   simp only[Act.put,List.setIfInBounds_toArray,List.set_cons_zero,List.set_cons_succ,Sg.pick,Nat.reduceAdd]
   refine⟨fun W' K' Q0 hI hD hK=> ?_,?_⟩
   ·skip
    go_simp
    exact hK.out _ _ rfl rfl
   simp only[Act.put,List.setIfInBounds_toArray,List.set_cons_zero,List.set_cons_succ,Sg.pick,Nat.reduceAdd]
   refine⟨fun W' K' Q0 hI hD hK=> ?_,?_⟩
   ·have z0:=(hI.out.cell (p:=⟨lb,off+k,none⟩) hlb).trans HC.out
    go_simp
    exact hK.out _ _ rfl rfl
   simp only[Act.put,List.setIfInBounds_toArray,List.set_cons_zero,List.set_cons_succ,Sg.pick,Nat.reduceAdd]
   refine⟨fun W' K' Q0 hI hD hK=> ?_,?_⟩
   ·skip
    go_simp
    refine(HPE.out _ _ (HG.out.below hI.out).arg (HRD.out.below hI.out)).mono ?_;rintro e w' ⟨rv,rfl,⟨s,rfl,i1,i2,oe⟩,b'⟩;obtain⟨A',c',rfl,_⟩:=oe.form;exact hK.out _ _ b' ⟨A',c',rfl,i1,i2,oe.mono hI.out.size⟩
   simp only[Act.put,List.setIfInBounds_toArray,List.set_cons_zero,List.set_cons_succ,Sg.pick,Nat.reduceAdd]
   refine⟨fun W' K' Q0 hI hD hK=> ?_,?_⟩
   ·skip
    go_simp
    exact hK.out _ _ rfl rfl
   simp only[Act.put,List.setIfInBounds_toArray,List.set_cons_zero,List.set_cons_succ,Sg.pick,Nat.reduceAdd]
   refine⟨fun W' K' Q0 hI hD hK=> ?_,?_⟩
   ·obtain⟨A',c',e5,_⟩:=(show ∃A' c',vs 5= .tuple #[.agg #[.int .i64 p1, .int .i64 p2, .slice A' ps.length c'], .bool o]∧I64 p1∧I64 p2∧OwE W' wr.heap.size (.slice A' ps.length c') ps from hD.out 5 (by kernel_rfl))
    have e6:=(show vs 6=maskV _ 6 vs 5 from hD.out 6 (by kernel_rfl))
    rw[mask_at (by kernel_rfl),e5] at e6
    rw[e6,e5] at hK⊢
    go_simp
    exact hK.out _ _ rfl ⟨A',c',(mask_at (by kernel_rfl)).trans e5,rfl⟩
   simp only[Act.put,List.setIfInBounds_toArray,List.set_cons_zero,List.set_cons_succ,Sg.pick,Nat.reduceAdd]
   refine⟨fun W' K' Q0 hI hD hK=> ?_,?_⟩
   ·obtain⟨A',c',e5,_⟩:=(show ∃A' c',vs 5= .tuple #[.agg #[.int .i64 p1, .int .i64 p2, .slice A' ps.length c'], .bool o]∧I64 p1∧I64 p2∧OwE W' wr.heap.size (.slice A' ps.length c') ps from hD.out 5 (by kernel_rfl))
    have e6:=(show vs 6=maskV _ 6 vs 5 from hD.out 6 (by kernel_rfl))
    rw[mask_at (by kernel_rfl),e5] at e6
    rw[e6,e5] at hK⊢
    go_simp
    exact hK.out _ _ rfl rfl
   simp only[Act.put,List.setIfInBounds_toArray,List.set_cons_zero,List.set_cons_succ,Sg.pick,Nat.reduceAdd]
   refine⟨fun W' K' Q0 hI hD hK=> ?_,?_⟩
   ·skip
    go_simp
    exact hK.out _ _ ((Below.refl _ _).alloc (Nat.le_refl _) _) ⟨_,_,_,_,rfl,hI.out.size,(CBx.new rfl).1,isT.new _ _ _⟩
   simp only[Act.put,List.setIfInBounds_toArray,List.set_cons_zero,List.set_cons_succ,Sg.pick,Nat.reduceAdd]
   refine⟨fun W' K' Q0 hI hD hK=> ?_,?_⟩
   ·obtain⟨q,a0,a1,a2,e9,hq,hc,ht⟩:=(show ∃q x y z,vs 9= .pointer (some ⟨q,0,none⟩)∧wr.heap.size≤q∧CBx W' q x y z∧isT W' q 26 from hD.out 9 (by kernel_rfl))
    obtain⟨A',c',e5,e7⟩:=(show ∃A' c',maskV _ 7 vs 5= .tuple #[.agg #[.int .i64 p1, .int .i64 p2, .slice A' ps.length c'], .bool o]∧vs 7= .agg #[.int .i64 p1, .int .i64 p2, .slice A' ps.length c'] from hD.out 7 (by kernel_rfl))
    rw[mask_at (by kernel_rfl)] at e5
    rw[e7,e9,e5] at hK⊢
    have z0:=hc.c0
    have z1:=hc.c1
    have z2:=hc.c2
    have u0:=hc.fz 0
    have u1:=hc.fz 1
    have u2:=hc.fz 2
    go_simp
    exact hK.out undef _ ⟨q,_,_,_,hq,ht,rfl⟩ ⟨q,A',c',(mask_at (by kernel_rfl)).trans e9,hq,(mask_at (by kernel_rfl)).trans e5,hc.setv _ _ _⟩
   simp only[Act.put,List.setIfInBounds_toArray,List.set_cons_zero,List.set_cons_succ,Sg.pick,Nat.reduceAdd]
   refine⟨fun W' K' Q0 hI hD hK=> ?_,?_⟩
   ·have e8:=(show vs 8= .bool o from hD.out 8 (by kernel_rfl))
    rw[e8] at hK⊢
    go_simp
    exact hK.out _ _ rfl rfl
   simp only[Act.put,List.setIfInBounds_toArray,List.set_cons_zero,List.set_cons_succ,Sg.pick,Nat.reduceAdd]
   intro W9 hI9 hD9
   obtain⟨q,A9,c9,e9,hq,e5,hc⟩:=(show ∃q A' c',maskV _ 10 vs 9= .pointer (some ⟨q,0,none⟩)∧wr.heap.size≤q∧maskV _ 10 vs 5= .tuple #[.agg #[.int .i64 p1, .int .i64 p2, .slice A' ps.length c'], .bool o]∧CBx W9 q (.int .i64 p1) (.int .i64 p2) (.slice A' ps.length c') from hD9.out 10 (by decide))
   rw[mask_at (by kernel_rfl)] at e9 e5
   obtain⟨A',c',e5',i1,i2,oe⟩:=(show ∃A' c',vs 5= .tuple #[.agg #[.int .i64 p1, .int .i64 p2, .slice A' ps.length c'], .bool o]∧I64 p1∧I64 p2∧OwE W9 wr.heap.size (.slice A' ps.length c') ps from hD9.out 5 (by decide))
   rw[e5] at e5'
   injection e5' with e5'
   simp at e5'
   obtain⟨rfl,rfl⟩:=e5'
   rw[e9]
   have I9:=hDD hI9.out
   have OE:=hDD oe
   have G9:=hDD (HG.out.below I9.out)
   have X9:=hDD (HX.out.below I9.out)
   clear hD9 hI9 oe e5 e9
   have z0:=G9.out.c0
   have z1:=G9.out.c1
   have z2:=G9.out.c2
   have f0:=G9.out.fz 0
   have f1:=G9.out.fz 1
   have f2:=G9.out.fz 2
   have v0:=hc.c0
   have v1:=hc.c1
   have v2:=hc.c2
   simp only at z0 z1 z2
   go_wp2
   go_roundw
   case rel=>
    refine⟨k+1,A9,c9,by omega,by go_num,?_,X9.out.other (by omega),set3_below _ _ _ (HB.out.trans (I9.out.mono hsr)) (by omega)⟩
    rw[HT.out]
    exact(G9.out.set (m:=(p1,p2,ps)) OE.out (fun b' hb'=>by have:=(OE.out.1.lt b' hb').1;omega) i1 i2).mono (by omega)
   case measure=>(first | omega | (simp[intOf];omega))
  ·obtain rfl:k=L.length:=by omega
   rw[List.take_length] at HG HGO
   have HF:Hid (floF r L=L.foldl petG (r,1,[])):=hDD rfl
   generalize L.foldl petG (r,1,[])=g at*
   obtain⟨g1,M,es⟩:=g
   have x0:=HX.out.c0
   have x1:=HX.out.c1
   have x2:=HX.out.c2
   have f0:=HX.out.fz 0
   have f1:=HX.out.fz 1
   have f2:=HX.out.fz 2
   have y0:=HG.out.c0
   have y1:=HG.out.c1
   have y2:=HG.out.c2
   simp only at y0 y1 y2
   go_wp2
   have XF:=HX.out.setv (.int .i64 g1) (.int .i64 M) (.slice Ar es.length cr)
   have e0:=XF.c0
   have e1:=XF.c1
   have e2:=XF.c2
   exact bodyPost_ret (v:= .tuple #[.agg #[.int .i64 g1, .int .i64 M, .slice Ar es.length cr], .bool true]) (by simp[results,Tryz.results238,go_sem,e0,e1,e2]) rfl ⟨_,rfl,by rw[HF.out];exact⟨_,rfl,HG.out.i1,HG.out.i2,(HG.out.ow.keep fun c hc=>set3_heap _ _ _ _ _ (by have:=(HG.out.ow.1.lt c hc).1;omega)).mono (by omega)⟩,set3_below _ _ _ HB.out (Nat.le_refl _)⟩
end Go.Proofs.YtnjpoljbagfdnaaGreat
namespace Go.Proofs.YtnjpoljbagfdnaaGreat
set_option maxRecDepth 20000
set_option linter.unusedVariables false
set_option linter.unusedSimpArgs false
open Go.RowKit
theorem floF_ok {r:Int} {L:List (List Int)} (h:areW r L=true):grB (floF r L)=true:=by
 obtain⟨hwd,hr,_,_⟩:=areW_parts h
 have:=(flo_ok hr hwd L.length (Nat.le_refl _)).1
 rwa [List.take_length] at this
theorem sub_ok {r:Int} {L:List (List Int)} (h:areW r L=true):coreB (coreG (floF r L))=true:=coreB_coreG (floF_ok h)
theorem areW_of {r:Int} {L:List (List Int)} (hr1:1≤r) (hr3:r≤3) (hl:L.length≤6) (h:WdL r 5 L):areW r L=true:=by
 unfold areW
 rw[inB_iff.2 ⟨hr1,hr3⟩,decide_eq_true hl]
 have h1:L.all (wordB r)=true:=by
  rw[List.all_eq_true]
  intro x hx
  obtain⟨_,hlr,hred⟩:=h x hx
  exact wordB_true (inB_iff.2 ⟨hr1,hr3⟩) (by have:=(h x hx).1;omega) fun i hi=>okAt_red hred (fun y hy=>by
   obtain⟨y0,y1,y2⟩:=hlr y hy
   unfold letB
   rw[show wrap64 (-r)= -r from IntWalk.wrap64_in _ ⟨by omega,by omega⟩,inB_iff.2 ⟨by omega,y2⟩]
   simpa using y0) i hi
 have h2:lenLL L≤5*L.length:=by
  unfold lenLL
  clear h1 hl
  induction L with
  | nil=>simp
  | cons a l ih=>
    have h1:=(h a List.mem_cons_self).1
    have h2:=ih fun x hx=>h x (List.mem_cons_of_mem _ hx)
    simp only[List.map_cons,List.sum_cons,List.length_cons]
    omega
 rw[h1,decide_eq_true (by omega)]
 rfl
set_option maxHeartbeats 4000000 in
theorem specSubgroupOf_any (r:Int) (v:Value) (L:List (List Int)) (w:World) (h:RdII w v L) (hW:areW r L=true):
  Calls Tryz.prog 223 #[.int .i64 r,v] w fun x w'=> ∃rv,x= .returned (.tuple #[rv, .bool true])∧OwG w' w.heap.size rv (coreG (floF r L))∧Below w.heap.size w w':=by
 have H:=hDD h
 have HFL:=hDD (fun W (h:RdII W v L)=>specFlowerOf_any r v L W h hW)
 have HGR:=hDD (floF_ok hW)
 obtain⟨A,cap,rfl,hcap,hm,_⟩:=h.form
 clear h hW
 generalize floF r L=pg at*
 have HCO:=hDD (fun W v (h:ArgG W v pg)=>specCoreGraph_any v pg W h HGR.out)
 generalize coreG pg=qg at*
 obtain⟨p1,p2,ps⟩:=pg
 obtain⟨q1,q2,qs⟩:=qg
 go_enter Tryz.func223,Tryz.ntmps223
 go_wp2_with fail
 obtain⟨W0,hW0⟩: ∃W,W=w.alloc (Obj.cells #[Value.int IntKind.i64 0,Value.int IntKind.i64 0, .slice none 0 0] 26):=⟨_,rfl⟩
 rw[←hW0]
 obtain⟨xb,b0,s0⟩:=CBx.new hW0
 clear hW0
 have XB:=hDD xb
 have B0:=hDD b0
 clear xb b0
 refine(HFL.out _ (H.out.below B0.out)).mono ?_
 rintro e w1 ⟨rv,rfl,⟨s1,rfl,i1,i2,oe1⟩,b1⟩
 obtain⟨A1,c1,rfl,_⟩:=oe1.form
 simp only at i1 i2 oe1⊢
 have X1:=hDD (XB.out.below b1)
 have B1:=hDD (B0.out.trans (b1.mono (by omega)))
 have OE1:=hDD oe1
 have hs1:=b1.size
 clear oe1 b1 XB B0 HFL
 go_wp2_with fail
 obtain⟨W2,hW2⟩: ∃W,W=w1.alloc (Obj.cells #[Value.int IntKind.i64 p1,Value.int IntKind.i64 p2, .slice A1 ps.length c1] 26):=⟨_,rfl⟩
 rw[←hW2]
 have g2:=GBx.new (m:=(p1,p2,ps)) OE1.out i1 i2 hW2
 obtain⟨_,b2,s2⟩:=CBx.new hW2
 have G2:=hDD g2
 have X2:=hDD (X1.out.below b2)
 have B2:=hDD (B1.out.trans (b2.mono (by omega)))
 clear hW2 g2 b2 X1 B1 OE1
 refine(HCO.out W2 _ G2.out.arg).mono ?_
 rintro e w3 ⟨rv,rfl,⟨s3,rfl,j1,j2,oe3⟩,b3⟩
 obtain⟨A3,c3,rfl,_⟩:=oe3.form
 simp only at j1 j2 oe3⊢
 have X3:=hDD (X2.out.below b3)
 have B3:=hDD (B2.out.trans (b3.mono (by omega)))
 have OE3:=hDD oe3
 clear oe3 b3 X2 B2
 have u0:=X3.out.c0
 have u1:=X3.out.c1
 have u2:=X3.out.c2
 have f0:=X3.out.fz 0
 have f1:=X3.out.fz 1
 have f2:=X3.out.fz 2
 go_wp2
 have XF:=X3.out.setv (.int .i64 q1) (.int .i64 q2) (.slice A3 qs.length c3)
 have e0:=XF.c0
 have e1:=XF.c1
 have e2:=XF.c2
 exact bodyPost_ret (v:= .tuple #[.agg #[.int .i64 q1, .int .i64 q2, .slice A3 qs.length c3], .bool true]) (by simp[results,Tryz.results223,go_sem,e0,e1,e2]) rfl ⟨_,rfl,⟨_,rfl,j1,j2,(OE3.out.keep fun c hc=>set3_heap _ _ _ _ _ (by have:=(OE3.out.1.lt c hc).1;omega)).mono (by omega)⟩,set3_below _ _ _ B3.out (Nat.le_refl _)⟩
set_option maxHeartbeats 4000000 in
theorem l9Sub_any (p:Nat) (A:Option Addr) (cap:Nat) (cs:List Int) (w:World) (h:Cur p A cap cs w):
  Calls Tryz.prog 194 #[.pointer (some ⟨p,0,none⟩)] w fun e w'=> ∃v g,e= .returned v∧OwG w' w.heap.size v g∧coreB g=true∧Cur p A cap cs w'∧Tr p (p+1) w w':=by
 have H:=hDD h
 have hp:=h.lt
 clear h
 go_enter Tryz.func194,Tryz.ntmps194
 go_wp2_with fail
 obtain⟨W0,hW0⟩: ∃W,W=w.alloc (Obj.cells #[Value.int IntKind.i64 0,Value.int IntKind.i64 0, .slice none 0 0] 26):=⟨_,rfl⟩
 rw[←hW0]
 obtain⟨xb,b0,s0⟩:=CBx.new hW0
 clear hW0
 have XB:=hDD xb
 have I0:Hid (DrI p A cap cs w W0):=hDD ((DrI.refl H.out).bel b0)
 clear xb b0
 have RA:Hid (RdI (W0.alloc (Obj.cells #[.int .i64 1, .int .i64 2, .int .i64 2, .int .i64 2, .int .i64 2, .int .i64 3] 3)) (.slice (some ⟨W0.heap.size,0,none⟩) 6 6) [1,2,2,2,2,3]):=hDD (OwI_lit W0 [1,2,2,2,2,3] (by intro y hy;simp at hy;rcases hy with rfl | rfl | rfl<;>(unfold I64;omega)) (by simp) (Nat.le_refl _)).rd
 have IA:=hDD (I0.out.bel ((Below.refl _ _).alloc (Nat.le_refl _) (Obj.cells #[.int .i64 1, .int .i64 2, .int .i64 2, .int .i64 2, .int .i64 2, .int .i64 3] 3)))
 have XA:=hDD (XB.out.below ((Below.refl _ _).alloc (Nat.le_refl _) (Obj.cells #[.int .i64 1, .int .i64 2, .int .i64 2, .int .i64 2, .int .i64 2, .int .i64 3] 3)))
 have hneA:(Value.slice (some ⟨W0.heap.size,0,none⟩) 6 6).ownBlock≠some p:=fun e=>by simp[Value.ownBlock] at e;omega
 rw[←s0]
 (with_reducible refine(l1PickInt_any p A cap cs _ [1,2,2,2,2,3] _ IA.out.cur RA.out hneA (by simp) (by simp)).mono ?_)
 rintro e w1 ⟨r,rfl,hr,c1,t1⟩
 have I1:=hDD (IA.out.to t1 c1)
 have X1:=hDD (XA.out.trP t1 (by omega))
 have hr1:1≤r:=by simp at hr;omega
 have hr3:r≤3:=by simp at hr;omega
 clear c1 t1 IA RA hr hneA XA I0 XB
 go_wp2_with fail
 refine(l6Words_any p A cap cs r _ I1.out.cur hr1 hr3).mono ?_
 rintro e w2 ⟨v2,L,rfl,o2,⟨hL3,hWD⟩,c2,t2⟩
 have hW:=areW_of hr1 hr3 (by omega) hWD
 have HSU:=hDD (specSubgroupOf_any r v2 L w2 o2.rd hW)
 have HCB:=hDD (sub_ok hW)
 have I2:=hDD (I1.out.to t2 c2)
 have X2:=hDD (X1.out.trP t2 (by omega))
 obtain⟨A2,m2,cp2,rfl⟩:=OwII_any o2
 clear c2 t2 o2 hWD hW I1 X1
 generalize coreG (floF r L)=qg at*
 obtain⟨q1,q2,qs⟩:=qg
 go_wp2_with fail
 refine HSU.out.mono ?_
 rintro e w3 ⟨rv,rfl,⟨s3,rfl,j1,j2,oe3⟩,b3⟩
 obtain⟨A3,c3,rfl,_⟩:=oe3.form
 simp only at j1 j2 oe3⊢
 have X3:=hDD (X2.out.below b3)
 have I3:=hDD (I2.out.bel b3)
 have OE3:=hDD oe3
 have hs2:=X2.out.lt
 have hs3:=b3.size
 clear oe3 b3 X2 I2 HSU
 obtain⟨W4,hW4⟩: ∃W,W=w3.alloc (Obj.cells #[Value.int IntKind.i64 q1,Value.int IntKind.i64 q2, .slice A3 qs.length c3] 26):=⟨_,rfl⟩
 have g4:=GBx.new (m:=(q1,q2,qs)) OE3.out j1 j2 hW4
 obtain⟨_,b4,s4⟩:=CBx.new hW4
 have X4:=X3.out.below b4
 have u0:=X4.c0
 have u1:=X4.c1
 have u2:=X4.c2
 have f0:=X4.fz 0
 have f1:=X4.fz 1
 have f2:=X4.fz 2
 rw[hW4] at u0 u1 u2 f0 f1 f2
 have G4:=hDD g4
 have I4:=hDD (I3.out.bel b4)
 have HX4:=hDD X4
 clear g4 b4 X4
 go_wp2
 rw[←hW4]
 have XF:=HX4.out.setv (.int .i64 q1) (.int .i64 q2) (.slice A3 qs.length c3)
 have e0:=XF.c0
 have e1:=XF.c1
 have e2:=XF.c2
 have IF:=I4.out.hi H.out (Nat.le_refl _) (set3_below (.int .i64 q1) (.int .i64 q2) (.slice A3 qs.length c3) (Below.refl _ _) (Nat.le_refl w.heap.size))
 exact bodyPost_ret (v:= .agg #[.int .i64 q1, .int .i64 q2, .slice A3 qs.length c3]) (by simp[results,Tryz.results194,go_sem,e0,e1,e2]) rfl ⟨_,rfl,q1,q2,qs,⟨_,rfl,j1,j2,(G4.out.ow.keep fun c hc=>set3_heap _ _ _ _ _ (by have:=(G4.out.ow.1.lt c hc).1;omega)).mono (by omega)⟩,HCB.out,IF.cur,IF.tr⟩
set_option maxHeartbeats 4000000 in
theorem l9Any_any (p:Nat) (A:Option Addr) (cap:Nat) (cs:List Int) (w:World) (h:Cur p A cap cs w):
  Calls Tryz.prog 131 #[.pointer (some ⟨p,0,none⟩)] w fun e w'=> ∃v g,e= .returned v∧OwG w' w.heap.size v g∧g.2.2.length≤120∧Cur p A cap cs w'∧Tr p (p+1) w w':=by
 have H:=hDD h
 have hp:=h.lt
 clear h
 go_enter Tryz.func131,Tryz.ntmps131
 go_wp2_with fail
 obtain⟨W0,hW0⟩: ∃W,W=w.alloc (Obj.cells #[Value.int IntKind.i64 0,Value.int IntKind.i64 0, .slice none 0 0] 26):=⟨_,rfl⟩
 rw[←hW0]
 obtain⟨xb,b0,s0⟩:=CBx.new hW0
 clear hW0
 have XB:=hDD xb
 have I0:Hid (DrI p A cap cs w W0):=hDD ((DrI.refl H.out).bel b0)
 clear xb b0
 refine(l1Once_any p A cap cs 8 _ I0.out.cur (by omega) (by omega)).mono ?_
 rintro e w1 ⟨x,rfl,c1,t1⟩
 have I1:=hDD (I0.out.to t1 c1)
 have X1:=hDD (XB.out.trP t1 (by omega))
 have hs1:=X1.out.lt
 clear c1 t1 I0 XB
 rcases x with _ | _
 ·go_wp2_with fail
  refine(l9Sub_any p A cap cs _ I1.out.cur).mono ?_
  rintro e w2 ⟨v2,⟨q1,q2,qs⟩,rfl,⟨s2,rfl,j1,j2,oe2⟩,hcb,c2,t2⟩
  have hl:qs.length≤120:=(grB_parts (coreB_grB hcb)).2.2.1
  clear hcb
  obtain⟨A2,cp2,rfl,_⟩:=oe2.form
  simp only at j1 j2 oe2⊢
  have I2:=hDD (I1.out.to t2 c2)
  have X2:=hDD (X1.out.trP t2 (by omega))
  have OE2:=hDD oe2
  clear c2 t2 oe2 I1 X1
  have u0:=X2.out.c0
  have u1:=X2.out.c1
  have u2:=X2.out.c2
  have f0:=X2.out.fz 0
  have f1:=X2.out.fz 1
  have f2:=X2.out.fz 2
  go_wp2
  have XF:=X2.out.setv (.int .i64 q1) (.int .i64 q2) (.slice A2 qs.length cp2)
  have e0:=XF.c0
  have e1:=XF.c1
  have e2:=XF.c2
  have IF:=I2.out.hi H.out (Nat.le_refl _) (set3_below (.int .i64 q1) (.int .i64 q2) (.slice A2 qs.length cp2) (Below.refl _ _) (Nat.le_refl w.heap.size))
  exact bodyPost_ret (v:= .agg #[.int .i64 q1, .int .i64 q2, .slice A2 qs.length cp2]) (by simp[results,Tryz.results131,go_sem,e0,e1,e2]) rfl ⟨_,rfl,q1,q2,qs,⟨_,rfl,j1,j2,(OE2.out.keep fun c hc=>set3_heap _ _ _ _ _ (by have:=(OE2.out.1.lt c hc).1;omega)).mono (by omega)⟩,hl,IF.cur,IF.tr⟩
 ·go_wp2_with fail
  refine(l4Any_any p A cap cs _ I1.out.cur).mono ?_
  rintro e w2 ⟨v2,⟨q1,q2,qs⟩,rfl,⟨s2,rfl,j1,j2,oe2⟩,hl,c2,t2⟩
  obtain⟨A2,cp2,rfl,_⟩:=oe2.form
  simp only at j1 j2 oe2 hl⊢
  have I2:=hDD (I1.out.to t2 c2)
  have X2:=hDD (X1.out.trP t2 (by omega))
  have OE2:=hDD oe2
  clear c2 t2 oe2 I1 X1
  have u0:=X2.out.c0
  have u1:=X2.out.c1
  have u2:=X2.out.c2
  have f0:=X2.out.fz 0
  have f1:=X2.out.fz 1
  have f2:=X2.out.fz 2
  go_wp2
  have XF:=X2.out.setv (.int .i64 q1) (.int .i64 q2) (.slice A2 qs.length cp2)
  have e0:=XF.c0
  have e1:=XF.c1
  have e2:=XF.c2
  have IF:=I2.out.hi H.out (Nat.le_refl _) (set3_below (.int .i64 q1) (.int .i64 q2) (.slice A2 qs.length cp2) (Below.refl _ _) (Nat.le_refl w.heap.size))
  exact bodyPost_ret (v:= .agg #[.int .i64 q1, .int .i64 q2, .slice A2 qs.length cp2]) (by simp[results,Tryz.results131,go_sem,e0,e1,e2]) rfl ⟨_,rfl,q1,q2,qs,⟨_,rfl,j1,j2,(OE2.out.keep fun c hc=>set3_heap _ _ _ _ _ (by have:=(OE2.out.1.lt c hc).1;omega)).mono (by omega)⟩,by omega,IF.cur,IF.tr⟩
end Go.Proofs.YtnjpoljbagfdnaaGreat
namespace Go.Proofs.YtnjpoljbagfdnaaGreat
set_option maxRecDepth 20000
set_option linter.unusedVariables false
set_option linter.unusedSimpArgs false
open Go.RowKit
def rgL (N:Int) (l:List Int):Prop:= ∀y∈l,0≤y∧y<N
set_option maxRecDepth 100000 in
set_option maxHeartbeats 8000000 in
theorem l12Finite_any (p:Nat) (A:Option Addr) (cap:Nat) (cs:List Int) (w:World) (h:Cur p A cap cs w):
  Calls Tryz.prog 156 #[.pointer (some ⟨p,0,none⟩)] w fun e w'=> ∃v g,e= .returned v∧OwG w' w.heap.size v g∧coreB g=true∧Cur p A cap cs w'∧Tr p (p+1) w w':=by
 have H:=hDD h
 have hp:=h.lt
 clear h
 go_enter Tryz.func156,Tryz.ntmps156
 go_wp2_with fail
 obtain⟨W0,hW0⟩: ∃W,W=w.alloc (Obj.cells #[Value.int IntKind.i64 0,Value.int IntKind.i64 0, .slice none 0 0] 26):=⟨_,rfl⟩
 rw[←hW0]
 obtain⟨xb,b0,s0⟩:=CBx.new hW0
 clear hW0
 have XB:=hDD xb
 have I0:Hid (DrI p A cap cs w W0):=hDD ((DrI.refl H.out).bel b0)
 clear xb b0
 have RA:Hid (RdI (W0.alloc (Obj.cells #[.int .i64 1, .int .i64 2, .int .i64 2, .int .i64 2, .int .i64 3] 3)) (.slice (some ⟨W0.heap.size,0,none⟩) 5 5) [1,2,2,2,3]):=hDD (OwI_lit W0 [1,2,2,2,3] (by intro y hy;simp at hy;rcases hy with rfl | rfl | rfl<;>(unfold I64;omega)) (by simp) (Nat.le_refl _)).rd
 have IA:=hDD (I0.out.bel ((Below.refl _ _).alloc (Nat.le_refl _) (Obj.cells #[.int .i64 1, .int .i64 2, .int .i64 2, .int .i64 2, .int .i64 3] 3)))
 have XA:=hDD (XB.out.below ((Below.refl _ _).alloc (Nat.le_refl _) (Obj.cells #[.int .i64 1, .int .i64 2, .int .i64 2, .int .i64 2, .int .i64 3] 3)))
 have hneA:(Value.slice (some ⟨W0.heap.size,0,none⟩) 5 5).ownBlock≠some p:=fun e=>by simp[Value.ownBlock] at e;omega
 rw[←s0]
 (with_reducible refine(l1PickInt_any p A cap cs _ [1,2,2,2,3] _ IA.out.cur RA.out hneA (by simp) (by simp)).mono ?_)
 rintro e w1 ⟨r,rfl,hr,c1,t1⟩
 have I1:=hDD (IA.out.to t1 c1)
 have X1:=hDD (XA.out.trP t1 (by omega))
 have hr1:1≤r:=by simp at hr;omega
 have hr3:r≤3:=by simp at hr;omega
 clear c1 t1 IA RA hr hneA XA I0 XB
 go_wp2_with fail
 refine(l1Below_any p A cap cs 5 _ I1.out.cur (by omega) (by omega)).mono ?_
 rintro e w2 ⟨n0,rfl,⟨n1,n2⟩,c2,t2⟩
 have I2:=hDD (I1.out.to t2 c2)
 have X2:=hDD (X1.out.trP t2 (by omega))
 obtain⟨N,hN⟩: ∃N,N=1+n0:=⟨_,rfl⟩
 have hN1:1≤N:=by omega
 have hN5:N≤5:=by omega
 have hwN:IntKind.i64.wrap (1+n0)=N:=by rw[IntKind.wrap_i64];omega
 clear c2 t2 I1 X1
 go_wp2_with fail
 rw[←hN]
 obtain⟨W3,hW3⟩: ∃W,W=w2.alloc (Obj.cells #[Value.int IntKind.i64 r,Value.int IntKind.i64 N, .slice none 0 0] 26):=⟨_,rfl⟩
 have g3:GBx W3 w2.heap.size (w.heap.size+1) none 0 (r,N,[]):=GBx.new (base:=w.heap.size+1) (m:=(r,N,[])) OwE.nil (show I64 r from⟨by omega,by omega⟩) (show I64 N from⟨by omega,by omega⟩) hW3
 obtain⟨_,b3,s3⟩:=CBx.new hW3
 rw[←hW3]
 have G3:=hDD g3
 have I3:=hDD (I2.out.bel b3)
 have X3:=hDD (X2.out.below b3)
 have hs2:=X2.out.lt
 have hgr3:grB (r,N,[])=true:=grB_of ⟨hr1,hr3⟩ ⟨hN1,by simp only;omega⟩ (by simp) List.Pairwise.nil (fun _ h=>by cases h)
 have HGR3:=hDD hgr3
 clear hW3 g3 b3 I2 X2 hN hwN hgr3
 generalize hb:w2.heap.size=b at*
 clear hb
 go_loopw [6] (fun nv wr=> ∃(x:Int) (es:List EdD) (Ar:Option Addr) (cr:Nat),nv= .int .i64 x∧1≤x∧x≤r+1∧(es.length:Int)≤(x-1)*5∧grB (r,N,es)=true∧GBx wr b (w.heap.size+1) Ar cr (r,N,es)∧CBx wr w.heap.size (.int .i64 0) (.int .i64 0) (.slice none 0 0)∧DrI p A cap cs w wr) (fun nv _=>(r+1-intOf nv).toNat)
 case atStart=>exact⟨1,[],none,0,rfl,by omega,by omega,by simp,HGR3.out,G3.out,X3.out,I3.out⟩
 case round=>
  obtain⟨x,es,Ar,cr,rfl,hx1,hxr,hel,hgr,hG,hX,hI⟩:=hrel
  have HGR:=hDD hgr
  have HG:=hDD hG
  have HX:=hDD hX
  have HI:=hDD hI
  have hsr:=hI.tr.size
  have hbr:=hG.lt
  clear hgr hG hX hI
  generalize wr=wo at*
  by_cases hlt:x≤r
  ·have O1:Hid (OwI (wo.alloc (.cells #[] 3)) wo.heap.size (.slice (some ⟨wo.heap.size,0,none⟩) 0 0) []):=hDD (OwI_lit wo [] I64s_nil (by simp) (Nat.le_refl _))
   go_wp2
   go_loopw [7,8] (fun lv nv wr=> ∃(k:Int) (l:List Int),nv= .int .i64 k∧0≤k∧k≤N∧(l.length:Int)=k∧rgL N l∧OwI wr wo.heap.size lv l∧Below wo.heap.size wo wr) (fun _ nv _=>(N-intOf nv).toNat)
   case atStart=>exact⟨0,[],rfl,by omega,by omega,rfl,(fun y hy=>by cases hy),O1.out,(Below.refl _ _).alloc (Nat.le_refl _) _⟩
   case round=>
    obtain⟨k,l,rfl,hk0,hkN,hll,hrg,hO,hB⟩:=hrel
    have HRG:=hDD hrg
    have HO:=hDD hO
    have HB:=hDD hB
    have hsb:=hB.size
    obtain⟨Al,cl,rfl,hcl,hml,hnl,_⟩:=hO.form
    clear hrg hO hB
    by_cases hkl:k<N
    ·have HKI:Hid (I64 k):=hDD ⟨by omega,by omega⟩
     go_wp2_with (at_builtin;refine push_int rfl (.tmp 31) (.tmp 33) rfl _ _ _ (OwI.alloc HO.out _) rfl _ _ rfl (cell_new1 _ _ _) HKI.out (by first | omega | (simp<;>omega)) (by first | omega | (simp<;>omega)) ?_;intro v1 wv1 o1 g1 p1)
     go_roundw
     case rel=>exact⟨k+1,l++ [k],by go_num,by omega,by omega,by simp;omega,(fun y hy=>by
      rcases List.mem_append.1 hy with hy | hy
      ·exact HRG.out y hy
      ·rw[List.mem_singleton.1 hy];omega),o1,bel_push HB.out hsb HO.out.1 (Nat.le_refl _) g1⟩
     case measure=>(simp[intOf];omega)
    ·obtain rfl:N=k:=by omega
     have G4:=hDD (HG.out.belowAt HB.out hbr (fun c hc=>(HG.out.ow.1.lt c hc).2))
     have X4:=hDD (HX.out.belowAt HB.out (by omega))
     have I4:=hDD (HI.out.bel HB.out)
     generalize wr=wq at*
     go_wp2
     go_loopw [7,9] (fun lv nv wr=> ∃(k:Int) (l:List Int) (es:List EdD) (Ar:Option Addr) (cr:Nat),nv= .int .i64 k∧0≤k∧k≤N∧(l.length:Int)=N-k∧rgL N l∧OwI wr wo.heap.size lv l∧(es.length:Int)≤(x-1)*5+k∧grB (r,N,es)=true∧GBx wr b (w.heap.size+1) Ar cr (r,N,es)∧CBx wr w.heap.size (.int .i64 0) (.int .i64 0) (.slice none 0 0)∧DrI p A cap cs w wr∧wo.heap.size≤wr.heap.size) (fun _ nv _=>(N-intOf nv).toNat)
     case atStart=>exact⟨0,l,es,Ar,cr,rfl,by omega,by omega,by omega,HRG.out,HO.out,by omega,HGR.out,G4.out,X4.out,I4.out,hsb⟩
     case round=>
      clear G4 X4 I4 HO HRG HB HGR HG HX HI hel hll hcl hml hnl hkl O1
      obtain⟨k,l,es,Ar,cr,rfl,hk0,hkN,hll,hrg,hO,hel,hgr,hG,hX,hI,hsw⟩:=hrel
      have HRG:=hDD hrg
      have HO:=hDD hO
      have HGR:=hDD hgr
      have HG:=hDD hG
      have HX:=hDD hX
      have HI:=hDD hI
      obtain⟨Al,cl,rfl,hcl,hml,hnl,hat⟩:=hO.form
      have HAT:=hDD hat
      have hbq:=hG.lt
      have HLK:=hDD hll
      clear hrg hO hgr hG hX hI hat
      by_cases hkl:k<N
      ·obtain⟨lg,rfl,hlg1,hlg2⟩:=HAT.out (by omega)
       have hl1:0<(l.length:Int):=by omega
       have hl5:(l.length:Int)≤5:=by omega
       clear hll
       go_wp2_with fail
       refine(l1Below_any p A cap cs l.length _ HI.out.cur (by omega) (by omega)).mono ?_
       rintro e w5 ⟨j0,rfl,hj,c5,t5⟩
       obtain⟨j,rfl⟩: ∃j:Nat,j0=j:=⟨j0.toNat,by omega⟩
       have hjl:j<l.length:=by omega
       have hjI:(j:Int)<(l.length:Int):=by omega
       have I5:=hDD (HI.out.to t5 c5)
       have X5:=hDD (HX.out.trP t5 (by omega))
       have G5:=hDD (HG.out.trP t5 (by omega) (by omega))
       have O5:=hDD (HO.out.trP t5 (by omega))
       have hs5:=t5.size
       have hcj:=O5.out.cellAt j hjl
       have HY:=hDD (HRG.out l[j] (List.getElem_mem hjl))
       have HRE:Hid (rgL N (l.take j++l.drop (j+1))):=hDD fun y hy=>by
        rcases List.mem_append.1 hy with hy | hy
        ·exact HRG.out y (List.mem_of_mem_take hy)
        ·exact HRG.out y (List.mem_of_mem_drop hy)
       have HLL:Hid (((l.take j++l.drop (j+1)).length:Int)=l.length-1):=hDD (by simp;omega)
       clear c5 t5 HI HX HG HO HAT HRG
       generalize l[j]=y at*
       have HPU:=hDD (fun W (h:ArgE W (.slice Ar es.length cr) es)=>l4Put_any _ es (k,x,y) W h ⟨⟨by simp only;omega,by simp only;omega⟩,⟨by simp only;omega,by simp only;omega⟩,⟨by simp only;have:=HY.out;omega,by simp only;have:=HY.out;omega⟩⟩ (by omega))
       unfold edV at HPU
       simp only at HPU
       have HG2:Hid (grB (r,N,insF cmpE es (k,x,y))=true):=hDD (gr_put HGR.out ⟨⟨by simp only;omega,by simp only;omega⟩,⟨by simp only;omega,by simp only;omega⟩,HY.out⟩ (by simp only;omega))
       have hl2:(insF cmpE es (k,x,y)).length≤es.length+1:=insF_len (c:=cmpE) es (k,x,y)
       generalize insF cmpE es (k,x,y)=es2 at*
       go_wp2_with fail
       refine wp_region_genH [.val (.pointer (some ⟨b,2,none⟩)), .val (.slice Ar es.length cr), .val (.int .i64 k), .val (.int .i64 x), .val (.slice (some ⟨lg,0,none⟩) l.length cl), .val (.int .i64 j), .val (.pointer (some ⟨lg,j,none⟩)), .val (.int .i64 y), .val (.agg #[.int .i64 k, .int .i64 x, .int .i64 y]), .mem (fun _ W v=> ∃A' c',v= .slice A' es2.length c'∧OwE W w5.heap.size v es2), .val (.pointer (some ⟨b,2,none⟩)), .mem (fun us W _=> ∃Wp A' c',Below w5.heap.size w5 Wp∧OwE Wp w5.heap.size (.slice A' es2.length c') es2∧W=Wp.setCell ⟨b,2,none⟩ (.slice A' es2.length c'))]
        [none,none,none,none,none,none,none,none,none,some (fun W W'=>Below W.heap.size W W'),none,some (fun W W'=> ∃v,W'=W.setCell ⟨b,2,none⟩ v)]
        (fun _=>True) (fun W=>Below w5.heap.size w5 W) [11] [(9,11)] (by kernel_rfl) (by kernel_rfl) (by rfl) (by rfl)
        trivial (Below.refl _ _).drew
        ⟨fun _ _ _ _=>trivial,fun _ _ _ _=>trivial,trivial⟩
        ⟨.inr fun _ _ _ h t=>h.trans (t.mono h.size), .inl (by simp),trivial⟩
        ⟨fun _ _ _ _ _ _ ⟨u,t⟩ ⟨A',c',e,o⟩=>by subst t;exact⟨A',c',e,o.keep fun d hd=>Below.heap_setCell _ _ _ d (show d≠b by have:=(o.1.lt d hd).1;omega)⟩,trivial⟩ (fun vs=> ?_)
       refine⟨fun W' K' Q0 hI hD hK=> ?_,?_⟩
       ·skip
        go_simp
        exact hK.out _ _ rfl rfl
       simp only[Act.put,List.setIfInBounds_toArray,List.set_cons_zero,List.set_cons_succ,Sg.pick,Nat.reduceAdd]
       refine⟨fun W' K' Q0 hI hD hK=> ?_,?_⟩
       ·have z2:=(G5.out.below (hI.out.2 (by kernel_rfl))).c2
        go_simp
        exact hK.out _ _ rfl rfl
       simp only[Act.put,List.setIfInBounds_toArray,List.set_cons_zero,List.set_cons_succ,Sg.pick,Nat.reduceAdd]
       refine⟨fun W' K' Q0 hI hD hK=> ?_,?_⟩
       ·skip
        go_simp
        exact hK.out _ _ rfl rfl
       simp only[Act.put,List.setIfInBounds_toArray,List.set_cons_zero,List.set_cons_succ,Sg.pick,Nat.reduceAdd]
       refine⟨fun W' K' Q0 hI hD hK=> ?_,?_⟩
       ·skip
        go_simp
        exact hK.out _ _ rfl rfl
       simp only[Act.put,List.setIfInBounds_toArray,List.set_cons_zero,List.set_cons_succ,Sg.pick,Nat.reduceAdd]
       refine⟨fun W' K' Q0 hI hD hK=> ?_,?_⟩
       ·skip
        go_simp
        exact hK.out _ _ rfl rfl
       simp only[Act.put,List.setIfInBounds_toArray,List.set_cons_zero,List.set_cons_succ,Sg.pick,Nat.reduceAdd]
       refine⟨fun W' K' Q0 hI hD hK=> ?_,?_⟩
       ·skip
        go_simp
        exact hK.out _ _ rfl rfl
       simp only[Act.put,List.setIfInBounds_toArray,List.set_cons_zero,List.set_cons_succ,Sg.pick,Nat.reduceAdd]
       refine⟨fun W' K' Q0 hI hD hK=> ?_,?_⟩
       ·skip
        go_simp
        exact hK.out _ _ rfl rfl
       simp only[Act.put,List.setIfInBounds_toArray,List.set_cons_zero,List.set_cons_succ,Sg.pick,Nat.reduceAdd]
       refine⟨fun W' K' Q0 hI hD hK=> ?_,?_⟩
       ·have z0:=((hI.out.2 (by kernel_rfl)).cell (p:=⟨lg,j,none⟩) (by show lg<_;omega)).trans hcj
        go_simp
        exact hK.out _ _ rfl rfl
       simp only[Act.put,List.setIfInBounds_toArray,List.set_cons_zero,List.set_cons_succ,Sg.pick,Nat.reduceAdd]
       refine⟨fun W' K' Q0 hI hD hK=> ?_,?_⟩
       ·skip
        go_simp
        exact hK.out _ _ rfl rfl
       simp only[Act.put,List.setIfInBounds_toArray,List.set_cons_zero,List.set_cons_succ,Sg.pick,Nat.reduceAdd]
       refine⟨fun W' K' Q0 hI hD hK=> ?_,?_⟩
       ·skip
        go_simp
        refine(HPU.out _ (G5.out.below (hI.out.2 (by kernel_rfl))).ow.arg).mono ?_;rintro e w' ⟨rv,rfl,oe,b'⟩;obtain⟨A',c',rfl,_⟩:=oe.form;exact hK.out _ _ b' ⟨A',c',rfl,oe.mono (hI.out.2 (by kernel_rfl)).size⟩
       simp only[Act.put,List.setIfInBounds_toArray,List.set_cons_zero,List.set_cons_succ,Sg.pick,Nat.reduceAdd]
       refine⟨fun W' K' Q0 hI hD hK=> ?_,?_⟩
       ·skip
        go_simp
        exact hK.out _ _ rfl rfl
       simp only[Act.put,List.setIfInBounds_toArray,List.set_cons_zero,List.set_cons_succ,Sg.pick,Nat.reduceAdd]
       refine⟨fun W' K' Q0 hI hD hK=> ?_,?_⟩
       ·obtain⟨A',c',e9,o⟩:=(show ∃A' c',vs 9= .slice A' es2.length c'∧OwE W' w5.heap.size (vs 9) es2 from hD.out 9 (by kernel_rfl))
        rw[e9] at hK o⊢
        have hG:=G5.out.below (hI.out.2 (by kernel_rfl))
        have z2:=hG.c2
        have u2:=hG.fz 2
        go_simp
        exact hK.out undef _ ⟨_,rfl⟩ ⟨W',A',c',hI.out.2 (by kernel_rfl),o,rfl⟩
       simp only[Act.put,List.setIfInBounds_toArray,List.set_cons_zero,List.set_cons_succ,Sg.pick,Nat.reduceAdd]
       intro W9 hI9 hD9
       obtain⟨Wp,A9,c9,bp,op,hW9⟩:=(show ∃Wp A' c',Below w5.heap.size w5 Wp∧OwE Wp w5.heap.size (.slice A' es2.length c') es2∧W9=Wp.setCell ⟨b,2,none⟩ (.slice A' es2.length c') from hD9.out 11 (by decide))
       have G9:=hDD (((G5.out.below bp).put (ms:=es2) op (fun c hc=>by have:=(op.1.lt c hc).1;omega)).mono (show w.heap.size+1≤w5.heap.size by omega))
       have X9:=hDD ((X5.out.below bp).one (q:=b) (j:=2) (v:= .slice A9 es2.length c9) (by omega))
       have I9:=hDD ((I5.out.bel bp).hi H.out (Nat.le_refl _) ((Below.refl w.heap.size Wp).setCell (p:=⟨b,2,none⟩) (by show w.heap.size≤b;omega) (.slice A9 es2.length c9)))
       have O9:=hDD ((O5.out.below bp).far (p:=⟨b,2,none⟩) (by show b<wo.heap.size;exact hbr) (.slice A9 es2.length c9))
       have hs9:w5.heap.size≤W9.heap.size:=by rw[hW9];simpa using bp.size
       simp only at G9
       rw[←hW9] at G9 X9 I9 O9
       clear hI9 hD9 hW9 op bp G5 X5 I5 O5 HPU hcj
       generalize W9=w9 at*
       have HH:=hDD (O9.out.rd.head (k:=j) rfl (by omega))
       have z1:(0:Int)≤(j:Int):=by omega
       have z2:(j:Int)≤(cl:Int):=by omega
       have z3:(j:Int)+1≤(l.length:Int):=by omega
       have z4:(j:Int)≤(l.length:Int):=by omega
       have z5:(0:Int)≤(j:Int)+1:=by omega
       have z6:(j:Int)+1≤(cl:Int):=by omega
       have z7:((j:Int)+1).toNat=j+1:=by omega
       have zw:IntKind.i64.wrap ((j:Int)+1)=(j:Int)+1:=by rw[IntKind.wrap_i64];omega
       have HD:Hid (RdI w9 (.slice (if cl=j+1 then some ⟨lg,0,none⟩ else some ⟨lg,j+1,none⟩) (l.length-(j+1)) (cl-(j+1))) (l.drop (j+1))):=hDD (by
        have:=O9.out.rd.cut (k:=j+1) rfl (by omega)
        simpa[Addr.add_lit] using this)
       have E9:Hid (OwI (w9.drew.alloc (.cells #[] 3)) w9.heap.size (.slice (some ⟨w9.heap.size,0,none⟩) 0 0) []):=hDD (OwI_lit w9.drew [] I64s_nil (by simp) (Nat.le_refl _))
       have BA0:Hid (Below w9.heap.size w9 (w9.drew.alloc (.cells #[] 3))):=hDD (((Below.refl _ _).drew).alloc (Nat.le_refl _) (.cells #[] 3))
       have HH0:=hDD (HH.out.below BA0.out)
       have hhl:(l.take j).length=j:=by rw[List.length_take];omega
       have hdl:(l.drop (j+1)).length=l.length-(j+1):=List.length_drop
       have HRE2:=HRE.out
       have HLL2:=HLL.out
       have hlj:l.length-(j+1)≤5:=by omega
       obtain⟨la,hla⟩: ∃a,a=l.take j:=⟨_,rfl⟩
       obtain⟨lb,hlb⟩: ∃a,a=l.drop (j+1):=⟨_,rfl⟩
       rw[←hla] at HH HH0 hhl HRE2 HLL2
       rw[←hlb] at HD hdl HRE2 HLL2
       have HRE:=hDD HRE2
       have HLL:=hDD HLL2
       clear hla hlb HRE2 HLL2
       go_wp2_with fail
       go_region_held3 (fun w'=>True) (trivial)
        (first
         | (refine step_append_ints rfl (.tmp 55) (.tmp 58) rfl w9.heap.size _ [] E9.out (by rfl) _ la HH0.out (by rfl) (by simp only[List.length_nil];omega) BA0.out.size ?_;intro va wa oa ga pa;rw[List.nil_append] at oa;have BA:Hid (Below w9.heap.size w9 wa):=hDD (BA0.out.grown ga BA0.out.size (fun c hc=>(E9.out.1.lt c hc).1));have OA:=hDD oa;clear oa ga pa)
         | (refine step_append_ints rfl (.tmp 59) (.tmp 63) rfl w9.heap.size _ la OA.out (by rfl) _ lb (HD.out.below BA.out) (by rfl) (by omega) BA.out.size ?_;intro vb wb ob gb pb;have BB:Hid (Below w9.heap.size w9 wb):=hDD (BA.out.grown gb BA.out.size (fun c hc=>(OA.out.1.lt c hc).1));have OB:=hDD ob;clear ob gb pb OA BA))
       obtain⟨Ab,mb,cb,rfl⟩:=OB.out.any2
       go_wp2
       go_roundw
       case rel=>exact⟨k+1,la++lb,es2,A9,c9,by go_num,by omega,by omega,by have:=HLL.out;have:=HLK.out;omega,HRE.out,OB.out.mono (by omega),by omega,HG2.out,G9.out.below BB.out,X9.out.below BB.out,I9.out.bel BB.out,by have:=BB.out.size;omega⟩
       case measure=>(simp[intOf];omega)
      ·obtain rfl:k=N:=by omega
       have hwx:IntKind.i64.wrap (x+1)=x+1:=by rw[IntKind.wrap_i64];omega
       go_wp2
       go_roundw
       case rel=>exact⟨x+1,es,Ar,cr,by go_num,by omega,by omega,by omega,HGR.out,HG.out,HX.out,HI.out⟩
       case measure=>(simp[intOf];omega)
  ·have HCO:=hDD (fun W v (h:ArgG W v (r,N,es))=>specCoreGraph_any v (r,N,es) W h HGR.out)
   have HCB:=hDD (coreB_coreG HGR.out)
   generalize coreG (r,N,es)=qg at*
   obtain⟨q1,q2,qs⟩:=qg
   have y0:=HG.out.c0
   have y1:=HG.out.c1
   have y2:=HG.out.c2
   simp only at y0 y1 y2
   go_wp2_with fail
   refine(HCO.out wo _ HG.out.arg).mono ?_
   rintro e w2 ⟨v2,rfl,⟨s2,rfl,j1,j2,oe2⟩,b2⟩
   obtain⟨A2,cp2,rfl,_⟩:=oe2.form
   simp only at j1 j2 oe2⊢
   have I2:=hDD (HI.out.bel b2)
   have X2:=hDD (HX.out.below b2)
   have OE2:=hDD oe2
   clear b2 oe2
   have u0:=X2.out.c0
   have u1:=X2.out.c1
   have u2:=X2.out.c2
   have f0:=X2.out.fz 0
   have f1:=X2.out.fz 1
   have f2:=X2.out.fz 2
   go_wp2
   have XF:=X2.out.setv (.int .i64 q1) (.int .i64 q2) (.slice A2 qs.length cp2)
   have e0:=XF.c0
   have e1:=XF.c1
   have e2:=XF.c2
   have IF:=I2.out.hi H.out (Nat.le_refl _) (set3_below (.int .i64 q1) (.int .i64 q2) (.slice A2 qs.length cp2) (Below.refl _ _) (Nat.le_refl w.heap.size))
   exact bodyPost_ret (v:= .agg #[.int .i64 q1, .int .i64 q2, .slice A2 qs.length cp2]) (by simp[results,Tryz.results156,go_sem,e0,e1,e2]) rfl ⟨_,rfl,q1,q2,qs,⟨_,rfl,j1,j2,(OE2.out.keep fun c hc=>set3_heap _ _ _ _ _ (by have:=(OE2.out.1.lt c hc).1;omega)).mono (by omega)⟩,HCB.out,IF.cur,IF.tr⟩
end Go.Proofs.YtnjpoljbagfdnaaGreat
