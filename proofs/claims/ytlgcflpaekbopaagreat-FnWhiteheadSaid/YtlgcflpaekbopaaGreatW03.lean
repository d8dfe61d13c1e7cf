/- Parts of the proof: ExpB, Rel, RelI, CanS, Ren, RenQ, Srt, Dup, Part, TakW, RelS, Fre, Rgn, Core, CmpW, Rot. -/
import Derived.Test.YtlgcflpaekbopaaGreatW02
import Derived.Deep.RegionHeld3
import Derived.Outline
import Derived.Test.YtlgcflpaekbopaaGreatW01
import Derived.Shelf.SlSortCmp.WholeK
import Derived.Ground.SlsfProg
import Derived.OrdersHeld
namespace Go.Proofs.YtlgcflpaekbopaaGreat
set_option maxRecDepth 20000
set_option linter.unusedVariables false
set_option linter.unusedSimpArgs false
open Go.RowKit
theorem expB_pos {B:List (List Int)} {j:Nat} (h:j<B.length):exp1L B ((j:Int)+1)= [B[j]]:=by
 unfold exp1L
 rw[if_pos (by omega)]
 simp[List.getD,h]
theorem expB_neg {B:List (List Int)} {j:Nat} (h:j<B.length):exp1L B (-((j:Int)+1))= [invL B[j]]:=by
 unfold exp1L
 rw[if_neg (by omega),if_pos (by omega)]
 have e:(- -((j:Int)+1)-1).toNat=j:=by omega
 rw[e]
 simp[List.getD,h]
theorem exp1_none {B:List (List Int)} {k:Int} (h1: ¬(1≤k∧k≤B.length)) (h2: ¬(-(B.length:Int)≤k∧k≤ -1)):exp1L B k= []:=by
 unfold exp1L
 rw[if_neg h1,if_neg (by omega)]
theorem exp1_cases (B:List (List Int)) (k:Int):(∃j:Nat,j<B.length∧k=(j:Int)+1)∨(∃j:Nat,j<B.length∧k= -((j:Int)+1))∨(¬(1≤k∧k≤B.length)∧ ¬(-(B.length:Int)≤k∧k≤ -1)):=by
 by_cases h1:1≤k∧k≤B.length
 ·exact .inl ⟨(k-1).toNat,by omega,by omega⟩
 ·by_cases h2: -(B.length:Int)≤k∧k≤ -1
  ·exact .inr (.inl ⟨(-k-1).toNat,by omega,by omega⟩)
  ·exact .inr (.inr ⟨h1,h2⟩)
set_option maxHeartbeats 2000000 in
theorem implExpandBy_any (u v:Value) (B:List (List Int)) (l:List Int) (w:World) (h:RdII w u B) (h':RdI w v l) (hB:B.length≤1048576) (hb: ∀b∈B,b.length≤1048576) (hl:l.length≤200):
  Calls Tryz.prog 66 #[u,v] w fun e w'=> ∃r,e= .returned r∧OwI w' w.heap.size r (expL B l)∧Below w.heap.size w w':=by
 have H:=hDD h
 have H':=hDD h'
 have HB:=hDD hb
 obtain⟨A,cap,rfl,hcap,hm,hA⟩:=h.form
 have HA:=hDD hA
 obtain⟨A',cap',rfl,hcap',hm',_⟩:=h'.arg
 unfold maxLen at hm hm'
 clear h h' hA hb
 have hmin:(l.length:Int)≤200:=by omega
 have hmin2: ¬(200:Int)<(l.length:Int):=by omega
 have F:Hid (expL B l=redLL (l.flatMap (exp1L B))):=hDD (by unfold expL expParts;rw[List.take_of_length_le hl])
 have HLL:Hid (lenLL (l.flatMap (exp1L B))≤1073741824):=hDD (by
  have h1:=lenLL_leW (flat_each HB.out l)
  have h2:=Nat.mul_le_mul_right 1048576 (flat1_len B l)
  omega)
 go_enter Tryz.func66,Tryz.ntmps66
 go_wp2_with fail
 go_loopw [5,15] (fun ps i wr=> ∃k:Nat,k≤l.length∧i= .int .i64 k∧PartsL w.heap.size wr ps ((l.take k).flatMap (exp1L B))∧Below w.heap.size w wr)
  (fun _ i _=>l.length-(intOf i).toNat)
 case atStart=>exact⟨0,Nat.zero_le _,rfl,PartsL.nil w (Nat.le_refl _),(by repeat(first | exact Below.refl _ _ | (refine Below.setCell ?_ (by first | omega | (simp<;>omega)) _) | (refine bel_drewN ?_ _) | (refine Below.drew ?_) | (refine Below.alloc ?_ (by first | omega | (simp<;>omega)) _)))⟩
 case round=>
  obtain⟨k,hk,rfl,hp,hbel⟩:=hrel
  have hsz:=hbel.size
  have hpl:=flat1_len B (l.take k)
  have hpl2:((l.take k).flatMap (exp1L B)).length≤200:=by rw[List.length_take] at hpl;omega
  by_cases hlt:k<l.length
  ·obtain⟨b,off,rfl,hbl,hc⟩:=(H'.out.below hbel).at (by omega)
   have hcell:=hc k hlt
   have HS:=hDD (exp_succ B l k hlt)
   have HP:=hDD hp
   have HBL:=hDD hbel
   have HX:=hDD (H'.out.2 l[k] (by simp))
   clear hc hp
   generalize (l.take k).flatMap (exp1L B)=acc at HS HP hpl2
   generalize l[k]=e at hcell HS HX
   obtain⟨A3,cap3,rfl,hcap3,hm3⟩:=HP.out.form
   rcases exp1_cases B e with ⟨j,hj,rfl⟩ | ⟨j,hj,rfl⟩ | ⟨n1,n2⟩
   ·have FE:=hDD (expB_pos hj)
    obtain⟨b2,off2,A4,cap4,rfl,hb2,hcell2,_,_,hr4⟩:=(H.out.below hbel).at hj
    have HR4:=hDD hr4
    have t1:inB ((j:Int)+1) 1 (B.length:Int)=true:=inB_iff.2 (by omega)
    clear hr4 hbel
    go_wp2_with (first
     | (go_at_call 56;refine(within_any _ _ _ _).mono ?_;rintro e w' ⟨rfl,rfl⟩)
     | (at_builtin;refine push_part rfl (.tmp 24) (.tmp 30) rfl w.heap.size _ _ (HP.out.alloc _) rfl _ _ _ rfl (HR4.out.alloc _) (cell_new1 _ _ _) (by omega) (by simp;omega) ?_;intro v1 w1 o1 g1 _))
    go_roundw
    case rel=>exact⟨k+1,by omega,by go_num,by rw[HS.out,FE.out];exact o1,(HBL.out.alloc hsz _).grown g1 (by simp;omega) (fun j hj=>(HP.out.lt j hj).1)⟩
    case measure=>simp[intOf];omega
   ·have FE:=hDD (expB_neg hj)
    obtain⟨b2,off2,A4,cap4,rfl,hb2,hcell2,_,_,hr4⟩:=(H.out.below hbel).at hj
    have HR4:=hDD hr4
    have hl4:=HB.out B[j] (by simp)
    have t1:inB (-((j:Int)+1)) 1 (B.length:Int)=false:=inB_not.2 (by omega)
    have t2:inB (-((j:Int)+1)) (-(B.length:Int)) (-1)=true:=inB_iff.2 (by omega)
    clear hr4 hbel
    go_wp2_with (go_at_call 56;refine(within_any _ _ _ _).mono ?_;rintro e w' ⟨rfl,rfl⟩)
    refine(implInvertWord_any _ B[j] _ HR4.out (by omega)).mono ?_
    rintro e w1 ⟨r1,rfl,o1,b1⟩
    have O1:=hDD o1
    have B1:=hDD b1
    have hs1:=b1.size
    obtain⟨A5,cap5,rfl,_⟩:=OwI.form o1
    clear o1 b1
    go_wp2_with (at_builtin;refine push_part rfl (.tmp 38) (.tmp 46) rfl w.heap.size _ _ ((HP.out.below B1.out).alloc _) rfl _ _ _ rfl (O1.out.rd.alloc _) (cell_new1 _ _ _) (by omega) (by simp;omega) ?_;intro v2 w2 o2 g2 _)
    go_roundw
    case rel=>exact⟨k+1,by omega,by go_num,by rw[HS.out,FE.out];exact o2,((HBL.out.trans (B1.out.mono hsz)).alloc (by omega) _).grown g2 (by simp;omega) (fun j hj=>(HP.out.lt j hj).1)⟩
    case measure=>simp[intOf];omega
   ·have FE:=hDD (exp1_none n1 n2)
    have t1:inB e 1 (B.length:Int)=false:=inB_not.2 (by omega)
    have t2:inB e (-(B.length:Int)) (-1)=false:=inB_not.2 n2
    clear n1 n2 hbel
    go_wp2_with (go_at_call 56;refine(within_any _ _ _ _).mono ?_;rintro e w' ⟨rfl,rfl⟩)
    go_roundw
    case rel=>exact⟨k+1,by omega,by go_num,by rw[HS.out,FE.out];simpa using HP.out,HBL.out⟩
    case measure=>simp[intOf];omega
  ·obtain rfl:k=l.length:=by omega
   rw[List.take_length] at hp hpl2
   have HP:=hDD hp
   clear hp
   go_wp2_with fail
   refine(product_any _ _ _ HP.out.rd HLL.out (by omega)).mono ?_
   rintro e w1 ⟨r1,rfl,o1,b1⟩
   have O1:=hDD o1
   have B1:=hDD b1
   clear o1 b1
   go_wp2
   go_ret
   exact⟨_,rfl,by rw[F.out];exact O1.out.mono hsz,hbel.trans (B1.out.mono hsz)⟩
theorem flatlen_eq (L:List (List Int)):L.flatten.length=lenLL L:=by simp[lenLL,List.length_flatten]
theorem lenLL_take2 (B:List (List Int)) (l:List Int) (k:Nat) (hb: ∀b∈B,b.length≤1048576) (hl:l.length≤200):((l.take k).flatMap (exp1L B)).flatten.length≤209715200:=by
 rw[flatlen_eq]
 have h1:=lenLL_leW (flat_each hb (l.take k))
 have h2:=Nat.mul_le_mul_right 1048576 (flat1_len B (l.take k))
 have h3:(l.take k).length≤200:=by rw[List.length_take];omega
 have h4:=Nat.mul_le_mul_right 1048576 h3
 omega
set_option maxHeartbeats 2000000 in
theorem specExpandBy_any (u v:Value) (B:List (List Int)) (l:List Int) (w:World) (h:RdII w u B) (h':RdI w v l) (hB:B.length≤1048576) (hb: ∀b∈B,b.length≤1048576) (hl:l.length≤200):
  Calls Tryz.prog 70 #[u,v] w fun e w'=> ∃r,e= .returned r∧OwI w' w.heap.size r (expL B l)∧Below w.heap.size w w':=by
 have H:=hDD h
 have H':=hDD h'
 have HB:=hDD hb
 obtain⟨A,cap,rfl,hcap,hm,hA⟩:=h.form
 have HA:=hDD hA
 obtain⟨A',cap',rfl,hcap',hm',_⟩:=h'.arg
 unfold maxLen at hm hm'
 clear h h' hA hb
 have F:Hid (expL B l=redL [] (l.flatMap (exp1L B)).flatten):=hDD (by unfold expL expParts redLL;rw[List.take_of_length_le hl])
 go_enter Tryz.func70,Tryz.ntmps70
 go_wp2_with fail
 go_loopw [5,6] (fun out i wr=> ∃k:Nat,k≤l.length∧i= .int .i64 k∧OwI wr w.heap.size out ((l.take k).flatMap (exp1L B)).flatten∧Below w.heap.size w wr)
  (fun _ i _=>l.length-(intOf i).toNat)
 case atStart=>exact⟨0,Nat.zero_le _,rfl,OwI_lit w [] I64s_nil (by simp) (Nat.le_refl _),(by repeat(first | exact Below.refl _ _ | (refine Below.setCell ?_ (by first | omega | (simp<;>omega)) _) | (refine bel_drewN ?_ _) | (refine Below.drew ?_) | (refine Below.alloc ?_ (by first | omega | (simp<;>omega)) _)))⟩
 case round=>
  obtain⟨k,hk,rfl,hp,hbel⟩:=hrel
  have hsz:=hbel.size
  have hpl:=lenLL_take2 B l k HB.out hl
  by_cases hlt:k<l.length
  ·obtain⟨b,off,rfl,hbl,hc⟩:=(H'.out.below hbel).at (by omega)
   have hcell:=hc k hlt
   have HS:Hid (((l.take (k+1)).flatMap (exp1L B)).flatten=((l.take k).flatMap (exp1L B)).flatten++(exp1L B l[k]).flatten):=hDD (by rw[exp_succ B l k hlt,List.flatten_append])
   have HP:=hDD hp
   have HBL:=hDD hbel
   have HX:=hDD (H'.out.2 l[k] (by simp))
   have hk200:(k:Int)<200:=by omega
   have hltI:(k:Int)<(l.length:Int):=by omega
   clear hc hp
   generalize ((l.take k).flatMap (exp1L B)).flatten=acc at HS HP hpl
   generalize l[k]=e at hcell HS HX
   obtain⟨A3,cap3,rfl,hcap3,hm3,_⟩:=HP.out.form
   have hx1:=HX.out.1
   have hx2:=HX.out.2
   rcases exp1_cases B e with ⟨j,hj,rfl⟩ | ⟨j,hj,hej⟩ | ⟨n1,n2⟩
   ·have FE:=hDD (expB_pos hj)
    obtain⟨b2,off2,A4,cap4,rfl,hb2,hcell2,hl4,hm4,hr4⟩:=(H.out.below hbel).at hj
    have HR4:=hDD hr4
    have hlb:=HB.out B[j] (by simp)
    have t1:(0:Int)<(j:Int)+1:=by omega
    have t2:(j:Int)+1≤(B.length:Int):=by omega
    clear hr4 hbel
    go_wp2_with (at_builtin;refine append_ints rfl (.tmp 33) (.tmp 41) rfl w.heap.size _ _ HP.out rfl _ _ HR4.out rfl (by omega) hsz ?_;intro v1 w1 o1 g1 _)
    go_roundw
    case rel=>exact⟨k+1,by omega,by go_num,by rw[HS.out,FE.out];simpa using o1,HBL.out.grown g1 hsz (fun j hj=>(HP.out.1.lt j hj).1)⟩
    case measure=>simp[intOf];omega
   ·have FE:Hid (exp1L B e= [invL B[j]]):=hDD (by rw[hej];exact expB_neg hj)
    obtain⟨b2,off2,A4,cap4,rfl,hb2,hcell2,hl4,hm4,hr4⟩:=(H.out.below hbel).at hj
    have HR4:=hDD hr4
    have hlb:=HB.out B[j] (by simp)
    have t1: ¬(0:Int)<e:=by omega
    have t2:e<0:=by omega
    have t3: -(B.length:Int)≤e:=by omega
    have t4:(-e-1).toNat=j:=by omega
    have t5:0≤ -e-1:=by omega
    have t6: -e-1<(B.length:Int):=by omega
    have t7: -9223372036854775808<e:=by omega
    clear hr4 hbel hej
    go_wp2_with fail
    refine(specInvertWord_any _ B[j] _ HR4.out (by omega)).mono ?_
    rintro e w1 ⟨r1,rfl,o1,b1⟩
    have O1:=hDD o1
    have B1:=hDD b1
    have hs1:=b1.size
    have hil:(invL B[j]).length≤1048576:=by rw[invL_lenW];exact hlb
    obtain⟨A5,cap5,rfl,_⟩:=OwI.form o1
    clear o1 b1
    go_wp2_with (at_builtin;refine append_ints rfl (.tmp 59) (.tmp 69) rfl w.heap.size _ _ (HP.out.below B1.out) rfl _ _ O1.out.rd rfl (by omega) (by omega) ?_;intro v2 w2 o2 g2 _)
    go_roundw
    case rel=>exact⟨k+1,by omega,by go_num,by rw[HS.out,FE.out];simpa using o2,(HBL.out.trans (B1.out.mono hsz)).grown g2 (by omega) (fun j hj=>(HP.out.1.lt j hj).1)⟩
    case measure=>simp[intOf];omega
   ·have FE:=hDD (exp1_none n1 n2)
    have HN:Hid (True):=hDD trivial
    rcases Int.lt_or_le 0 e with t1 | t1
    ·have t2: ¬e≤(B.length:Int):=by omega
     have t3: ¬e<0:=by omega
     clear n1 n2 hbel
     go_wp2
     go_roundw
     case rel=>exact⟨k+1,by omega,by go_num,by rw[HS.out,FE.out];simpa using HP.out,HBL.out⟩
     case measure=>simp[intOf];omega
    ·have t1': ¬0<e:=by omega
     rcases Int.lt_or_le e 0 with t2 | t2
     ·have t3: ¬ -(B.length:Int)≤e:=by omega
      clear n1 n2 hbel
      go_wp2
      go_roundw
      case rel=>exact⟨k+1,by omega,by go_num,by rw[HS.out,FE.out];simpa using HP.out,HBL.out⟩
      case measure=>simp[intOf];omega
     ·have t2': ¬e<0:=by omega
      clear n1 n2 hbel
      go_wp2
      go_roundw
      case rel=>exact⟨k+1,by omega,by go_num,by rw[HS.out,FE.out];simpa using HP.out,HBL.out⟩
      case measure=>simp[intOf];omega
  ·obtain rfl:k=l.length:=by omega
   rw[List.take_length] at hp hpl
   have HP:=hDD hp
   clear hp
   go_wp2_with fail
   refine(specReduceLetters_any _ _ _ HP.out.rd (by omega)).mono ?_
   rintro e w1 ⟨r1,rfl,o1,b1⟩
   have O1:=hDD o1
   have B1:=hDD b1
   clear o1 b1
   go_wp2
   go_ret
   exact⟨_,rfl,by rw[F.out];exact O1.out.mono hsz,hbel.trans (B1.out.mono hsz)⟩
end Go.Proofs.YtlgcflpaekbopaaGreat
namespace Go.Proofs.YtlgcflpaekbopaaGreat
set_option maxRecDepth 20000
set_option linter.unusedVariables false
set_option linter.unusedSimpArgs false
open Go.RowKit
def EM:El MoD:=fun w cs d F=> ∃s,cs= [.int .i64 d.1,s]∧I64 d.1∧OwLf EI 24 1 w s d.2 F
structure FrF (bo:Nat) (F:List Nat) (w w':World):Prop where
 os:w'.os=w.os
 tape:w'.tape=w.tape
 output:w'.output=w.output
 size:w.heap.size≤w'.heap.size
 block: ∀b,b<w.heap.size→b≠bo→b∉F→w'.heap[b]? =w.heap[b]?
structure MoI (n br bo bm:Nat) (w:World) (acc:List MoD) (F:List Nat):Prop where
 hr:w.heap[br]? =some (.cells #[.int .i64 n] 3 (0,0))
 hm:w.heap[bm]? =some (.cells #[.func (.func 97) #[] #[.pointer (some ⟨br,0,none⟩), .pointer (some ⟨bo,0,none⟩), .pointer (some ⟨bm,0,none⟩)]] 105 (0,0))
 ho: ∃v,w.heap[bo]? =some (.cells #[v] 67 (0,0))∧OwLf EM 31 2 w v acc F
 nd:F.Nodup
 lt: ∀b∈F,b<w.heap.size
 nr:br∉F
 no:bo∉F
 nm:bm∉F
 dr:br≠bo
 dm:bm≠bo
end Go.Proofs.YtlgcflpaekbopaaGreat
namespace Go.Proofs.YtlgcflpaekbopaaGreat
set_option maxRecDepth 20000
set_option linter.unusedVariables false
set_option linter.unusedSimpArgs false
open Go.RowKit
end Go.Proofs.YtlgcflpaekbopaaGreat
namespace Go.Proofs.YtlgcflpaekbopaaGreat
set_option maxRecDepth 20000
set_option linter.unusedVariables false
set_option linter.unusedSimpArgs false
open Go.RowKit
def leafB (es:List EdD) (v:Nat):Bool:=decide (degL es v<2)|| !hasB (reachL es 0) v
def leafFrom (es:List EdD) (n:Nat):Nat→Nat→Int
 | 0,_=> -1
 | f+1,v=>if v<n then(if leafB es v then(v:Int) else leafFrom es n f (v+1)) else-1
def leafV (es:List EdD) (n:Nat):Int:=leafFrom es n (n-1) 1
theorem leafFrom_end (es:List EdD) (n f:Nat):leafFrom es n f n= -1:=by
 cases f with
 | zero=>rfl
 | succ f=>unfold leafFrom;rw[if_neg (Nat.lt_irrefl n)]
theorem leafFrom_hit {es:List EdD} {n v:Nat} (hv:v<n) (h:leafB es v=true):leafFrom es n (n-v) v=v:=by
 obtain⟨f,hf⟩: ∃f,n-v=f+1:=⟨n-v-1,by omega⟩
 rw[hf]
 unfold leafFrom
 rw[if_pos hv,if_pos h]
theorem leafFrom_miss {es:List EdD} {n v:Nat} (hv:v<n) (h:leafB es v=false):leafFrom es n (n-v) v=leafFrom es n (n-(v+1)) (v+1):=by
 obtain⟨f,hf⟩: ∃f,n-v=f+1:=⟨n-v-1,by omega⟩
 rw[hf]
 rw[leafFrom,if_pos hv,if_neg (by simp[h]),show n-(v+1)=f by omega]
theorem cfold_take_ok {g:GrD} (hg:grB g=true) {u:Int} (ls:List Int) (k:Nat) {o:List Int} (h:OrdOk g.2.1 o):OrdOk g.2.1 ((ls.take k).foldl (cstep g.2.2 u) o):=cfold_ok hg _ h
theorem cstep_no {es:List EdD} {u x:Int} {o:List Int} (h: ¬0≤nextV es u x):cstep es u o x=o:=by unfold cstep;rw[if_neg h]
theorem cstep_in {es:List EdD} {u x:Int} {o:List Int} (h:0≤nextV es u x) (h1:hasB o (nextV es u x)=true):cstep es u o x=o:=by unfold cstep;rw[if_pos h,if_pos h1]
theorem cstep_new {es:List EdD} {u x:Int} {o:List Int} (h:0≤nextV es u x) (h1:hasB o (nextV es u x)=false):cstep es u o x=o++ [nextV es u x]:=by unfold cstep;rw[if_pos h,if_neg (by simp[h1])]
end Go.Proofs.YtlgcflpaekbopaaGreat
namespace Go.Proofs.YtlgcflpaekbopaaGreat
set_option maxRecDepth 20000
set_option linter.unusedVariables false
set_option linter.unusedSimpArgs false
open Go.RowKit
def plv:List Int→Int→Int
 | [],_=>0
 | u::o,v=>if u=v then 1 else if plv o v=0 then 0 else plv o v+1
theorem plv_range (o:List Int) (v:Int):0≤plv o v∧plv o v≤o.length:=by
 induction o with
 | nil=>simp[plv]
 | cons u o ih=>
   unfold plv
   simp only[List.length_cons]
   split
   ·omega
   ·split<;>omega
theorem plv_snoc {o:List Int} {u:Int} (hu:u∉o) (v:Int):plv (o++ [u]) v=if v=u then(o.length:Int)+1 else plv o v:=by
 induction o with
 | nil=>
   simp only[List.nil_append,plv,List.length_nil]
   by_cases h:u=v
   ·simp[h]
   ·have h': ¬v=u:=fun e=>h e.symm
    simp[h,h']
 | cons a o ih=>
   have hu':u∉o:=fun e=>hu (by simp[e])
   have hau:a≠u:=fun e=>hu (by simp[e])
   have ih:=ih hu'
   simp only[List.cons_append,plv,List.length_cons]
   by_cases h:a=v
   ·rw[if_pos h,if_pos h,if_neg (fun e=>hau (h.trans e))]
   ·rw[if_neg h,if_neg h,ih]
    by_cases h2:v=u
    ·rw[if_pos h2,if_pos h2,if_neg (by omega)]
     omega
    ·rw[if_neg h2,if_neg h2]
theorem plv_inj {o:List Int} {v v':Int} (h:plv o v=plv o v') (h0:plv o v≠0):v=v':=by
 induction o with
 | nil=>exact absurd rfl h0
 | cons a o ih=>
   have r1:=plv_range o v
   have r2:=plv_range o v'
   unfold plv at h h0
   by_cases e1:a=v
   ·by_cases e2:a=v'
    ·rw[←e1,←e2]
    ·rw[if_pos e1,if_neg e2] at h
     split at h<;>omega
   ·by_cases e2:a=v'
    ·rw[if_neg e1,if_pos e2] at h
     split at h<;>omega
    ·rw[if_neg e1,if_neg e2] at h
     rw[if_neg e1] at h0
     by_cases z1:plv o v=0
     ·rw[if_pos z1] at h0;exact absurd rfl h0
     ·by_cases z2:plv o v'=0
      ·rw[if_neg z1,if_pos z2] at h;omega
      ·rw[if_neg z1,if_neg z2] at h
       exact ih (by omega) z1
def plc (n:Nat) (o:List Int) (d:Int):List Int:=(List.range n).map fun v=>plv o (v:Nat)-d
theorem plc_len (n:Nat) (o:List Int) (d:Int):(plc n o d).length=n:=by simp[plc]
theorem plc_get (n:Nat) (o:List Int) (d:Int) (v:Nat) (h:v<n):(plc n o d)[v]'(by rw[plc_len];exact h)=plv o v-d:=by simp[plc]
theorem plc_nil (n:Nat) (d:Int):plc n [] d=List.replicate n (-d):=by
 apply List.ext_getElem?
 intro i
 simp only[plc,plv,List.getElem?_map,List.getElem?_replicate]
 by_cases h:i<n
 ·simp[h]
 ·simp[h]
theorem plc_succ (n:Nat) (o:List Int) (d:Int) (k:Nat) (hk:k<o.length) (hd:o.Nodup) (u:Nat) (hu:o[k]=(u:Int)):
  (plc n (o.take k) d).set u ((k:Int)+1-d)=plc n (o.take (k+1)) d:=by
 have hn:(u:Int)∉o.take k:=by
  rw[←hu]
  intro hm
  obtain⟨j,hj,e⟩:=List.getElem_of_mem hm
  rw[List.getElem_take] at e
  have hjk:j<k:=by rw[List.length_take] at hj;omega
  have:=(List.pairwise_iff_getElem.1 hd) j k (by omega) hk hjk
  exact this e
 rw[List.take_succ_eq_append_getElem hk,hu]
 have hl:(o.take k).length=k:=by rw[List.length_take];omega
 apply List.ext_getElem?
 intro i
 rw[List.getElem?_set]
 simp only[plc,List.getElem?_map,List.length_map,List.length_range]
 by_cases hi:i<n
 ·simp only[List.getElem?_range hi,Option.map_some]
  rw[plv_snoc hn,hl]
  by_cases e:u=i
  ·subst e
   simp[hi]
  ·rw[if_neg e,if_neg (by omega)]
 ·simp only[List.getElem?_eq_none (show(List.range n).length≤i by simp;omega),Option.map_none]
  split
  ·rename_i e
   rw[if_neg (by omega)]
  ·rfl
def rnE (o:List Int) (e:EdD):Option EdD:=if 0<plv o e.1∧0<plv o e.2.2 then some (plv o e.1-1,e.2.1,plv o e.2.2-1) else none
def rnL (es:List EdD) (o:List Int):List EdD:=es.filterMap (rnE o)
def rnG (g:GrD) (o:List Int):GrD:=(g.1,o.length,srt cmpE (rnL g.2.2 o))
theorem rnL_succ (es:List EdD) (o:List Int) (k:Nat) (h:k<es.length):rnL (es.take (k+1)) o=rnL (es.take k) o++(rnE o es[k]).toList:=by
 unfold rnL
 rw[List.take_succ_eq_append_getElem h,List.filterMap_append]
 congr 1
theorem rnL_len (es:List EdD) (o:List Int):(rnL es o).length≤es.length:=List.length_filterMap_le _ _
theorem rnL_nodup {es:List EdD} (o:List Int) (h:es.Nodup):(rnL es o).Nodup:=by
 unfold rnL
 unfold List.Nodup at*
 rw[List.pairwise_filterMap]
 refine h.imp fun {a b} hab x hx y hy e=>hab ?_
 subst e
 unfold rnE at hx hy
 split at hx
 ·rename_i ha
  split at hy
  ·rename_i hb
   injection hx with hx
   injection hy with hy
   rw[←hy] at hx
   injection hx with e1 hx
   injection hx with e2 e3
   have i1:=plv_inj (o:=o) (v:=a.1) (v':=b.1) (by omega) (by omega)
   have i3:=plv_inj (o:=o) (v:=a.2.2) (v':=b.2.2) (by omega) (by omega)
   obtain⟨_,_,_⟩:=a
   obtain⟨_,_,_⟩:=b
   simp only at i1 e2 i3
   rw[i1,e2,i3]
  ·cases hy
 ·cases hx
theorem gr_nodup {g:GrD} (h:grB g=true):Srt cmpE g.2.2∧g.2.2.Nodup:=by
 obtain⟨_,_,_,h4⟩:=grB_parts h
 have adj: ∀k (hk:k+1<g.2.2.length),cmpE g.2.2[k] g.2.2[k+1]<0:=fun k hk=>by
  have:=h4 (k+1) hk
  rw[okE_pos (by omega) hk,Bool.and_eq_true] at this
  have h2:=this.2
  simp only[Bool.not_eq_true',decide_eq_false_iff_not,Nat.add_sub_cancel] at h2
  omega
 have all: ∀d k (hk:k+d+1<g.2.2.length),cmpE (g.2.2[k]'(by omega)) g.2.2[k+d+1]<0:=by
  intro d
  induction d with
  | zero=>intro k hk;exact adj k hk
  | succ d ih=>intro k hk;exact cmpE_ord.trans (ih k (by omega)) (adj (k+d+1) hk)
 have hs:Srt cmpE g.2.2:=by
  unfold Srt
  rw[List.pairwise_iff_getElem]
  intro i j hi hj hij
  have:=all (j-i-1) i (by omega)
  have e:i+(j-i-1)+1=j:=by omega
  simpa only[e] using this
 refine⟨hs,hs.imp fun {a b} hab e=> ?_⟩
 rw[e] at hab
 exact cmpE_ord.irrefl b hab
theorem grown_bel {w w':World} {row:Option Nat} (h:Below w.heap.size w w'):w.grownBy w' row:=⟨h.os,h.tape,h.output,h.size,fun b hb _=>h.block b hb⟩
theorem grown_cell {w w':World} {x b o:Nat} (h:w.grownBy w' (some x)) (hb:b<w.heap.size) (hne:b≠x):w'.cell? ⟨b,o,none⟩=w.cell? ⟨b,o,none⟩:=
 World.cell?_of_block (w:=w) (h.block b hb fun e=>hne (by injection e))
theorem grown_frozen {w w':World} {x b o:Nat} (h:w.grownBy w' (some x)) (hb:b<w.heap.size) (hne:b≠x):w'.frozen? ⟨b,o,none⟩=w.frozen? ⟨b,o,none⟩:=
 World.frozen?_of_block (w:=w) (h.block b hb fun e=>hne (by injection e))
theorem cell_set_other (w:World) (b o b' o':Nat) (u:Value) (h:b≠b'):(w.setCell ⟨b',o',none⟩ u).cell? ⟨b,o,none⟩=w.cell? ⟨b,o,none⟩:=
 World.cell?_of_block (w:=w) (Below.heap_setCell w _ u b h)
end Go.Proofs.YtlgcflpaekbopaaGreat
namespace Go.Proofs.YtlgcflpaekbopaaGreat
set_option maxRecDepth 20000
set_option linter.unusedVariables false
set_option linter.unusedSimpArgs false
open Go.RowKit
theorem grB_of {g:GrD} (h1:1≤g.1∧g.1≤3) (h2:1≤g.2.1∧g.2.1≤40) (h3:g.2.2.length≤120) (hs:Srt cmpE g.2.2)
  (he: ∀e∈g.2.2,(0≤e.1∧e.1<g.2.1)∧(1≤e.2.1∧e.2.1≤g.1)∧(0≤e.2.2∧e.2.2<g.2.1)):grB g=true:=by
 have hw:wrap64 (g.2.1-1)=g.2.1-1:=by unfold wrap64;omega
 have ho: ∀k (hk:k<g.2.2.length),edgeOk g.1 g.2.1 g.2.2[k]=true:=fun k hk=>by
  obtain⟨⟨a1,a2⟩,⟨b1,b2⟩,c1,c2⟩:=he g.2.2[k] (by simp)
  unfold edgeOk
  rw[hw]
  simp only[Bool.and_eq_true]
  exact⟨⟨inB_iff.2 ⟨by omega,by omega⟩,inB_iff.2 ⟨by omega,by omega⟩⟩,inB_iff.2 ⟨by omega,by omega⟩⟩
 unfold grB
 simp only[Bool.and_eq_true,decide_eq_true_eq,List.all_eq_true,List.mem_range]
 refine⟨⟨⟨inB_iff.2 h1,inB_iff.2 h2⟩,h3⟩,fun k hk=> ?_⟩
 rcases Nat.eq_zero_or_pos k with rfl | h0
 ·rw[okE_zero hk];exact ho 0 hk
 ·rw[okE_pos h0 hk,ho k hk]
  have:=(List.pairwise_iff_getElem.1 hs) (k-1) k (by omega) hk (by omega)
  simp only[Bool.true_and,Bool.not_eq_true',decide_eq_false_iff_not]
  omega
theorem rnE_ok {o:List Int} {r n:Int} {e x:EdD} (he:(0≤e.1∧e.1<n)∧(1≤e.2.1∧e.2.1≤r)∧(0≤e.2.2∧e.2.2<n)) (h:rnE o e=some x):
  (0≤x.1∧x.1<o.length)∧(1≤x.2.1∧x.2.1≤r)∧(0≤x.2.2∧x.2.2<o.length):=by
 unfold rnE at h
 split at h
 ·rename_i hp
  injection h with h
  subst h
  have h1:=plv_range o e.1
  have h2:=plv_range o e.2.2
  simp only
  omega
 ·cases h
theorem grB_rnGN {g:GrD} {o:List Int} (hg:grB g=true) (ho:OrdN g.2.1 o):grB (rnG g o)=true:=by
 obtain⟨h1,h2,h3,_⟩:=grB_parts hg
 have hol:o.length≤g.2.1.toNat:=nodup_len g.2.1.toNat o ho.1 fun y hy=>by have:=ho.2.1 y hy;omega
 have hol1:1≤o.length:=ho.2.2
 have hsp:=srt_spec cmpE_ord (rnL g.2.2 o)
 refine grB_of h1 ⟨by show(1:Int)≤(o.length:Int);omega,by show(o.length:Int)≤40;omega⟩ ?_ hsp.1 fun e he=> ?_
 ·have a:=srt_len (c:=cmpE) (rnL g.2.2 o)
  have b:=rnL_len g.2.2 o
  show(srt cmpE (rnL g.2.2 o)).length≤120
  omega
 ·have hm:=(hsp.2 e).1 he
  unfold rnL at hm
  obtain⟨d,hd,hx⟩:=List.mem_filterMap.1 hm
  exact rnE_ok (edge_of_gr hg hd) hx
theorem grB_rnG {g:GrD} {o:List Int} (hg:grB g=true) (ho:OrdOk g.2.1 o):grB (rnG g o)=true:=grB_rnGN hg ho.toN
def delO (n:Nat) (x:Int):List Int:=((List.range n).map fun v=>((v:Nat):Int)).filter fun y=>decide (y≠x)
theorem delO_succ (n:Nat) (x:Int):delO (n+1) x=if(n:Int)≠x then delO n x++ [(n:Int)] else delO n x:=by
 unfold delO
 rw[List.range_succ,List.map_append,List.filter_append]
 by_cases h:(n:Int)=x<;>simp[h]
theorem delO_mem {n:Nat} {x y:Int}:y∈delO n x↔(0≤y∧y<n)∧y≠x:=by
 unfold delO
 simp only[List.mem_filter,List.mem_map,List.mem_range,decide_eq_true_eq]
 constructor
 ·rintro⟨⟨v,hv,rfl⟩,h⟩
  exact⟨⟨by omega,by omega⟩,h⟩
 ·rintro⟨⟨h0,h1⟩,h⟩
  exact⟨⟨y.toNat,by omega,by omega⟩,h⟩
theorem delO_nodup (n:Nat) (x:Int):(delO n x).Nodup:=by
 induction n with
 | zero=>exact List.nodup_nil
 | succ n ih=>
   rw[delO_succ]
   split
   ·rw[List.nodup_append]
    refine⟨ih,by simp,fun a ha b hb e=> ?_⟩
    have:=(delO_mem.1 ha).1.2
    simp only[List.mem_singleton] at hb
    omega
   ·exact ih
theorem delO_head {n:Nat} {x:Int} (hn:1≤n) (hx:1≤x):(delO n x)[0]? =some 0:=by
 obtain⟨m,rfl⟩: ∃m,n=m+1:=⟨n-1,by omega⟩
 induction m with
 | zero=>
   rw[delO_succ,if_pos (by omega)]
   rfl
 | succ m ih=>
   rw[delO_succ]
   have:=ih (by omega)
   split
   ·rw[List.getElem?_append_left (by
     cases h:delO (m+1) x with
     | nil=>rw[h] at this;cases this
     | cons _ _=>simp)]
    exact this
   ·exact this
theorem delO_ok {n:Nat} {x:Int} (hn:1≤n) (hx:1≤x):OrdOk (n:Int) (delO n x):=
 ⟨delO_nodup n x,fun y hy=>(delO_mem.1 hy).1,delO_head hn hx⟩
theorem leafFrom_range (es:List EdD) (n:Nat): ∀f v:Nat,leafFrom es n f v= -1∨((v:Int)≤leafFrom es n f v∧leafFrom es n f v<n)
 | 0,v=> .inl rfl
 | f+1,v=>by
   unfold leafFrom
   split
   ·split
    ·right;omega
    ·rcases leafFrom_range es n f (v+1) with h | h
     ·exact .inl h
     ·right;omega
   ·exact .inl rfl
theorem leafV_range (es:List EdD) (n:Nat):leafV es n= -1∨(1≤leafV es n∧leafV es n<n):=by
 have:=leafFrom_range es n (n-1) 1
 unfold leafV
 omega
end Go.Proofs.YtlgcflpaekbopaaGreat
namespace Go.Proofs.YtlgcflpaekbopaaGreat
set_option maxRecDepth 20000
set_option linter.unusedVariables false
set_option linter.unusedSimpArgs false
open Go.RowKit Go.Shelf Go.Lib Go.Sort
def Tryz.sortE_ren:Go.Shelf.Ren:=⟨fun | 6=>189 | 15=>120 | 14=>202 | 28=>143 | 29=>144 | 20=>208 | 21=>209 | 22=>210 | 23=>211 | 24=>212 | 25=>213 | 26=>214 | 27=>215 | 46=>218 | 47=>159 | 48=>160 | 49=>219 | 50=>220 | 57=>222 | n=>n,fun | 22=>80 | 24=>154 | 25=>168 | 3=>3 | 39=>119 | 0=>0 | 53=>139 | 55=>141 | 4=>4 | 46=>132 | 45=>131 | 50=>136 | 5=>5 | 9=>9 | 66=>156 | 70=>160 | 76=>171 | 77=>172 | n=>n,fun | n=>n⟩
theorem Tryz.sortE:Go.Proofs.SlLaysF0.n6 Tryz.prog Tryz.sortE_ren:= {
 mixed:=by kernel_rfl,
 f6:=⟨Tryz.f189.name,by decide,Tryz.func189.trans (congrArg some (by kernel_rfl))⟩,
 f14:=⟨Tryz.f202.name,by decide,Tryz.func202.trans (congrArg some (by kernel_rfl))⟩,
 f15:=Tryz.func120.trans (congrArg some (by kernel_rfl)),
 f20:=⟨Tryz.f208.name,by decide,Tryz.func208.trans (congrArg some (by kernel_rfl))⟩,
 f21:=⟨Tryz.f209.name,by decide,Tryz.func209.trans (congrArg some (by kernel_rfl))⟩,
 f22:=⟨Tryz.f210.name,by decide,Tryz.func210.trans (congrArg some (by kernel_rfl))⟩,
 f23:=⟨Tryz.f211.name,by decide,Tryz.func211.trans (congrArg some (by kernel_rfl))⟩,
 f24:=⟨Tryz.f212.name,by decide,Tryz.func212.trans (congrArg some (by kernel_rfl))⟩,
 f25:=⟨Tryz.f213.name,by decide,Tryz.func213.trans (congrArg some (by kernel_rfl))⟩,
 f26:=⟨Tryz.f214.name,by decide,Tryz.func214.trans (congrArg some (by kernel_rfl))⟩,
 f27:=⟨Tryz.f215.name,by decide,Tryz.func215.trans (congrArg some (by kernel_rfl))⟩,
 f28:=Tryz.func143.trans (congrArg some (by kernel_rfl)),
 f29:=Tryz.func144.trans (congrArg some (by kernel_rfl)),
 f46:=⟨Tryz.f218.name,by decide,Tryz.func218.trans (congrArg some (by kernel_rfl))⟩,
 f47:=Tryz.func159.trans (congrArg some (by kernel_rfl)),
 f48:=Tryz.func160.trans (congrArg some (by kernel_rfl)),
 f49:=⟨Tryz.f219.name,by decide,Tryz.func219.trans (congrArg some (by kernel_rfl))⟩,
 f50:=⟨Tryz.f220.name,by decide,Tryz.func220.trans (congrArg some (by kernel_rfl))⟩,
 f57:=⟨Tryz.f222.name,by decide,Tryz.func222.trans (congrArg some (by kernel_rfl))⟩,
 t0:=Tryz.underlying0,
 a0:=Tryz.isAgg0,
 z0:=Tryz.sizeOf0,
 v0:=Tryz.zeroValue0,
 t3:=Tryz.underlying3,
 a3:=Tryz.isAgg3,
 z3:=Tryz.sizeOf3,
 v3:=Tryz.zeroValue3,
 t4:=Tryz.underlying4,
 a4:=Tryz.isAgg4,
 z4:=Tryz.sizeOf4,
 v4:=Tryz.zeroValue4,
 t5:=Tryz.underlying5,
 a5:=Tryz.isAgg5,
 z5:=Tryz.sizeOf5,
 v5:=Tryz.zeroValue5,
 t9:=Tryz.underlying9,
 a9:=Tryz.isAgg9,
 z9:=Tryz.sizeOf9,
 v9:=Tryz.zeroValue9,
 t22:=Tryz.underlying80,
 a22:=Tryz.isAgg80,
 z22:=Tryz.sizeOf80,
 v22:=Tryz.zeroValue80,
 t25:=Tryz.underlying168,
 a25:=Tryz.isAgg168,
 z25:=Tryz.sizeOf168,
 v25:=Tryz.zeroValue168,
 t39:=Tryz.underlying119,
 a39:=Tryz.isAgg119,
 z39:=Tryz.sizeOf119,
 v39:=Tryz.zeroValue119,
 t45:=Tryz.underlying131,
 a45:=Tryz.isAgg131,
 z45:=Tryz.sizeOf131,
 v45:=Tryz.zeroValue131,
 t46:=Tryz.underlying132,
 a46:=Tryz.isAgg132,
 z46:=Tryz.sizeOf132,
 v46:=Tryz.zeroValue132,
 t50:=Tryz.underlying136,
 a50:=Tryz.isAgg136,
 z50:=Tryz.sizeOf136,
 v50:=Tryz.zeroValue136,
 t53:=Tryz.underlying139,
 a53:=Tryz.isAgg139,
 z53:=Tryz.sizeOf139,
 v53:=Tryz.zeroValue139,
 t55:=Tryz.underlying141,
 a55:=Tryz.isAgg141,
 z55:=Tryz.sizeOf141,
 v55:=Tryz.zeroValue141,
 t66:=Tryz.underlying156,
 a66:=Tryz.isAgg156,
 z66:=Tryz.sizeOf156,
 v66:=Tryz.zeroValue156,
 t70:=Tryz.underlying160,
 a70:=Tryz.isAgg160,
 z70:=Tryz.sizeOf160,
 v70:=Tryz.zeroValue160,
 t76:=Tryz.underlying171,
 a76:=Tryz.isAgg171,
 z76:=Tryz.sizeOf171,
 v76:=Tryz.zeroValue171,
 t77:=Tryz.underlying172,
 a77:=Tryz.isAgg172,
 z77:=Tryz.sizeOf172,
 v77:=Tryz.zeroValue172}
theorem cmpE_swo:SWO (ltOf cmpE) where
 irrefl x:=by
  unfold ltOf
  simpa using cmpE_ord.irrefl x
 trans x y z h1 h2:=by
  unfold ltOf at*
  simp only[decide_eq_true_eq] at*
  exact cmpE_ord.trans h1 h2
 ntrans x y z h1 h2:=by
  unfold ltOf at*
  simp only[decide_eq_false_iff_not] at*
  rw[cmpE_neg] at*
  omega
set_option maxHeartbeats 1000000 in
theorem implCompareEdges_grow (a b:EdD) (w:World):
  Calls Tryz.prog 176 #[edV a,edV b] w fun e w'=>e= .returned (.int .i64 (cmpE a b))∧ ∃q os',w'=grow (w.drewN q) os':=by
 obtain⟨x,y,z⟩:=a
 obtain⟨x',y',z'⟩:=b
 unfold edV
 rcases e1:(cmpI x x' != 0) with _ | _
 ·rcases e2:(cmpI y y' != 0) with _ | _
  ·have F:Hid (cmpE (x,y,z) (x',y',z')=cmpI z z'):=hDD (by simp at e1 e2;simp[cmpE,e1,e2])
   go_enter Tryz.func176,Tryz.ntmps176
   go_wp2_with (go_at_call 101;refine(compareInts_any _ _ _).mono ?_;rintro e w' ⟨rfl,rfl⟩)
   go_ret
   exact⟨ret_int F.out.symm,0,_,by rw[alloc_eq_grow,alloc_eq_grow,grow_grow];rfl⟩
  ·have F:Hid (cmpE (x,y,z) (x',y',z')=cmpI y y'):=hDD (by simp at e1 e2;simp[cmpE,e1,e2])
   go_enter Tryz.func176,Tryz.ntmps176
   go_wp2_with (go_at_call 101;refine(compareInts_any _ _ _).mono ?_;rintro e w' ⟨rfl,rfl⟩)
   go_ret
   exact⟨ret_int F.out.symm,0,_,by rw[alloc_eq_grow,alloc_eq_grow,grow_grow];rfl⟩
 ·have F:Hid (cmpE (x,y,z) (x',y',z')=cmpI x x'):=hDD (by simp at e1;simp[cmpE,e1])
  go_enter Tryz.func176,Tryz.ntmps176
  go_wp2_with (go_at_call 101;refine(compareInts_any _ _ _).mono ?_;rintro e w' ⟨rfl,rfl⟩)
  go_ret
  exact⟨ret_int F.out.symm,0,_,by rw[alloc_eq_grow,alloc_eq_grow,grow_grow];rfl⟩
theorem edC_three (e:EdD):(edC e).length=3:=rfl
theorem edC_one (e:EdD) (v:Value) (h:v∈edC e):v.oneCell'=true:=by
 simp[edC] at h
 rcases h with rfl | rfl | rfl<;>rfl
theorem flatK_get (d:Array EdD) (j:Nat) (h:j<d.size*3):(flatK edC 3 d)[j]! =(edC d[j/3]!)[j%3]! :=by
 unfold flatK
 rw[getElem!_pos _ _ (by simpa using h)]
 simp
theorem edCs_at (es:List EdD) (j:Nat) (h:j<es.length*3):(edCs es)[j]? =some ((edC (es.toArray)[j/3]!)[j%3]!):=by
 have hk:j/3<es.length:=by omega
 have:=edCs_get es (j/3) (j%3) hk (by omega)
 rw[show j/3*3+j%3=j by omega] at this
 rw[this,List.getElem?_eq_getElem (show j%3<(edC es[j/3]).length by rw[edC_three];omega)]
 rw[getElem!_pos (es.toArray) _ (by simpa using hk),getElem!_pos _ _ (by rw[edC_three];omega)]
 simp
theorem OwE.holdsK {w:World} {base g n cap:Nat} {es:List EdD} (h:OwE w base (.slice (some ⟨g,0,none⟩) n cap) es):HoldsK edC 3 w g 0 es.toArray:=by
 have hn:n=es.length:=by
  rcases h.1.2 with ⟨hv,_⟩ | ⟨g',cap',cur,hv,_⟩
  ·cases hv
  ·injection hv
 subst hn
 intro j hj
 have hj':j<es.length*3:=by simpa[flatK] using hj
 refine⟨?_,h.free _⟩
 rw[Nat.zero_add,h.1.cellAt j hj',flatK_get _ _ (by simpa using hj')]
 exact edCs_at es j hj'
theorem sortWorld_row {w:World} {base g n cap:Nat} {es:List EdD} (h:OwE w base (.slice (some ⟨g,0,none⟩) n cap) es) (d:Array EdD) (hd:d.size=es.length) (hE:E64s d.toList) (q:Nat) (os:Array Obj):
  OwE (sortWorldK edC 3 w g 0 q d os) base (.slice (some ⟨g,0,none⟩) n cap) d.toList∧w.grownBy (sortWorldK edC 3 w g 0 q d os) (some g):=by
 have hlt:=(h.1.lt g rfl).2
 have hheap: ∀b,b<w.heap.size→(sortWorldK edC 3 w g 0 q d os).heap[b]? =if g=b then(w.heap[b]?).map (onCells (putCells id 0 (flatK edC 3 d))) else w.heap[b]? :=by
  intro b hb
  show((w.heap.modify g (onCells (putCells id 0 (flatK edC 3 d))))++os)[b]? =_
  rw[Array.getElem?_append_left (by simpa using hb),Array.getElem?_modify]
 refine⟨⟨⟨by rw[edCs_length],?_⟩,hE⟩,rfl,rfl,rfl,?_,fun b hb hne=> ?_⟩
 ·rcases h.1.2 with ⟨hv,_⟩ | ⟨g',cap',cur,hv,hg,hh,hnc,hcm,hcs,htake⟩
  ·cases hv
  ·injection hv with e1 e2 e3
   injection e1 with e1
   injection e1 with e1
   subst e1 e2 e3
   refine .inr ⟨g,cap,putCells id 0 (flatK edC 3 d) cur,by simp[hd],hg,?_,by simp[hd];exact hnc,hcm,by simp[putCells,hcs],?_⟩
   ·rw[hheap g hlt,if_pos rfl,hh]
    rfl
   ·apply List.ext_getElem?
    intro j
    rw[List.getElem?_take]
    split
    ·rename_i hj
     rw[Array.length_toList] at hj
     have hjc:j<cur.size:=by rw[hcs];have:d.size*3≤cap*3:=Nat.mul_le_mul_right 3 (by omega);omega
     rw[edCs_at _ _ (by simpa using hj),Array.getElem?_toList]
     simp only[putCells,Array.getElem?_mapIdx]
     rw[Array.getElem?_eq_getElem hjc]
     simp only[Option.map_some,Nat.zero_le,true_and,Nat.zero_add,Nat.sub_zero,id]
     rw[if_pos (by simpa[flatK] using hj),flatK_get _ _ hj]
    ·rename_i hj
     rw[List.getElem?_eq_none (by rw[edCs_length];omega)]
 ·show w.heap.size≤((w.heap.modify g (onCells (putCells id 0 (flatK edC 3 d))))++os).size
  simp
 ·rw[hheap b hb,if_neg (fun e=>hne (by rw[e]))]
theorem sortE_any (g n cap base:Nat) (es:List EdD) (w:World) (h:OwE w base (.slice (some ⟨g,0,none⟩) n cap) es) (hl:es.length≤1073741824):
  Calls Tryz.prog 189 #[.slice (some ⟨g,0,none⟩) n cap, .func (.func 176) #[] #[]] w fun e w'=>
   e= .returned (.tuple #[])∧ ∃es',OwE w' base (.slice (some ⟨g,0,none⟩) n cap) es'∧es'.Perm es∧(es'.Pairwise fun a b=> ¬0<cmpE a b)∧w.grownBy w' (some g):=by
 have hn:n=es.length:=by
  rcases h.1.2 with ⟨hv,_⟩ | ⟨g',cap',cur,hv,_⟩
  ·cases hv
  ·injection hv
 subst hn
 have eg: ∀args w,(callFunc 176 args).run Tryz.prog w= .ok (.enter 176 args) w:=enters_of Tryz.func176 (by kernel_rfl) rfl
 have hcon:=AnyQ.slices_SortFunc Tryz.sortE 3 Tryz.isAgg154 Tryz.sizeOf154 edC edC_three edC_one cmpE cmpE_swo 176 #[] g 0 cap es.toArray w eg (fun _ _ _ _ x y=>implCompareEdges_grow x y _) h.holdsK (h.1.lt g rfl).2 (by simp;omega)
 change Calls Tryz.prog 189 _ _ _ at hcon
 refine hcon.mono ?_
 rintro e w' ⟨rfl,d,q,os,hp,hs,rfl⟩
 obtain⟨p1,_,p3⟩:=hp
 have hperm:d.toList.Perm es:=by
  have e1:d.extract 0 es.toArray.size=d:=by rw[←p1];simp
  have e2:es.toArray.extract 0 es.toArray.size=es.toArray:=by simp
  rw[e1,e2] at p3
  simpa using p3
 have hE:E64s d.toList:=fun x hx=>h.2 x (hperm.mem_iff.1 hx)
 obtain⟨o1,g1⟩:=sortWorld_row h d (by simpa using p1) hE q os
 refine⟨rfl,d.toList,o1,hperm,?_,g1⟩
 rw[List.pairwise_iff_getElem]
 intro i j hi hj hij
 have hi':i<d.size:=by simpa using hi
 have hj':j<d.size:=by simpa using hj
 have:=hs i j (Nat.zero_le _) hij (by rw[←p1];exact hj')
 unfold ltOf at this
 rw[decide_eq_false_iff_not,getElem!_pos d j hj',getElem!_pos d i hi'] at this
 rw[Array.getElem_toList,Array.getElem_toList]
 intro h0
 exact this (cmpE_ord.anti.2 h0)
end Go.Proofs.YtlgcflpaekbopaaGreat
namespace Go.Proofs.YtlgcflpaekbopaaGreat
set_option maxRecDepth 20000
set_option linter.unusedVariables false
set_option linter.unusedSimpArgs false
open Go.RowKit
set_option maxHeartbeats 1000000 in
theorem compactE_any (A:Option Addr) (n cap:Nat) (es:List EdD) (w:World) (h:ArgE w (.slice A n cap) es) (hs:Srt cmpE es):
  Calls Tryz.prog 190 #[.slice A n cap] w fun e w'=>e= .returned (.slice A n cap)∧ ∃q,w'=w.drewN q:=by
 have H:=hDD h
 obtain⟨A',cap',hv,hcap,hm,_⟩:=h
 injection hv with e1 e2 e3
 subst e1 e2 e3
 unfold maxLen at hm
 have HS:=hDD hs
 clear hs
 by_cases hlt2:es.length<2
 ·have h1:(es.length:Int)<2:=by omega
  go_enter Tryz.func190,Tryz.ntmps190
  go_wp2
  go_ret
  exact⟨rfl,0,rfl⟩
 ·have h1: ¬(es.length:Int)<2:=by omega
  go_enter Tryz.func190,Tryz.ntmps190
  go_wp2
  go_loopw [3] (fun i wr=> ∃k:Nat,k+1≤es.length∧i= .int .i64 ((k:Int)+1)∧ ∃q,wr=w.drewN q) (fun i _=>es.length-(intOf i).toNat)
  case atStart=>exact⟨0,by omega,rfl,0,rfl⟩
  case round=>
   obtain⟨k,hk,rfl,q,rfl⟩:=hrel
   by_cases hlt:k+1<es.length
   ·obtain⟨b,off,rfl,hbl,c0,c1,c2,_⟩:=H.out.at hlt
    obtain⟨b2,off2,hA2,_,d0,d1,d2,_⟩:=H.out.at (k:=k) (by omega)
    obtain⟨rfl,rfl⟩:b=b2∧off=off2:=by simpa using hA2
    have hne:decide (es[k+1]=es[k])=false:=by
     rw[decide_eq_false_iff_not]
     intro e
     have:=(List.pairwise_iff_getElem.1 HS.out) k (k+1) (by omega) hlt (by omega)
     rw[e] at this
     exact cmpE_ord.irrefl _ this
    have i0:(0:Int)≤(k:Int):=by omega
    have i1:(k:Int)<(es.length:Int):=by omega
    have i2:(k:Int)+1<(es.length:Int):=by omega
    have i3:(0:Int)≤(k:Int)+1:=by omega
    have i4:((k:Int)+1).toNat=k+1:=by omega
    have i5:IntKind.i64.wrap ((k:Int)+1-1)=(k:Int):=by rw[IntKind.wrap_i64];omega
    clear hA2
    have heql:=fun w=>edge_eql es[k+1] es[k] w
    rw[hne] at heql
    unfold edV at heql
    have hgd:=edge_guard
    generalize es[k]=y at*
    generalize es[k+1]=x at*
    go_wp2
    go_quiet (fail)
    go_wp2
    go_roundw
    case rel=>exact⟨k+1,by omega,by go_num,_,rfl⟩
    case measure=>simp[intOf];omega
   ·have hlast:k+1=es.length:=by omega
    have i2: ¬(k:Int)+1<(es.length:Int):=by omega
    go_wp2
    go_ret
    exact⟨rfl,q,rfl⟩
set_option maxHeartbeats 1000000 in
theorem sorted_any (v:Value) (es:List EdD) (w:World) (h:ArgE w v es) (hnd:es.Nodup) (hl:es.length≤1073741824):
  Calls Tryz.prog 172 #[v] w fun e w'=> ∃r,e= .returned r∧OwE w' w.heap.size r (srt cmpE es)∧Below w.heap.size w w':=by
 have H:=hDD h
 obtain⟨A,cap,rfl⟩:=h.form
 clear h
 go_enter Tryz.func172,Tryz.ntmps172
 go_wp2_with (at_builtin;refine append_edges rfl (.tmp 4) (.tmp 5) rfl w.heap.size _ [] (OwE_lit _ (Nat.le_refl _)) rfl _ es (H.out.alloc _) rfl (by simp;omega) (by simp) ?_;intro v1 w1 o1 g1 p1)
 have O1:Hid (OwE w1 w.heap.size v1 es):=hDD (by simpa using o1)
 have B1:Hid (Below w.heap.size w w1):=hDD (((Below.refl _ _).alloc (Nat.le_refl _) _).grown g1 (by simp) (fun k hk=>by simp[Value.ownBlock] at hk;omega))
 obtain⟨g,cap1,rfl⟩: ∃g cap1,v1= .slice (some ⟨g,0,none⟩) es.length cap1:=by
  obtain⟨A1,cap1,rfl,_⟩:=O1.out.form
  rcases O1.out.1.2 with ⟨hv,_⟩ | ⟨g',cap',cur,hv,_⟩
  ·rw[hv] at p1
   simp[Value.ownBlock] at p1
  ·injection hv with e1 e2 e3
   subst e1
   exact⟨g',cap1,rfl⟩
 clear g1 o1 p1
 refine(sortE_any g es.length cap1 w.heap.size es w1 O1.out hl).mono ?_
 rintro e w2 ⟨rfl,es',o2,hp,hsd,g2⟩
 have hnd':es'.Nodup:=hp.nodup_iff.2 hnd
 have hS:Srt cmpE es':=(hsd.and hnd').imp fun {a b} ⟨h1,h2⟩=>by
  have:cmpE a b≠0:=fun e=>h2 (cmpE_zero.1 e)
  omega
 have hE:es'=srt cmpE es:=srt_eq cmpE_ord hS fun x=>hp.mem_iff
 have O2:=hDD o2
 have B2:=hDD (B1.out.grown g2 B1.out.size (fun k hk=>by cases hk;exact(O1.out.1.lt g rfl).1))
 have HE:=hDD hE
 have HS:=hDD hS
 clear o2 g2 hp hsd hnd' hE hS
 go_wp2_with fail
 refine(compactE_any _ _ _ es' w2 O2.out.arg HS.out).mono ?_
 rintro e w3 ⟨rfl,q,rfl⟩
 go_wp2
 go_ret
 exact⟨_,rfl,by rw[←HE.out];exact O2.out.drewN q,bel_drewN B2.out q⟩
def ddAt (es:List EdD) (j:Nat):List EdD:=if 0<j∧es.getD j (0,0,0)=es.getD (j-1) (0,0,0) then [] else [es.getD j (0,0,0)]
def ddU (es:List EdD):Nat→List EdD
 | 0=> []
 | j+1=>ddU es j++ddAt es j
theorem ddAt_drop {es:List EdD} {j:Nat} (h0:0<j) (hj:j<es.length) (h:es[j]=es[j-1]):ddU es (j+1)=ddU es j:=by
 show ddU es j++ddAt es j=_
 unfold ddAt
 rw[if_pos ⟨h0,by simp[List.getD,hj,show j-1<es.length by omega,h]⟩,List.append_nil]
theorem ddAt_keep {es:List EdD} {j:Nat} (hj:j<es.length) (h: ∀_:0<j,es[j]≠es[j-1]):ddU es (j+1)=ddU es j++ [es[j]]:=by
 show ddU es j++ddAt es j=_
 unfold ddAt
 rw[if_neg]
 ·simp[List.getD,hj]
 ·rintro⟨h0,e⟩
  exact h h0 (by simpa[List.getD,hj,show j-1<es.length by omega] using e)
theorem ddU_spec {es:List EdD} (hs:es.Pairwise fun a b=>cmpE a b≤0): ∀j,j≤es.length→Srt cmpE (ddU es j)∧ ∀x,x∈ddU es j↔x∈es.take j
 | 0,_=>⟨List.Pairwise.nil,fun x=>by simp[ddU]⟩
 | j+1,hj=>by
   obtain⟨h1,h2⟩:=ddU_spec hs j (by omega)
   have hjl:j<es.length:=by omega
   have ht:es.take (j+1)=es.take j++ [es[j]]:=List.take_succ_eq_append_getElem hjl
   by_cases hd: ∃h0:0<j,es[j]=es[j-1]
   ·obtain⟨h0,e⟩:=hd
    rw[ddAt_drop h0 hjl e]
    refine⟨h1,fun x=> ?_⟩
    rw[h2,ht,List.mem_append,List.mem_singleton]
    refine⟨.inl,fun h=> ?_⟩
    rcases h with h | h
    ·exact h
    ·rw[h,e]
     exact List.mem_iff_getElem.2 ⟨j-1,by rw[List.length_take];omega,by rw[List.getElem_take]⟩
   ·rw[ddAt_keep hjl fun h0 e=>hd ⟨h0,e⟩]
    refine⟨List.pairwise_append.2 ⟨h1,List.pairwise_singleton _ _,fun x hx y hy=> ?_⟩,fun x=> ?_⟩
    ·rw[List.mem_singleton.1 hy]
     obtain⟨i,hi,rfl⟩:=List.mem_iff_getElem.1 ((h2 x).1 hx)
     rw[List.length_take] at hi
     rw[List.getElem_take]
     have hle:=(List.pairwise_iff_getElem.1 hs) i j (by omega) hjl (by omega)
     have h0:0<j:=by omega
     have hne:cmpE es[j-1] es[j]≠0:=fun e=>hd ⟨h0,(cmpE_zero.1 e).symm⟩
     have hl2:=(List.pairwise_iff_getElem.1 hs) (j-1) j (by omega) hjl (by omega)
     by_cases hij:i=j-1
     ·subst hij;omega
     ·have hl3:=(List.pairwise_iff_getElem.1 hs) i (j-1) (by omega) (by omega) (by omega)
      by_cases h3:cmpE es[i] es[j-1]=0
      ·rw[cmpE_zero.1 h3];omega
      ·exact cmpE_ord.trans (by omega) (show cmpE es[j-1] es[j]<0 by omega)
    ·rw[List.mem_append,h2,ht,List.mem_append]
theorem ddU_srt {es:List EdD} (hs:es.Pairwise fun a b=>cmpE a b≤0) {L:List EdD} (hm: ∀x,x∈es↔x∈L):ddU es es.length=srt cmpE L:=by
 obtain⟨h1,h2⟩:=ddU_spec hs es.length (Nat.le_refl _)
 exact srt_eq cmpE_ord h1 fun x=>by rw[h2,List.take_length,hm]
theorem own_cells {w:World} {base g cap k o:Nat} {es:List EdD} (h:OwE w base (.slice (some ⟨g,0,none⟩) k cap) es) (ho:k*3≤o): ∀(vs:List Value) (o':Nat),o≤o'→OwE (w.setCells g o' vs) base (.slice (some ⟨g,0,none⟩) k cap) es∧w.grownBy (w.setCells g o' vs) (some g):=by
 intro vs
 induction vs generalizing w with
 | nil=>intro o' _;exact⟨h,World.grownBy.refl _ _⟩
 | cons v vs ih=>
   intro o' ho'
   have hk:k=es.length:=by
    obtain⟨_,_,hv,_⟩:=OwE.form h
    injection hv
   subst hk
   have hst:=World.ownsRow.stored h.1 o' v
   have hl:=h.1.1
   rw[List.set_eq_of_length_le (by omega)] at hst
   obtain⟨i1,i2⟩:=ih (w:=w.setCell ⟨g,o',none⟩ v) ⟨hst.1,h.2⟩ (o'+1) (by omega)
   exact⟨i1,hst.2.trans i2⟩
theorem OwE.head {w:World} {base g n cap k:Nat} {es:List EdD} (h:OwE w base (.slice (some ⟨g,0,none⟩) n cap) es) (hk:k≤es.length):OwE w base (.slice (some ⟨g,0,none⟩) k cap) (es.take k):=by
 have hn:n=es.length:=by
  obtain⟨_,_,hv,_⟩:=OwE.form h
  injection hv
 subst hn
 have h1:=owns_head h.1 rfl hk
 refine⟨?_,fun e he=>h.2 e (List.mem_of_mem_take he)⟩
 have hl:(es.take k).length=k:=by rw[List.length_take];omega
 rw[hl]
 have e:edCs (es.take k)=(edCs es).take (k*3):=by
  have h2:edCs es=edCs (es.take k)++edCs (es.drop k):=by rw[←edCs_append,List.take_append_drop]
  rw[h2,List.take_left' (by rw[edCs_length,hl])]
 rw[e]
 exact h1
theorem zero_edges (n:Nat):(Builtin.zeroCells (Value.agg #[.int .i64 0, .int .i64 0, .int .i64 0]).cells n).toList.length=n*3∧ ∀v∈(Builtin.zeroCells (Value.agg #[.int .i64 0, .int .i64 0, .int .i64 0]).cells n).toList,v.oneCell'=true:=by
 have hc:(Value.agg #[.int .i64 0, .int .i64 0, .int .i64 0]).cells= #[.int .i64 0, .int .i64 0, .int .i64 0]:=by simp[Value.cells]
 rw[hc]
 refine⟨by simp[Builtin.zeroCells],fun v hv=> ?_⟩
 simp only[Builtin.zeroCells,Array.toList_map,List.mem_map] at hv
 obtain⟨i,_,rfl⟩:=hv
 have h3: #[Value.int IntKind.i64 0,Value.int IntKind.i64 0,Value.int IntKind.i64 0].size=3:=rfl
 rw[h3]
 have:i%3=0∨i%3=1∨i%3=2:=by omega
 rcases this with e | e | e<;>rw[e]<;>rfl
theorem run_clear_edges (w:World) (g o n c:Nat) (hn:0<n) (hc: ∀j,j<n*3→(w.cell? ⟨g,o+j,none⟩).isSome=true) (hf: ∀j,j<n*3→w.frozen? ⟨g,o+j,none⟩=false):
  ∃vs,∀ty,(Builtin.clear_ #[80] ty #[.slice (some ⟨g,o,none⟩) n c]).run Tryz.prog w= .ok (.tuple #[]) (w.setCells g o vs):=by
 obtain⟨h1,h2⟩:=zero_edges n
 obtain⟨i0,hi0,hz0,_,_⟩:=info_parts edge_info
 refine⟨(Builtin.zeroCells (Value.agg #[.int .i64 0, .int .i64 0, .int .i64 0]).cells n).toList,fun ty=> ?_⟩
 have hst:=run_storeCells_cells (P:=Tryz.prog) g o (Builtin.zeroCells (Value.agg #[.int .i64 0, .int .i64 0, .int .i64 0]).cells n).toList 0 w (by rw[h1];simpa using hc) (by rw[h1];simpa using hf) h2
 simp only[Nat.add_zero] at hst
 have hv: ∀w,(zeroValue 154).run Tryz.prog w= .ok (.agg #[.int .i64 0, .int .i64 0, .int .i64 0]) w:=fun w=>by rfl
 obtain⟨m,rfl⟩: ∃m,n=m+1:=⟨n-1,by omega⟩
 simp[Builtin.clear_,run_underlying Tryz.underlying80,hv,hst]
theorem set_take: ∀(R:List EdD) (k:Nat) (x:EdD),k<R.length→(R.set k x).take (k+1)=R.take k++ [x]
 | [],k,x,h=>by cases h
 | a::R,0,x,_=>by simp
 | a::R,k+1,x,h=>by
   have:=set_take R k x (by simpa using h)
   simp only[List.set_cons_succ,List.take_succ_cons,List.cons_append]
   rw[this]
theorem set_drop: ∀(R:List EdD) (k m:Nat) (x:EdD),k<m→(R.set k x).drop m=R.drop m
 | [],k,m,x,h=>by simp
 | a::R,0,m+1,x,_=>by simp
 | a::R,k+1,m+1,x,h=>by
   have:=set_drop R k m x (by omega)
   simpa using this
set_option maxHeartbeats 1000000 in
theorem compactD_any (g n cap base:Nat) (es:List EdD) (w:World) (h:OwE w base (.slice (some ⟨g,0,none⟩) n cap) es) (hl:es.length≤1073741824):
  Calls Tryz.prog 190 #[.slice (some ⟨g,0,none⟩) n cap] w fun e w'=>e= .returned (.slice (some ⟨g,0,none⟩) (ddU es es.length).length cap)∧OwE w' base (.slice (some ⟨g,0,none⟩) (ddU es es.length).length cap) (ddU es es.length)∧w.grownBy w' (some g):=by
 obtain⟨_,_,hv,hcap,hm,_,hg⟩:=h.form
 injection hv with e1 e2 e3
 subst e1 e2 e3
 unfold maxLen at hm
 have H:=hDD h
 clear h hg
 by_cases hlt2:es.length<2
 ·have h1:(es.length:Int)<2:=by omega
  have hd:ddU es es.length=es:=by
   match es,hlt2 with
   | [],_=>rfl
   | [a],_=>simp[ddU,ddAt]
  rw[hd]
  go_enter Tryz.func190,Tryz.ntmps190
  go_wp2
  go_ret
  exact⟨rfl,H.out,World.grownBy.refl _ _⟩
 ·have h1: ¬(es.length:Int)<2:=by omega
  go_enter Tryz.func190,Tryz.ntmps190
  go_wp2
  go_loopw [3] (fun i wr=> ∃k:Nat,k+1≤es.length∧i= .int .i64 ((k:Int)+1)∧ddU es (k+1)=es.take (k+1)∧ ∃q,wr=w.drewN q) (fun i _=>es.length-(intOf i).toNat)
  case atStart=>exact⟨0,by omega,rfl,by rw[ddAt_keep (by omega) (fun h=>absurd h (by omega))];rw[List.take_succ_eq_append_getElem (by omega)];rfl,0,rfl⟩
  case round=>
   obtain⟨k,hk,rfl,hdd,q,rfl⟩:=hrel
   have HDD:=hDD hdd
   clear hdd
   by_cases hlt:k+1<es.length
   ·obtain⟨c0,c1,c2⟩:=H.out.cellAt (k+1) hlt
    obtain⟨d0,d1,d2⟩:=H.out.cellAt k (by omega)
    have i0:(0:Int)≤(k:Int):=by omega
    have i1:(k:Int)<(es.length:Int):=by omega
    have i2:(k:Int)+1<(es.length:Int):=by omega
    have i3:(0:Int)≤(k:Int)+1:=by omega
    have i4:((k:Int)+1).toNat=k+1:=by omega
    have i5:IntKind.i64.wrap ((k:Int)+1-1)=(k:Int):=by rw[IntKind.wrap_i64];omega
    have heql:=fun w=>edge_eql es[k+1] es[k] w
    unfold edV at heql
    have hgd:=edge_guard
    by_cases he:es[k+1]=es[k]
    ·have HDR:=hDD (ddAt_drop (es:=es) (j:=k+1) (by omega) hlt he)
     rw[decide_eq_true he] at heql
     generalize es[k]=y at*
     generalize es[k+1]=x at*
     go_wp2
     go_quiet (fail)
     have hcp: ¬cap=k+1:=by omega
     have i6:(k:Int)+1≤(es.length:Int):=by omega
     have i7:(es.length:Int)≤(cap:Int):=by omega
     have HFR:=hDD H.out.free
     have HLD:Hid ((ddU es (k+2)).length=k+1∧es.take (k+1)=ddU es (k+2)):=hDD (by
      have h1:=HDR.out
      rw[HDD.out] at h1
      exact⟨by rw[show k+2=k+1+1 from rfl,h1,List.length_take];omega,h1.symm⟩)
     clear c0 c1 c2 d0 d1 d2
     go_wp2
     obtain⟨rem,hrem⟩: ∃r,r=es.length-(k+1):=⟨_,rfl⟩
     have hrl:rem+(k+1)=es.length:=by omega
     have HREM:=hDD hrem
     clear hrem
     rw[←HREM.out]
     go_loopw [3,5] (fun s3 s5 wr=> ∃(kk t:Nat) (R:List EdD),s3= .int .i64 kk∧s5= .int .i64 ((t:Int)+1)∧t+1≤rem∧kk=(ddU es (k+t+2)).length∧R.length=es.length∧R.take kk=ddU es (k+t+2)∧R.drop (k+t+1)=es.drop (k+t+1)∧kk≤k+t+1∧OwE wr base (.slice (some ⟨g,0,none⟩) es.length cap) R∧w.grownBy wr (some g)) (fun _ i _=>rem-(intOf i).toNat)
     case atStart=>exact⟨k+1,0,es,by go_num,rfl,by omega,HLD.out.1.symm,rfl,HLD.out.2,rfl,by omega,H.out.drewN _,⟨rfl,rfl,rfl,Nat.le_refl _,fun _ _ _=>rfl⟩⟩
     case round=>
      obtain⟨kk,t,R,rfl,rfl,ht,hkk,hRl,hRt,hRd,hkb,hoR,hgr⟩:=hrel
      have HOR:=hDD hoR
      have HGR:=hDD hgr
      have HRT:=hDD hRt
      have HRD:=hDD hRd
      have HKK:=hDD hkk
      have HRL:=hDD hRl
      obtain⟨wi,rfl⟩: ∃wi:World,wi=wr:=⟨_,rfl⟩
      have hget: ∀j (hj:j<es.length),k+t+1≤j→R[j]'(by omega)=es[j]:=fun j hj hle=>by
       have e1:(R.drop (k+t+1))[j-(k+t+1)]? =(es.drop (k+t+1))[j-(k+t+1)]? :=by rw[hRd]
       rw[List.getElem?_drop,List.getElem?_drop,show k+t+1+(j-(k+t+1))=j by omega,List.getElem?_eq_getElem (by omega),List.getElem?_eq_getElem hj] at e1
       injection e1
      have HFI:=hDD HOR.out.free
      by_cases hlt3:t+1<rem
      ·have hi1:k+t+2<es.length:=by omega
       obtain⟨c0,c1,c2⟩:=HOR.out.cellAt (k+t+2) (by omega)
       obtain⟨d0,d1,d2⟩:=HOR.out.cellAt (k+t+1) (by omega)
       rw[hget (k+t+2) hi1 (by omega),show(k+t+2)*3=(k+1)*3+(t+1)*3 by omega] at c0 c1 c2
       rw[hget (k+t+1) (by omega) (by omega),show(k+t+1)*3=(k+1)*3+t*3 by omega] at d0 d1 d2
       have heq2:=fun w=>edge_neq es[k+t+2] es[k+t+1] w
       unfold edV at heq2
       have j0:(0:Int)≤(t:Int):=by omega
       have j1:(t:Int)<(rem:Int):=by omega
       have j2:(t:Int)+1<(rem:Int):=by omega
       have j3:(0:Int)≤(t:Int)+1:=by omega
       have j4:((t:Int)+1).toNat=t+1:=by omega
       have j5:IntKind.i64.wrap ((t:Int)+1-1)=(t:Int):=by rw[IntKind.wrap_i64];omega
       have HRD2:Hid (R.drop (k+(t+1)+1)=es.drop (k+(t+1)+1)):=hDD (by have h9:=congrArg (List.drop 1) hRd;rw[List.drop_drop,List.drop_drop] at h9;rw[show k+(t+1)+1=k+t+1+1 by omega];exact h9)
       have HE64:=hDD (HOR.out.2 _ (List.getElem_mem (show k+t+2<R.length by omega)))
       rw[hget (k+t+2) hi1 (by omega)] at HE64
       by_cases he2:es[k+t+2]=es[k+t+1]
       ·have HD2:=hDD (ddAt_drop (es:=es) (j:=k+t+2) (by omega) hi1 he2)
        rw[decide_eq_true he2,Bool.not_true] at heq2
        generalize es[k+t+1]=y2 at*
        generalize es[k+t+2]=x2 at*
        clear hkk hRl hRt hRd hoR hgr hget
        go_wp2
        go_quiet (fail)
        go_wp2
        go_roundw
        case rel=>exact⟨kk,t+1,R,rfl,by go_num,by omega,by rw[show k+(t+1)+2=k+t+2+1 by omega,HD2.out];exact HKK.out,HRL.out,by rw[show k+(t+1)+2=k+t+2+1 by omega,HD2.out];exact HRT.out,HRD2.out,by omega,HOR.out.drew,HGR.out.trans ⟨rfl,rfl,rfl,Nat.le_refl _,fun _ _ _=>rfl⟩⟩
        case measure=>simp[intOf];omega
       ·have HD2:Hid (ddU es (k+(t+1)+2)=ddU es (k+t+2)++ [es[k+t+2]]):=hDD (by rw[show k+(t+1)+2=k+t+2+1 by omega];exact ddAt_keep (es:=es) (j:=k+t+2) hi1 (fun _ e=>he2 e))
        rw[decide_eq_false he2,Bool.not_false] at heq2
        have hkR:kk<R.length:=by omega
        have HST:=hDD (set_take R kk es[k+t+2] hkR)
        have HSD:=hDD (set_drop R kk (k+(t+1)+1) es[k+t+2] (by omega))
        obtain⟨b0,b1,b2⟩:=HOR.out.cellAt kk hkR
        generalize R[kk]=o2 at b0 b1 b2
        generalize es[k+t+1]=y2 at*
        generalize es[k+t+2]=x2 at*
        have HSET:=hDD (fun N=>(HOR.out.drewN N).set kk hkR (x:=x2.1) (y:=x2.2.1) (z:=x2.2.2) HE64.out.1 HE64.out.2.1 HE64.out.2.2)
        have f0:=HFI.out (kk*3)
        have f1:=HFI.out (kk*3+1)
        have f2:=HFI.out (kk*3+2)
        have j6:(kk:Int)<(es.length:Int):=by omega
        have j7:(0:Int)≤(kk:Int):=by omega
        clear hkk hRl hRt hRd hoR hgr hget
        go_wp2
        go_quiet (fail)
        go_wp2
        go_roundw
        case rel=>exact⟨kk+1,t+1,R.set kk x2,by go_num,by go_num,by omega,by rw[HD2.out,List.length_append,←HKK.out];rfl,by rw[List.length_set];exact HRL.out,by rw[HST.out,HD2.out,HRT.out],by rw[HSD.out];exact HRD2.out,by omega,(HSET.out nq).1,(HGR.out.trans (show wi.grownBy (wi.drewN nq) (some g) from⟨rfl,rfl,rfl,Nat.le_refl _,fun _ _ _=>rfl⟩)).trans (HSET.out nq).2⟩
        case measure=>simp[intOf];omega
      ·obtain rfl:rem=t+1:=by omega
       have hn:k+t+2=es.length:=by omega
       have HKN:Hid (kk=(ddU es es.length).length∧R.take kk=ddU es es.length):=hDD (by rw[←hn];exact⟨hkk,hRt⟩)
       have hkn:kk<es.length:=by omega
       have HHE:=hDD (HOR.out.head (k:=kk) (by omega))
       obtain⟨vs,hcl⟩:=run_clear_edges wi g (kk*3) (es.length-kk) (cap-kk) (by omega) (fun j hj=>by
        have hq:kk+j/3<R.length:=by omega
        obtain⟨g0,g1,g2⟩:=HOR.out.cellAt (kk+j/3) hq
        have:j%3=0∨j%3=1∨j%3=2:=by omega
        rcases this with e | e | e
        ·rw[show kk*3+j=(kk+j/3)*3 by omega,g0];rfl
        ·rw[show kk*3+j=(kk+j/3)*3+1 by omega,g1];rfl
        ·rw[show kk*3+j=(kk+j/3)*3+2 by omega,g2];rfl) (fun j _=>HFI.out _)
       have HCC:=hDD (own_cells HHE.out (Nat.le_refl _) vs (kk*3) (Nat.le_refl _))
       have j6:(kk:Int)≤(es.length:Int):=by omega
       have j7:(0:Int)≤(kk:Int):=by omega
       have j8: ¬cap=kk:=by omega
       have j9:(kk:Int)≤(cap:Int):=by omega
       clear hkk hRl hRt hRd hoR hgr hget
       go_wp2
       go_ret
       refine⟨by rw[←HKN.out.1];rfl,?_,HGR.out.trans HCC.out.2⟩
       have h1:=HCC.out.1
       rw[HKN.out.2] at h1
       have h2:=HKN.out.1
       rw[←h2]
       exact h1
    ·have HDR:Hid (ddU es (k+1+1)=es.take (k+1+1)):=hDD (by rw[ddAt_keep hlt (fun _ e=>he e),HDD.out,List.take_succ_eq_append_getElem hlt])
     rw[decide_eq_false he] at heql
     generalize es[k]=y at*
     generalize es[k+1]=x at*
     go_wp2
     go_quiet (fail)
     go_wp2
     go_roundw
     case rel=>exact⟨k+1,by omega,by go_num,HDR.out,_,rfl⟩
     case measure=>simp[intOf];omega
   ·have hlast:k+1=es.length:=by omega
    have i2: ¬(k:Int)+1<(es.length:Int):=by omega
    have HD:Hid (ddU es es.length=es):=hDD (by have:=HDD.out;rw[hlast,List.take_length] at this;exact this)
    clear hlast
    go_wp2
    go_ret
    rw[HD.out]
    exact⟨rfl,H.out.drewN q,⟨rfl,rfl,rfl,Nat.le_refl _,fun _ _ _=>rfl⟩⟩
set_option maxHeartbeats 1000000 in
theorem sortedD_any (v:Value) (es:List EdD) (w:World) (h:ArgE w v es) (hl:es.length≤1073741824):
  Calls Tryz.prog 172 #[v] w fun e w'=> ∃r,e= .returned r∧OwE w' w.heap.size r (srt cmpE es)∧Below w.heap.size w w':=by
 have H:=hDD h
 obtain⟨A,cap,rfl⟩:=h.form
 clear h
 go_enter Tryz.func172,Tryz.ntmps172
 go_wp2_with (at_builtin;refine append_edges rfl (.tmp 4) (.tmp 5) rfl w.heap.size _ [] (OwE_lit _ (Nat.le_refl _)) rfl _ es (H.out.alloc _) rfl (by simp;omega) (by simp) ?_;intro v1 w1 o1 g1 p1)
 have O1:Hid (OwE w1 w.heap.size v1 es):=hDD (by simpa using o1)
 have B1:Hid (Below w.heap.size w w1):=hDD (((Below.refl _ _).alloc (Nat.le_refl _) _).grown g1 (by simp) (fun k hk=>by simp[Value.ownBlock] at hk;omega))
 obtain⟨g,cap1,rfl⟩: ∃g cap1,v1= .slice (some ⟨g,0,none⟩) es.length cap1:=by
  obtain⟨A1,cap1,rfl,_⟩:=O1.out.form
  rcases O1.out.1.2 with ⟨hv,_⟩ | ⟨g',cap',cur,hv,_⟩
  ·rw[hv] at p1
   simp[Value.ownBlock] at p1
  ·injection hv with e1 e2 e3
   subst e1
   exact⟨g',cap1,rfl⟩
 clear g1 o1 p1
 refine(sortE_any g es.length cap1 w.heap.size es w1 O1.out hl).mono ?_
 rintro e w2 ⟨rfl,es',o2,hp,hsd,g2⟩
 have hE:ddU es' es'.length=srt cmpE es:=ddU_srt (hsd.imp fun h=>by omega) fun x=>hp.mem_iff
 have hlen:es'.length=es.length:=hp.length_eq
 have O2:=hDD o2
 have B2:=hDD (B1.out.grown g2 B1.out.size (fun k hk=>by cases hk;exact(O1.out.1.lt g rfl).1))
 have HB1:=hDD (fun k (hk:some g=some k)=>show w.heap.size≤k by cases hk;exact(O1.out.1.lt g rfl).1)
 have HE:=hDD hE
 have hl2:es'.length≤1073741824:=by omega
 clear o2 g2 hp hsd hE hlen
 go_wp2_with fail
 refine(compactD_any g _ _ w.heap.size es' w2 O2.out hl2).mono ?_
 rintro e w3 ⟨rfl,o3,g3⟩
 rw[HE.out] at o3⊢
 have O3:=hDD o3
 have B3:=hDD (B2.out.grown g3 B2.out.size HB1.out)
 clear o3 g3
 go_wp2
 go_ret
 exact⟨_,rfl,O3.out,B3.out⟩
end Go.Proofs.YtlgcflpaekbopaaGreat
namespace Go.Proofs.YtlgcflpaekbopaaGreat
set_option maxRecDepth 20000
set_option linter.unusedVariables false
set_option linter.unusedSimpArgs false
open Go.RowKit
section
variable {P:Program} {ops:Array Oper} {Q:Exit→Act→World→Prop} {S:World→Prop} {n:Nat}
def wpAnyT (P:Program) (ops:Array Oper) (Q:Exit→Act→World→Prop) (S:World→Prop) (n:Nat):Nat→Array Bool→Act→World→Prop
 | 0,listed,a,w=>Region.ready .any ops listed= []∧Q .normal a w
 | f+1,listed,a,w=>(Region.ready .any ops listed= []→Q .normal a w)∧
   ∀i,i∈Region.ready .any ops listed→wpOp P ops Q i (fun a' w'=>(i≠n→S w')∧wpAnyT P ops Q S n f (listed.setIfInBounds i true) a' w') a w
theorem wpAny_of_T: ∀(f:Nat) (listed:Array Bool) (a:Act) (w:World),wpAnyT P ops Q S n f listed a w→wpAny P .any ops Q f listed a w:=by
 intro f
 induction f with
 | zero=>intro listed a w h;exact h
 | succ f ih=>intro listed a w h;exact⟨h.1,fun i hi=>wpOp_mono (fun a' w' hk=>ih _ a' w' hk.2) (h.2 i hi)⟩
theorem wpAnyT_first {st:Oper} (hok:LastOk ops ops n st st) {i:Nat} {oi:Oper} {v:Value} (hi:ops[i]? =some oi) (hin:i<n) (hsel:Region.noSelect ops=true)
  (hQ: ∀c a w,Q (.panic c) (a.put oi.dst v) w→Q (.panic c) a w):
  ∀(f:Nat) (listed:Array Bool) (a:Act) (w:World),Cl ops listed→
   (∀j oj,ops[j]? =some oj→j≠i→listed.getD j true=false→(∀e∈oj.after,Region.binds .any e=true→e.on≠i)→oi.apart ops oj=true)→
   i∈Region.ready .any ops listed→YieldsIf P ops S oi v a→S w→
   wpAnyT P ops Q S n f (listed.setIfInBounds i true) (a.put oi.dst v) w→wpAnyT P ops Q S n (f+1) listed a w:=by
 have hs:=Region.noSelect_spec hsel
 intro f
 induction f with
 | zero=>
   intro listed a w _ _ hr hy hS H
   refine⟨fun h0=>(by rw[h0] at hr;cases hr),fun j hj=> ?_⟩
   by_cases e:j=i
   ·subst e
    exact hy.wpOp hi hS ⟨fun _=>hS,H⟩
   ·have:=ready_mono hj e
    rw[H.1] at this
    cases this
 | succ f ih=>
   intro listed a w hc hfree hr hy hS H
   refine⟨fun h0=>(by rw[h0] at hr;cases hr),fun j hj=> ?_⟩
   by_cases e:j=i
   ·subst e
    exact hy.wpOp hi hS ⟨fun _=>hS,H⟩
   ·have hiu:=(mem_ready.1 hr).1
    have hsz:listed.size=n+1:=hc.1.trans hok.size
    have hjn:j≠n:=fun e'=>by
     subst e'
     have:=hok.all hc hj _ i rfl hin
     rw[getD_tf (by omega),this] at hiu
     cases hiu
    have h1:=H.2 j (ready_mono hj e)
    obtain⟨hju,oj,hoj,hall⟩:=mem_ready.1 hj
    have hno: ∀e∈oj.after,Region.binds .any e=true→e.on≠i:=fun e he hb h=>by
     have h2:=hall e he hb
     rw[h] at h2
     rw[getD_tf (by omega),h2] at hiu
     cases hiu
    have h2:=wpOp_putIf hoj (hfree j oj hoj e hju hno) (fun cs b=>hs i oi cs b hi) (fun cs b=>hs j oj cs b hoj) hQ hy h1
    refine wpOp_mono (fun a' w' hk=> ?_) h2
    obtain⟨hy',hS',hk⟩:=hk
    refine⟨fun _=>hS' hjn,ih _ a' w' (hc.set hj) (fun k ok hk' hki hun hno'=> ?_) (ready_mono hr (Ne.symm e)) hy' (hS' hjn) ?_⟩
    ·refine hfree k ok hk' hki ?_ hno'
     by_cases hjk:j=k
     ·subst hjk;exact hju
     ·rwa [getD_set_ne true hjk] at hun
    ·rw[Array.setIfInBounds_comm _ _ e]
     exact hk
def clB (ops:Array Oper) (listed:Array Bool):Bool:=
 decide (listed.size=ops.size)&&(List.range ops.size).all fun j=> !listed.getD j false||match ops[j]? with
  | some o=>o.after.all fun e=> !Region.binds .any e||listed.getD e.on false
  | none=>true
theorem cl_of {listed:Array Bool} (h:clB ops listed=true):Cl ops listed:=by
 unfold clB at h
 simp only[Bool.and_eq_true,decide_eq_true_eq,List.all_eq_true,List.mem_range,Bool.or_eq_true,Bool.not_eq_true'] at h
 refine⟨h.1,fun j o ho hl e he hb=> ?_⟩
 have hj:=(Array.getElem?_eq_some_iff.1 ho).1
 rcases h.2 j hj with h1 | h1
 ·rw[hl] at h1;cases h1
 ·rw[ho] at h1
  have:=Array.all_eq_true_iff_forall_mem.1 h1 e he
  rw[hb] at this
  simpa using this
theorem wpAnyT_take {l:List Oper} {i f:Nat} {oi:Oper} {v:Value} {listed:Array Bool} {a:Act} {w:World} (hl:l.length=n+1) (hL:lastB l.toArray n=true)
  (hi:l.toArray[i]? =some oi) (hin:i<n) (hs:Region.noSelect l.toArray=true) (hc:clB l.toArray listed=true) (hf:Region.free .any l.toArray listed i=true) (hr:(Region.ready .any l.toArray listed).contains i=true)
  (hQ: ∀c a w,Q (.panic c) (a.put oi.dst v) w→Q (.panic c) a w) (hy:YieldsIf P l.toArray S oi v a) (hS:S w)
  (h:wpAnyT P l.toArray Q S n f (listed.setIfInBounds i true) (a.put oi.dst v) w):wpAnyT P l.toArray Q S n (f+1) listed a w:=by
 obtain⟨st,_,hok⟩:=lastOk_of hl hL
 have hok2:LastOk l.toArray l.toArray n st st:=⟨hok.size,hok.size,fun _ _=>⟨rfl,rfl⟩,hok.hst,hok.hst,rfl,hok.dst,hok.dst,hok.guard,hok.guard,hok.back,hok.chain⟩
 exact wpAnyT_first hok2 hi hin hs hQ f listed a w (cl_of hc) (Region.free_spec hi hf) (by simpa using hr) hy hS h
theorem wpAnyT_one {i f:Nat} {listed:Array Bool} {a:Act} {w:World} (hr:Region.ready .any ops listed= [i])
  (h:wpOp P ops Q i (fun a' w'=>(i≠n→S w')∧wpAnyT P ops Q S n f (listed.setIfInBounds i true) a' w') a w):wpAnyT P ops Q S n (f+1) listed a w:=by
 refine⟨fun h0=>(by rw[hr] at h0;cases h0),fun j hj=> ?_⟩
 rw[hr,List.mem_singleton] at hj
 subst hj
 exact h
theorem wpAnyT_done {listed:Array Bool} {a:Act} {w:World} (hr:Region.ready .any ops listed= []) (h:Q .normal a w): ∀f,wpAnyT P ops Q S n f listed a w
 | 0=>⟨hr,h⟩
 | _+1=>⟨fun _=>h,fun i hi=>by rw[hr] at hi;cases hi⟩
theorem wp_region_T {id:Nat} {a:Act} {w:World} (hm:P.follows .mixedOrders=true) (h:wpAnyT P ops Q S n ops.size (Array.replicate ops.size false) a w.drew):(Code.region id ops true).wp P Q a w:=
 wp_region_any hm (wpAny_of_T _ _ _ _ h)
end
section
variable {P:Program} {ops:Array Oper} {Q:Exit→Act→World→Prop} {S:World→Prop} {n:Nat}
theorem wpAnyT_step {i f:Nat} {o:Oper} {listed:Array Bool} {a:Act} {w:World} (hr:Region.ready .any ops listed= [i]) (ho:ops[i]? =some o)
  (h: ∀K':Act→World→Prop,Shut (∀a' w',S w'→(S w'→wpAnyT P ops Q S n f (listed.setIfInBounds i true) a' w')→K' a' w')→if Region.wanted o (yielded ops a.tmps)=true then Oper.wp P o a w K' Q else K' (a.put o.dst undef) w):
  wpAnyT P ops Q S n (f+1) listed a w:=
 wpAnyT_one hr (wpOp_step ho fun K' hK=>h K' (fun a' w' hS hW=>hK a' w' ⟨fun _=>hS,hW hS⟩))
theorem wpAnyT_last {f:Nat} {o:Oper} {listed:Array Bool} {a:Act} {w:World} (hr:Region.ready .any ops listed= [n]) (ho:ops[n]? =some o) (hd:Region.ready .any ops (listed.setIfInBounds n true)= [])
  (h: ∀K':Act→World→Prop,Shut (∀a' w',Q .normal a' w'→K' a' w')→if Region.wanted o (yielded ops a.tmps)=true then Oper.wp P o a w K' Q else K' (a.put o.dst undef) w):
  wpAnyT P ops Q S n (f+1) listed a w:=
 wpAnyT_one hr (wpOp_step ho fun K' hK=>h K' (fun a' w' hQ=>hK a' w' ⟨fun hn=>absurd rfl hn,wpAnyT_done hd hQ f⟩))
theorem wp_region_T' {id m:Nat} {a:Act} {w:World} (hm:P.follows .mixedOrders=true) (hz:ops.size=m) (hS:S w.drew) (h:S w.drew→wpAnyT P ops Q S n m (Array.replicate m false) a w.drew):(Code.region id ops true).wp P Q a w:=
 wp_region_T hm (by rw[hz];exact h hS)
end
theorem wp_push_edge {w:World} {o:Oper} {a:Act} {K:Act→World→Prop} {Q:Exit→Act→World→Prop} (s x:Operand)
  (ho:o.op= .call {callee:= .builtin .append,args:= #[s,x],argTypes:= #[80,80]})
  (base:Nat) (v:Value) (es:List EdD) (hown:OwE w base v es) (hs:a.eval s=v) (b:Nat) (e:EdD) (hx:a.eval x= .slice (some ⟨b,0,none⟩) 1 1)
  (hc: ∀j u,(edC e)[j]? =some u→w.cell? ⟨b,j,none⟩=some u) (he:E64 e) (hl:es.length≤1073741824) (hbase:base≤w.heap.size)
  (h: ∀v' w',OwE w' base v' (es++ [e])→w.grownBy w' v.ownBlock→(v'.ownBlock=v.ownBlock∨v'.ownBlock=some w.heap.size)→K (a.put o.dst v') w'):
  o.wp Tryz.prog a w K Q:=by
 obtain⟨i0,hi0,hz0,hz1,hz2⟩:=info_parts edge_info
 obtain⟨v',w',hrun,h1,h2,_,h5⟩:=run_append_own_at (P:=Tryz.prog) w base 80 o.type 154 i0 _ 3 24 Tryz.underlying80 hi0 hz0 hz1 hz2 rfl (by decide) v es.length (edCs es) hown.1 ⟨b,0,none⟩ 1 1 (edC e) rfl
  (fun j u hj=>by rw[Addr.add_lit,Nat.zero_add];exact hc j u hj) (by intro u hu;simp[edC] at hu;rcases hu with rfl | rfl | rfl<;>rfl) (by unfold maxLen;omega) (by omega) hbase
 unfold Oper.wp execOp
 simp only[ho,resolve,invoke,builtin,Sem.run_bind,Sem.run_pure,Result.andThen_ok,List.map_toArray,List.map_cons,List.map_nil,hs,hx,hrun]
 refine h v' w' ⟨?_,E64s_append hown.2 (E64s_one he)⟩ h2 h5
 have e1:edCs (es++ [e])=edCs es++edC e:=by rw[edCs_append];simp[edCs]
 rw[e1,List.length_append]
 exact h1
theorem set_minus (N k:Nat) (h:k<N):((List.replicate k (-1:Int))++List.replicate (N-k) 0).set k (-1)=List.replicate (k+1) (-1)++List.replicate (N-(k+1)) 0:=by
 obtain⟨m,hm⟩: ∃m,N-k=m+1:=⟨N-k-1,by omega⟩
 rw[hm,show N-(k+1)=m by omega,List.set_append_right _ _ (by simp),List.length_replicate,Nat.sub_self,List.replicate_succ,List.set_cons_zero,List.replicate_succ']
 simp
set_option maxHeartbeats 1000000 in
theorem part_anyN (v vo:Value) (g:GrD) (o:List Int) (w:World) (h:ArgG w v g) (ho:RdI w vo o) (hg:grB g=true) (hok:OrdN g.2.1 o):
  Calls Tryz.prog 155 #[v,vo] w fun e w'=> ∃r,e= .returned r∧OwG w' w.heap.size r (rnG g o)∧Below w.heap.size w w':=by
 have HG:=hDD h
 have HOK:=hDD hok
 have HOR:=hDD ho
 obtain⟨hr13,hsz40,hl120,_⟩:=grB_parts hg
 have HED:=hDD (fun e he=>edge_of_gr hg (e:=e) he)
 have HND:=hDD hok.1
 have HNDE:=hDD (gr_nodup hg).2
 obtain⟨r,n,es⟩:=g
 simp only at hr13 hsz40 hl120 HG HED hok HOK HNDE
 obtain⟨N,rfl⟩: ∃N:Nat,n=(N:Int):=⟨n.toNat,by omega⟩
 have hN1:1≤N:=by omega
 have hN2:N≤40:=by omega
 have hol:o.length≤N:=nodup_len N o hok.1 fun y hy=>by have:=hok.2.1 y hy;omega
 have HRANGE:Hid (∀k (hk:k<o.length),∃u:Nat,o[k]=(u:Int)∧u<N):=hDD fun k hk=>by
  have:=hok.2.1 o[k] (by simp)
  exact⟨o[k].toNat,by omega,by omega⟩
 clear hsz40 hg hok h
 obtain⟨A,cap,rfl,HE⟩: ∃A cap,v= .agg #[.int .i64 r, .int .i64 N, .slice A es.length cap]∧Hid (ArgE w (.slice A es.length cap) es):=by
  obtain⟨s,hv,_,_,ha⟩:=HG.out
  obtain⟨A,cap,rfl⟩:=ha.form
  exact⟨A,cap,hv,hDD ha⟩
 obtain⟨Ao,capo,rfl,hco,hmo,_⟩:=ho.arg
 have hbndE:es.length≤cap∧cap≤maxLen:=by
  obtain⟨_,_,hv,h1,h2,_⟩:=HE.out
  injection hv with _ _ e3
  subst e3
  exact⟨h1,h2⟩
 obtain⟨hcap,hm⟩:=hbndE
 unfold maxLen at hmo hm
 clear ho
 have bx:Below w.heap.size w ((w.alloc (Obj.cells #[Value.int IntKind.i64 r,Value.int IntKind.i64 N, .slice A es.length cap] 82)).alloc (Obj.cells #[Value.int IntKind.i64 0,Value.int IntKind.i64 0, .slice none 0 0] 82)):=(by repeat(first | exact Below.refl _ _ | (refine Below.setCell ?_ (by first | omega | (simp<;>omega)) _) | (refine bel_drewN ?_ _) | (refine Below.drew ?_) | (refine Below.alloc ?_ (by first | omega | (simp<;>omega)) _)))
 go_enter Tryz.func155,Tryz.ntmps155
 obtain⟨i0,hi0,hz0,hz1,hz2⟩:=info_parts int_info
 go_wp2_with (at_make;refine wpList_make_full _ rfl _ _ 24 rfl (w.heap.size+1+1) 3 i0 (.int .i64 0) 1 Tryz.underlying24 hi0 hz0 hz1 _ _ _ _ N rfl rfl rfl rfl (by rw[hz2];omega) (by unfold maxLen;omega) (by simp) ?_)
 obtain⟨W0,hW0⟩: ∃W,W=(w.alloc (Obj.cells #[Value.int IntKind.i64 r,Value.int IntKind.i64 N, .slice A es.length cap] 82)).alloc (Obj.cells #[Value.int IntKind.i64 0,Value.int IntKind.i64 0, .slice none 0 0] 82):=⟨_,rfl⟩
 rw[←hW0] at bx⊢
 have hsW:W0.heap.size=w.heap.size+1+1:=by rw[hW0];simp
 have B0:Hid (W0.cell? ⟨w.heap.size,0,none⟩=some (.int .i64 r)):=hDD (by rw[hW0];simp[go_sem])
 have B2:Hid (W0.cell? ⟨w.heap.size,2,none⟩=some (.slice A es.length cap)):=hDD (by rw[hW0];simp[go_sem])
 have R0:Hid (W0.cell? ⟨w.heap.size+1,0,none⟩=some (.int .i64 0)):=hDD (by rw[hW0];simp[go_sem])
 have R1:Hid (W0.cell? ⟨w.heap.size+1,1,none⟩=some (.int .i64 0)):=hDD (by rw[hW0];simp[go_sem])
 have R2:Hid (W0.cell? ⟨w.heap.size+1,2,none⟩=some (.slice none 0 0)):=hDD (by rw[hW0];simp[go_sem])
 have RF:Hid (∀j,W0.frozen? ⟨w.heap.size+1,j,none⟩=false):=hDD fun j=>by rw[hW0];simp[go_sem]
 clear hW0
 rw[←hsW]
 have BX:=hDD bx
 have HSW:=hDD hsW
 have hltw:w.heap.size<W0.heap.size:=by omega
 have hltw1:w.heap.size+1<W0.heap.size:=by omega
 clear bx hsW
 intro w2 hown0 hgrow0
 have own0:OwI w2 W0.heap.size (.slice (some ⟨W0.heap.size,0,none⟩) N N) (List.replicate 0 (-1)++List.replicate (N-0) 0):=by
  refine⟨?_,fun y hy=> ?_⟩
  ·simp only[List.replicate_zero,List.nil_append,Nat.sub_zero,List.length_replicate]
   have:ints (List.replicate N 0)=List.replicate N (Value.int .i64 0):=by simp[ints]
   rw[this]
   simpa[toList_madeCells_one] using hown0
  ·simp only[List.replicate_zero,List.nil_append,Nat.sub_zero] at hy
   obtain⟨_,rfl⟩:=List.mem_replicate.1 hy
   exact⟨by decide,by decide⟩
 have HO0:=hDD own0
 have HB0:=hDD ((Below.refl W0.heap.size W0).grown hgrow0 (Nat.le_refl _) (fun k h=>by cases h))
 clear own0 hown0 hgrow0
 go_wp2
 go_loopw [17] (fun i wr=> ∃k:Nat,k≤N∧i= .int .i64 k∧OwI wr W0.heap.size (.slice (some ⟨W0.heap.size,0,none⟩) N N) (List.replicate k (-1)++List.replicate (N-k) 0)∧Below W0.heap.size W0 wr) (fun i _=>N-(intOf i).toNat)
 case atStart=>exact⟨0,Nat.zero_le _,rfl,HO0.out,HB0.out⟩
 case round=>
  obtain⟨k,hk,rfl,hown,hbel⟩:=hrel
  have HB:=hDD hbel
  have hs:=hbel.size
  have HO:=hDD hown
  by_cases hlt:k<N
  ·have hcell:=hown.cellAt k (by simp;omega)
   have hfz:=hown.free k
   have HS:=hDD (hown.set k (-1) ⟨by decide,by decide⟩)
   have HSET:=hDD (set_minus N k hlt)
   clear hown hbel
   generalize (List.replicate k (-1:Int)++List.replicate (N-k) 0)[k]'(by simp;omega)=z0 at hcell
   go_wp2
   go_roundw
   case rel=>exact⟨k+1,by omega,by go_num,by rw[←HSET.out];exact HS.out.1,HB.out.grown HS.out.2 (by omega) (fun j hj=>by cases hj;exact Nat.le_refl _)⟩
   case measure=>simp[intOf];omega
  ·obtain rfl:k=N:=by omega
   have HO1:Hid (OwI wr W0.heap.size (.slice (some ⟨W0.heap.size,0,none⟩) k k) (plc k (o.take 0) 1)):=hDD (by
    rw[List.take_zero,plc_nil]
    simpa using HO.out)
   clear hown hbel
   go_wp2
   go_loopw [26] (fun i wr=> ∃j:Nat,j≤o.length∧i= .int .i64 j∧OwI wr W0.heap.size (.slice (some ⟨W0.heap.size,0,none⟩) k k) (plc k (o.take j) 1)∧Below W0.heap.size W0 wr) (fun i _=>o.length-(intOf i).toNat)
   case atStart=>exact⟨0,Nat.zero_le _,rfl,HO1.out,HB.out⟩
   case round=>
    obtain⟨j,hj,rfl,hown,hbel⟩:=hrel
    have HB1:=hDD hbel
    have hs1:=hbel.size
    have HO2:=hDD hown
    by_cases hlt2:j<o.length
    ·obtain⟨bo,offo,rfl,hbo,hco2⟩:=(HOR.out.below (BX.out.trans (hbel.mono (by omega)))).at (by omega)
     have c0:=hco2 j hlt2
     obtain⟨u,hu,huN⟩:=HRANGE.out j hlt2
     rw[hu] at c0
     have hcur:=hown.cellAt u (by rw[plc_len];exact huN)
     have hfz:=hown.free u
     have HSET:=hDD (hown.set u (j:Int) ⟨by omega,by omega⟩)
     have HSUC:Hid ((plc k (o.take j) 1).set u (j:Int)=plc k (o.take (j+1)) 1):=hDD (by
      have:=plc_succ k o 1 j hlt2 HND.out u hu
      rwa [Int.add_sub_cancel] at this)
     generalize (plc k (o.take j) 1)[u]'(by rw[plc_len];exact huN)=z0 at hcur
     have j0:(0:Int)≤(u:Int):=by omega
     have j1:(u:Int)<(k:Int):=by omega
     clear hco2 hu hown hbel
     go_wp2
     go_roundw
     case rel=>exact⟨j+1,by omega,by go_num,by rw[←HSUC.out];exact HSET.out.1,HB1.out.grown HSET.out.2 (by omega) (fun j hj=>by cases hj;exact Nat.le_refl _)⟩
     case measure=>simp[intOf];omega
    ·obtain rfl:j=o.length:=by omega
     rw[List.take_length] at HO2
     have hP:=(HO2.out.1.lt W0.heap.size rfl).2
     have q0:=(hbel.cell (p:=⟨w.heap.size,0,none⟩) hltw).trans B0.out
     have q2:=(hbel.cell (p:=⟨w.heap.size,2,none⟩) hltw).trans B2.out
     have hlt3:w.heap.size<wr.heap.size:=by omega
     have hlt4:w.heap.size+1<wr.heap.size:=by omega
     have hA: ∀ob o',(wr.alloc ob).cell? ⟨w.heap.size,o',none⟩=wr.cell? ⟨w.heap.size,o',none⟩:=fun ob o'=>World.cell?_of_block (Below.heap_alloc wr ob (w.heap.size) hlt3)
     clear hown hbel
     go_wp2
     generalize hw5:wr=w5 at*
     clear hw5
     have HPL:Hid (∀(wl:World),w5.grownBy wl (some w5.heap.size)→ ∀u:Nat,u<k→wl.cell? ⟨W0.heap.size,u,none⟩=some (.int .i64 (plv o u-1))):=hDD fun wl hg u hu=>by
      rw[grown_cell hg hP (by omega),HO2.out.cellAt u (by rw[plc_len];exact hu),plc_get _ _ _ _ hu]
     have PLR:Hid (∀v:Int,0≤plv o v∧plv o v≤40):=hDD fun v=>by have:=plv_range o v;omega
     go_loopw [44] (fun i wl=> ∃(j:Nat) (A2:Option Addr) (cap2:Nat),j≤es.length∧i= .int .i64 j∧wl.cell? ⟨w5.heap.size,2,none⟩=some (.slice A2 (rnL (es.take j) o).length cap2)∧OwE wl (w5.heap.size+1) (.slice A2 (rnL (es.take j) o).length cap2) (rnL (es.take j) o)∧w5.grownBy wl (some w5.heap.size)∧wl.cell? ⟨w5.heap.size,0,none⟩=some (.int .i64 r)∧wl.cell? ⟨w5.heap.size,1,none⟩=some (.int .i64 o.length)∧(∀j,wl.frozen? ⟨w5.heap.size,j,none⟩=false)∧w5.heap.size<wl.heap.size) (fun i _=>es.length-(intOf i).toNat)
     case atStart=>exact⟨0,none,0,Nat.zero_le _,rfl,by show _=some (Value.slice none 0 0);simp[go_sem],OwE.nil,grown_bel ((Below.refl _ _).alloc (Nat.le_refl _) _),by simp[go_sem],by simp[go_sem],fun j=>by simp[go_sem],by simp⟩
     case round=>
      obtain⟨j,A2,cap2,hk2,rfl,hx2,hown2,hgr,hx0,hx1,hxf,hXr⟩:=hrel
      have HGW:=hDD hgr
      have hsz2:=hgr.size
      have HBw:=hDD (BX.out.trans (HB1.out.mono (show w.heap.size≤W0.heap.size by omega)))
      have HBw2:=hDD (HBw.out.grown hgr (by omega) (fun j hj=>by cases hj;omega))
      have b2:=(grown_cell (o:=2) hgr (show w.heap.size<w5.heap.size by omega) (by omega)).trans q2
      have HX2:=hDD hx2
      have HX0:=hDD hx0
      have HX1:=hDD hx1
      have HXF:=hDD hxf
      clear hx0 hx1 hxf
      have HOW2:=hDD hown2
      clear hgr hown2
      by_cases hlt3:j<es.length
      ·obtain⟨be,offe,rfl,hbe,c0,c1,c2,he64⟩:=(HE.out.below HBw2.out).at hlt3
       obtain⟨e1,e2,e3⟩:=HED.out es[j] (by simp)
       have HS:=hDD (rnL_succ es o j hlt3)
       have HSS:Hid (∀x,rnE o es[j]=some x→rnL (es.take (j+1)) o=rnL (es.take j) o++ [x]):=hDD fun x hx=>by
        rw[HS.out,hx]
        rfl
       have HSN:Hid (rnE o es[j]=none→rnL (es.take (j+1)) o=rnL (es.take j) o):=hDD fun hx=>by rw[HS.out,hx];simp
       have hlr:(rnL (es.take j) o).length≤120:=by
        have h2:=rnL_len (es.take j) o
        rw[List.length_take] at h2
        omega
       generalize es[j]=e at*
       obtain⟨f,l,t⟩:=e
       simp only at e1 e2 e3 c0 c1 c2
       obtain⟨a,rfl⟩: ∃a:Nat,f=(a:Int):=⟨f.toNat,by omega⟩
       obtain⟨c,rfl⟩: ∃c:Nat,t=(c:Int):=⟨t.toNat,by omega⟩
       have pa:=HPL.out wr HGW.out a (by omega)
       have pc:=HPL.out wr HGW.out c (by omega)
       obtain⟨ra1,ra2⟩:=PLR.out a
       obtain⟨rc1,rc2⟩:=PLR.out c
       have RN:Hid (rnE o ((a:Int),l,(c:Int))=if 0<plv o a∧0<plv o c then some (plv o a-1,l,plv o c-1) else none):=hDD rfl
       have ja:(a:Int)<(k:Int):=by omega
       have jc:(c:Int)<(k:Int):=by omega
       have ja0:(0:Int)≤(a:Int):=by omega
       have jc0:(0:Int)≤(c:Int):=by omega
       have hPr:W0.heap.size<wr.heap.size:=by omega
       have hl64:I64 l:=by unfold I64;omega
       have HL64:=hDD hl64
       generalize plv o a=pav at*
       generalize plv o c=pcv at*
       generalize hL:rnL (es.take j) o=L at*
       clear hl64 HS he64
       have bA:Below wr.heap.size wr (wr.alloc (Obj.cells #[Value.int IntKind.i64 a,Value.int IntKind.i64 l,Value.int IntKind.i64 c] 154)):=(Below.refl _ _).alloc (Nat.le_refl _) _
       by_cases t1:0≤pav-1
       ·by_cases t2:0≤pcv-1
        ·have F:=hDD (HSS.out _ (by rw[RN.out,if_pos ⟨by omega,by omega⟩]))
         go_wp2_with fail
         have sA:wr.heap.size<(wr.alloc (Obj.cells #[Value.int IntKind.i64 a,Value.int IntKind.i64 l,Value.int IntKind.i64 c] 154)).heap.size:=by simp
         have l0:(wr.alloc (Obj.cells #[Value.int IntKind.i64 a,Value.int IntKind.i64 l,Value.int IntKind.i64 c] 154)).cell? ⟨wr.heap.size,0,none⟩=some (.int .i64 a):=by simp[go_sem]
         have l1:(wr.alloc (Obj.cells #[Value.int IntKind.i64 a,Value.int IntKind.i64 l,Value.int IntKind.i64 c] 154)).cell? ⟨wr.heap.size,1,none⟩=some (.int .i64 l):=by simp[go_sem]
         have l2:(wr.alloc (Obj.cells #[Value.int IntKind.i64 a,Value.int IntKind.i64 l,Value.int IntKind.i64 c] 154)).cell? ⟨wr.heap.size,2,none⟩=some (.int .i64 c):=by simp[go_sem]
         generalize wr.alloc (Obj.cells #[Value.int IntKind.i64 a,Value.int IntKind.i64 l,Value.int IntKind.i64 c] 154)=W at bA sA l0 l1 l2⊢
         have la:=(bA.cell (p:=⟨W0.heap.size,a,none⟩) hPr).trans pa
         have lc:=(bA.cell (p:=⟨W0.heap.size,c,none⟩) hPr).trans pc
         have lx:=(bA.cell (p:=⟨w5.heap.size,2,none⟩) hXr).trans HX2.out
         have LX0:=hDD ((bA.cell (p:=⟨w5.heap.size,0,none⟩) hXr).trans HX0.out)
         have LX1:=hDD ((bA.cell (p:=⟨w5.heap.size,1,none⟩) hXr).trans HX1.out)
         have LXF:Hid (∀j,W.frozen? ⟨w5.heap.size,j,none⟩=false):=hDD fun j=>(bA.frozen (p:=⟨w5.heap.size,j,none⟩) hXr).trans (HXF.out j)
         have OW:=hDD (HOW2.out.below bA)
         have GW:=hDD (HGW.out.trans (grown_bel bA))
         have hXW:w5.heap.size<W.heap.size:=by omega
         have hPW:W0.heap.size<W.heap.size:=by omega
         have hPX:W0.heap.size≠w5.heap.size:=by omega
         clear bA pa pc hx2
         refine wp_region_T' (n:=18) (S:=fun w'=>w'.cell? ⟨w5.heap.size,2,none⟩=some (.slice A2 L.length cap2)∧w'.cell? ⟨W0.heap.size,a,none⟩=some (.int .i64 (pav-1))∧w'.cell? ⟨W0.heap.size,c,none⟩=some (.int .i64 (pcv-1))∧w'.cell? ⟨wr.heap.size,0,none⟩=some (.int .i64 a)∧w'.cell? ⟨wr.heap.size,1,none⟩=some (.int .i64 l)∧w'.cell? ⟨wr.heap.size,2,none⟩=some (.int .i64 c)) (by kernel_rfl) (by rfl) ⟨lx,la,lc,l0,l1,l2⟩ (fun hHeld=> ?_)
         (refine wpAnyT_take (n:=18) (i:=0) (v:= ?_) rfl (by kernel_rfl) rfl (by decide) (by kernel_rfl) (by kernel_rfl) (by kernel_rfl) (by kernel_rfl) (fun _ _ _ h=>h) (Or.inl ⟨by rfl,?_⟩) (by assumption) ?_;rotate_left;focus (intro ww hSw;(try dsimp only at hSw);go_simp;try with_reducible rfl);(try simp only[Act.put,List.setIfInBounds_toArray,List.set_cons_zero,List.set_cons_succ]));(refine wpAnyT_take (n:=18) (i:=1) (v:= ?_) rfl (by kernel_rfl) rfl (by decide) (by kernel_rfl) (by kernel_rfl) (by kernel_rfl) (by kernel_rfl) (fun _ _ _ h=>h) (Or.inl ⟨by rfl,?_⟩) (by assumption) ?_;rotate_left;focus (intro ww hSw;(try dsimp only at hSw);go_simp;try with_reducible rfl);(try simp only[Act.put,List.setIfInBounds_toArray,List.set_cons_zero,List.set_cons_succ]));(refine wpAnyT_take (n:=18) (i:=2) (v:= ?_) rfl (by kernel_rfl) rfl (by decide) (by kernel_rfl) (by kernel_rfl) (by kernel_rfl) (by kernel_rfl) (fun _ _ _ h=>h) (Or.inl ⟨by rfl,?_⟩) (by assumption) ?_;rotate_left;focus (intro ww hSw;(try dsimp only at hSw);go_simp;try with_reducible rfl);(try simp only[Act.put,List.setIfInBounds_toArray,List.set_cons_zero,List.set_cons_succ]));(refine wpAnyT_take (n:=18) (i:=3) (v:= ?_) rfl (by kernel_rfl) rfl (by decide) (by kernel_rfl) (by kernel_rfl) (by kernel_rfl) (by kernel_rfl) (fun _ _ _ h=>h) (Or.inl ⟨by rfl,?_⟩) (by assumption) ?_;rotate_left;focus (intro ww hSw;(try dsimp only at hSw);go_simp;try with_reducible rfl);(try simp only[Act.put,List.setIfInBounds_toArray,List.set_cons_zero,List.set_cons_succ]));(refine wpAnyT_take (n:=18) (i:=4) (v:= ?_) rfl (by kernel_rfl) rfl (by decide) (by kernel_rfl) (by kernel_rfl) (by kernel_rfl) (by kernel_rfl) (fun _ _ _ h=>h) (Or.inl ⟨by rfl,?_⟩) (by assumption) ?_;rotate_left;focus (intro ww hSw;(try dsimp only at hSw);go_simp;try with_reducible rfl);(try simp only[Act.put,List.setIfInBounds_toArray,List.set_cons_zero,List.set_cons_succ]));(refine wpAnyT_take (n:=18) (i:=5) (v:= ?_) rfl (by kernel_rfl) rfl (by decide) (by kernel_rfl) (by kernel_rfl) (by kernel_rfl) (by kernel_rfl) (fun _ _ _ h=>h) (Or.inl ⟨by rfl,?_⟩) (by assumption) ?_;rotate_left;focus (intro ww hSw;(try dsimp only at hSw);go_simp;try with_reducible rfl);(try simp only[Act.put,List.setIfInBounds_toArray,List.set_cons_zero,List.set_cons_succ]));(refine wpAnyT_take (n:=18) (i:=6) (v:= ?_) rfl (by kernel_rfl) rfl (by decide) (by kernel_rfl) (by kernel_rfl) (by kernel_rfl) (by kernel_rfl) (fun _ _ _ h=>h) (Or.inl ⟨by rfl,?_⟩) (by assumption) ?_;rotate_left;focus (intro ww hSw;(try dsimp only at hSw);go_simp;try with_reducible rfl);(try simp only[Act.put,List.setIfInBounds_toArray,List.set_cons_zero,List.set_cons_succ]));(refine wpAnyT_take (n:=18) (i:=7) (v:= ?_) rfl (by kernel_rfl) rfl (by decide) (by kernel_rfl) (by kernel_rfl) (by kernel_rfl) (by kernel_rfl) (fun _ _ _ h=>h) (Or.inl ⟨by rfl,?_⟩) (by assumption) ?_;rotate_left;focus (intro ww hSw;(try dsimp only at hSw);go_simp;try with_reducible rfl);(try simp only[Act.put,List.setIfInBounds_toArray,List.set_cons_zero,List.set_cons_succ]));(refine wpAnyT_take (n:=18) (i:=8) (v:= ?_) rfl (by kernel_rfl) rfl (by decide) (by kernel_rfl) (by kernel_rfl) (by kernel_rfl) (by kernel_rfl) (fun _ _ _ h=>h) (Or.inl ⟨by rfl,?_⟩) (by assumption) ?_;rotate_left;focus (intro ww hSw;(try dsimp only at hSw);go_simp;try with_reducible rfl);(try simp only[Act.put,List.setIfInBounds_toArray,List.set_cons_zero,List.set_cons_succ]));(refine wpAnyT_take (n:=18) (i:=9) (v:= ?_) rfl (by kernel_rfl) rfl (by decide) (by kernel_rfl) (by kernel_rfl) (by kernel_rfl) (by kernel_rfl) (fun _ _ _ h=>h) (Or.inl ⟨by rfl,?_⟩) (by assumption) ?_;rotate_left;focus (intro ww hSw;(try dsimp only at hSw);go_simp;try with_reducible rfl);(try simp only[Act.put,List.setIfInBounds_toArray,List.set_cons_zero,List.set_cons_succ]));(refine wpAnyT_take (n:=18) (i:=10) (v:= ?_) rfl (by kernel_rfl) rfl (by decide) (by kernel_rfl) (by kernel_rfl) (by kernel_rfl) (by kernel_rfl) (fun _ _ _ h=>h) (Or.inl ⟨by rfl,?_⟩) (by assumption) ?_;rotate_left;focus (intro ww hSw;(try dsimp only at hSw);go_simp;try with_reducible rfl);(try simp only[Act.put,List.setIfInBounds_toArray,List.set_cons_zero,List.set_cons_succ]));(refine wpAnyT_take (n:=18) (i:=11) (v:= ?_) rfl (by kernel_rfl) rfl (by decide) (by kernel_rfl) (by kernel_rfl) (by kernel_rfl) (by kernel_rfl) (fun _ _ _ h=>h) (Or.inl ⟨by rfl,?_⟩) (by assumption) ?_;rotate_left;focus (intro ww hSw;(try dsimp only at hSw);go_simp;try with_reducible rfl);(try simp only[Act.put,List.setIfInBounds_toArray,List.set_cons_zero,List.set_cons_succ]));(refine wpAnyT_take (n:=18) (i:=12) (v:= ?_) rfl (by kernel_rfl) rfl (by decide) (by kernel_rfl) (by kernel_rfl) (by kernel_rfl) (by kernel_rfl) (fun _ _ _ h=>h) (Or.inl ⟨by rfl,?_⟩) (by assumption) ?_;rotate_left;focus (intro ww hSw;(try dsimp only at hSw);go_simp;try with_reducible rfl);(try simp only[Act.put,List.setIfInBounds_toArray,List.set_cons_zero,List.set_cons_succ]));(refine wpAnyT_take (n:=18) (i:=13) (v:= ?_) rfl (by kernel_rfl) rfl (by decide) (by kernel_rfl) (by kernel_rfl) (by kernel_rfl) (by kernel_rfl) (fun _ _ _ h=>h) (Or.inl ⟨by rfl,?_⟩) (by assumption) ?_;rotate_left;focus (intro ww hSw;(try dsimp only at hSw);go_simp;try with_reducible rfl);(try simp only[Act.put,List.setIfInBounds_toArray,List.set_cons_zero,List.set_cons_succ]));(refine wpAnyT_take (n:=18) (i:=14) (v:= ?_) rfl (by kernel_rfl) rfl (by decide) (by kernel_rfl) (by kernel_rfl) (by kernel_rfl) (by kernel_rfl) (fun _ _ _ h=>h) (Or.inl ⟨by rfl,?_⟩) (by assumption) ?_;rotate_left;focus (intro ww hSw;(try dsimp only at hSw);go_simp;try with_reducible rfl);(try simp only[Act.put,List.setIfInBounds_toArray,List.set_cons_zero,List.set_cons_succ]))
         refine wpAnyT_step (i:=15) (by kernel_rfl) rfl fun K' hK=> ?_
         go_simp
         have hNW:W0.heap.size≠W.heap.size:=by omega
         have hNX:w5.heap.size≠W.heap.size:=by omega
         have hNe:wr.heap.size≠W.heap.size:=by omega
         have bB:Below W.heap.size W (W.alloc (Obj.cells #[Value.int IntKind.i64 (pav-1),Value.int IntKind.i64 l,Value.int IntKind.i64 (pcv-1)] 154)).drew:=(by repeat(first | exact Below.refl _ _ | (refine Below.setCell ?_ (by first | omega | (simp<;>omega)) _) | (refine bel_drewN ?_ _) | (refine Below.drew ?_) | (refine Below.alloc ?_ (by first | omega | (simp<;>omega)) _)))
         have nE: ∀j u,(edC (pav-1,l,pcv-1))[j]? =some u→(W.alloc (Obj.cells #[Value.int IntKind.i64 (pav-1),Value.int IntKind.i64 l,Value.int IntKind.i64 (pcv-1)] 154)).drew.cell? ⟨W.heap.size,j,none⟩=some u:=fun j u hj=>by
          rcases j with _ | _ | _ | j<;>simp[edC] at hj<;>subst hj<;>simp[go_sem]
         have sB:W.heap.size<(W.alloc (Obj.cells #[Value.int IntKind.i64 (pav-1),Value.int IntKind.i64 l,Value.int IntKind.i64 (pcv-1)] 154)).drew.heap.size:=by simp
         have hHeld2:(W.alloc (Obj.cells #[Value.int IntKind.i64 (pav-1),Value.int IntKind.i64 l,Value.int IntKind.i64 (pcv-1)] 154)).drew.cell? ⟨w5.heap.size,2,none⟩=some (.slice A2 L.length cap2)∧(W.alloc (Obj.cells #[Value.int IntKind.i64 (pav-1),Value.int IntKind.i64 l,Value.int IntKind.i64 (pcv-1)] 154)).drew.cell? ⟨W0.heap.size,a,none⟩=some (.int .i64 (pav-1))∧(W.alloc (Obj.cells #[Value.int IntKind.i64 (pav-1),Value.int IntKind.i64 l,Value.int IntKind.i64 (pcv-1)] 154)).drew.cell? ⟨W0.heap.size,c,none⟩=some (.int .i64 (pcv-1))∧(W.alloc (Obj.cells #[Value.int IntKind.i64 (pav-1),Value.int IntKind.i64 l,Value.int IntKind.i64 (pcv-1)] 154)).drew.cell? ⟨wr.heap.size,0,none⟩=some (.int .i64 a)∧(W.alloc (Obj.cells #[Value.int IntKind.i64 (pav-1),Value.int IntKind.i64 l,Value.int IntKind.i64 (pcv-1)] 154)).drew.cell? ⟨wr.heap.size,1,none⟩=some (.int .i64 l)∧(W.alloc (Obj.cells #[Value.int IntKind.i64 (pav-1),Value.int IntKind.i64 l,Value.int IntKind.i64 (pcv-1)] 154)).drew.cell? ⟨wr.heap.size,2,none⟩=some (.int .i64 c):=
          ⟨(bB.cell (p:=⟨w5.heap.size,2,none⟩) hXW).trans lx,(bB.cell (p:=⟨W0.heap.size,a,none⟩) hPW).trans la,(bB.cell (p:=⟨W0.heap.size,c,none⟩) hPW).trans lc,(bB.cell (p:=⟨wr.heap.size,0,none⟩) sA).trans l0,(bB.cell (p:=⟨wr.heap.size,1,none⟩) sA).trans l1,(bB.cell (p:=⟨wr.heap.size,2,none⟩) sA).trans l2⟩
         clear hHeld
         refine hK.out _ _ hHeld2 (fun _=> ?_)
         clear hK
         generalize (W.alloc (Obj.cells #[Value.int IntKind.i64 (pav-1),Value.int IntKind.i64 l,Value.int IntKind.i64 (pcv-1)] 154)).drew=V at bB nE sB hHeld2⊢
         have sV:W.heap.size<V.heap.size:=sB
         refine wpAnyT_step (i:=16) (by kernel_rfl) rfl fun K' hK=> ?_
         rw[if_pos (by rfl)]
         refine wp_push_edge (.tmp 63) (.tmp 77) rfl (w5.heap.size+1) _ L (OW.out.below bB) rfl W.heap.size (pav-1,l,pcv-1) rfl nE ⟨⟨by simp only;omega,by simp only;omega⟩,HL64.out,⟨by simp only;omega,by simp only;omega⟩⟩ (by omega) (by omega) ?_
         intro v' w' o' g' p'
         obtain⟨A9,cap9,rfl,_⟩:=OwE.form o'
         have O9:=hDD o'
         clear o'
         have hrow: ∀x,(Value.slice A2 L.length cap2).ownBlock=some x→w5.heap.size+1≤x∧x<wr.heap.size:=fun x hx=>HOW2.out.1.lt x hx
         have ne1: ∀y,y<V.heap.size→(y≤w5.heap.size∨y=wr.heap.size)→some y≠(Value.slice A2 L.length cap2).ownBlock:=fun y _ h he=>by
          have:=hrow y he.symm
          omega
         have cW: ∀y o u,y<V.heap.size→(y≤w5.heap.size∨y=wr.heap.size)→V.cell? ⟨y,o,none⟩=some u→w'.cell? ⟨y,o,none⟩=some u:=fun y o u h1 h2 h3=>(World.cell?_of_block (w:=V) (g'.block y h1 (ne1 y h1 h2))).trans h3
         obtain⟨k1,k2,k3,k4,k5,k6⟩:=hHeld2
         have hHeld3:w'.cell? ⟨w5.heap.size,2,none⟩=some (.slice A2 L.length cap2)∧w'.cell? ⟨W0.heap.size,a,none⟩=some (.int .i64 (pav-1))∧w'.cell? ⟨W0.heap.size,c,none⟩=some (.int .i64 (pcv-1))∧w'.cell? ⟨wr.heap.size,0,none⟩=some (.int .i64 a)∧w'.cell? ⟨wr.heap.size,1,none⟩=some (.int .i64 l)∧w'.cell? ⟨wr.heap.size,2,none⟩=some (.int .i64 c):=
          ⟨cW _ _ _ (by omega) (by omega) k1,cW _ _ _ (by omega) (by omega) k2,cW _ _ _ (by omega) (by omega) k3,cW _ _ _ (by omega) (by omega) k4,cW _ _ _ (by omega) (by omega) k5,cW _ _ _ (by omega) (by omega) k6⟩
         refine hK.out _ _ hHeld3 (fun _=> ?_)
         clear hK
         simp only[Act.put,List.setIfInBounds_toArray,List.set_cons_zero,List.set_cons_succ]
         (refine wpAnyT_take (n:=18) (i:=17) (v:= ?_) rfl (by kernel_rfl) rfl (by decide) (by kernel_rfl) (by kernel_rfl) (by kernel_rfl) (by kernel_rfl) (fun _ _ _ h=>h) (Or.inl ⟨by rfl,?_⟩) (by assumption) ?_;rotate_left;focus (intro ww hSw;(try dsimp only at hSw);go_simp;try with_reducible rfl);(try simp only[Act.put,List.setIfInBounds_toArray,List.set_cons_zero,List.set_cons_succ]))
         have qf:w'.frozen? ⟨w5.heap.size,2,none⟩=false:=((World.frozen?_of_block (w:=V) (g'.block w5.heap.size (by omega) (ne1 _ (by omega) (by omega)))).trans (bB.frozen (p:=⟨w5.heap.size,2,none⟩) hXW)).trans (LXF.out 2)
         have qx:=hHeld3.1
         refine wpAnyT_last (n:=18) (by kernel_rfl) rfl (by kernel_rfl) fun K' hK=> ?_
         go_simp
         refine hK.out _ _ ?_
         clear hK
         go_wp2
         go_roundw
         case rel=>
          have GV:w5.grownBy V (some w5.heap.size):=GW.out.trans (grown_bel bB)
          have hVw:=g'.size
          have G9:w5.grownBy w' (some w5.heap.size):=⟨g'.os.trans GV.os,g'.tape.trans GV.tape,g'.output.trans GV.output,by omega,fun b hb hne=>(g'.block b (by omega) (ne1 b (by omega) (by omega))).trans (GV.block b hb hne)⟩
          refine⟨j+1,A9,cap9,by omega,by go_num,by rw[F.out,List.length_append];exact World.cell?_setCell_same _ _ _ qx,?_,G9.trans (set_grown _ _ _ _),?_,?_,fun j=> ?_,by simp;omega⟩
          ·rw[F.out]
           have:=O9.out.far (p:=⟨w5.heap.size,2,none⟩) (show w5.heap.size<w5.heap.size+1 by omega) (Value.slice A9 (L.length+1) cap9)
           simpa[List.length_append] using this
          ·rw[World.cell?_setCell_other _ _ _ _ (by simp)]
           exact cW _ _ _ (by omega) (by omega) ((bB.cell (p:=⟨w5.heap.size,0,none⟩) hXW).trans LX0.out)
          ·rw[World.cell?_setCell_other _ _ _ _ (by simp)]
           exact cW _ _ _ (by omega) (by omega) ((bB.cell (p:=⟨w5.heap.size,1,none⟩) hXW).trans LX1.out)
          ·rw[World.frozen?_setCell]
           exact((World.frozen?_of_block (w:=V) (g'.block w5.heap.size (by omega) (ne1 _ (by omega) (by omega)))).trans (bB.frozen (p:=⟨w5.heap.size,j,none⟩) hXW)).trans (LXF.out j)
         case measure=>simp[intOf];omega
        ·have F:=hDD (HSN.out (by rw[RN.out,if_neg (fun h=>t2 (by omega))]))
         go_wp2
         go_roundw
         case rel=>exact⟨j+1,A2,cap2,by omega,by go_num,by rw[F.out];exact(bA.cell (p:=⟨w5.heap.size,2,none⟩) hXr).trans HX2.out,by rw[F.out];exact HOW2.out.below bA,HGW.out.trans (grown_bel bA),(bA.cell (p:=⟨w5.heap.size,0,none⟩) hXr).trans HX0.out,(bA.cell (p:=⟨w5.heap.size,1,none⟩) hXr).trans HX1.out,fun j=>(bA.frozen (p:=⟨w5.heap.size,j,none⟩) hXr).trans (HXF.out j),by simp;omega⟩
         case measure=>simp[intOf];omega
       ·have F:=hDD (HSN.out (by rw[RN.out,if_neg (fun h=>t1 (by omega))]))
        go_wp2
        go_roundw
        case rel=>exact⟨j+1,A2,cap2,by omega,by go_num,by rw[F.out];exact(bA.cell (p:=⟨w5.heap.size,2,none⟩) hXr).trans HX2.out,by rw[F.out];exact HOW2.out.below bA,HGW.out.trans (grown_bel bA),(bA.cell (p:=⟨w5.heap.size,0,none⟩) hXr).trans HX0.out,(bA.cell (p:=⟨w5.heap.size,1,none⟩) hXr).trans HX1.out,fun j=>(bA.frozen (p:=⟨w5.heap.size,j,none⟩) hXr).trans (HXF.out j),by simp;omega⟩
        case measure=>simp[intOf];omega
      ·obtain rfl:j=es.length:=by omega
       rw[List.take_length] at hx2 HOW2
       have HNDR:=hDD (rnL_nodup o HNDE.out)
       have hlr:(rnL es o).length≤120:=by
        have h2:=rnL_len es o
        omega
       have hxf2:=HXF.out 2
       go_wp2_with fail
       refine(sorted_any _ _ _ HOW2.out.arg HNDR.out (by omega)).mono ?_
       rintro e' w9 ⟨r9,rfl,o9,b9⟩
       have B9:=hDD b9
       have qx0:=(b9.cell (p:=⟨w5.heap.size,0,none⟩) hXr).trans HX0.out
       have qx1:=(b9.cell (p:=⟨w5.heap.size,1,none⟩) hXr).trans HX1.out
       have qx2:=(b9.cell (p:=⟨w5.heap.size,2,none⟩) hXr).trans hx2
       have qf2:=(b9.frozen (p:=⟨w5.heap.size,2,none⟩) hXr).trans hxf2
       obtain⟨A9,cap9,rfl,_⟩:=OwE.form o9
       have O9:=hDD o9
       have RR0:=(b9.cell (p:=⟨w.heap.size+1,0,none⟩) (by show w.heap.size+1<wr.heap.size;omega)).trans ((grown_cell (o:=0) HGW.out (show w.heap.size+1<w5.heap.size by omega) (by omega)).trans ((HB1.out.cell (p:=⟨w.heap.size+1,0,none⟩) hltw1).trans R0.out))
       have RR1:=(b9.cell (p:=⟨w.heap.size+1,1,none⟩) (by show w.heap.size+1<wr.heap.size;omega)).trans ((grown_cell (o:=1) HGW.out (show w.heap.size+1<w5.heap.size by omega) (by omega)).trans ((HB1.out.cell (p:=⟨w.heap.size+1,1,none⟩) hltw1).trans R1.out))
       have RR2:=(b9.cell (p:=⟨w.heap.size+1,2,none⟩) (by show w.heap.size+1<wr.heap.size;omega)).trans ((grown_cell (o:=2) HGW.out (show w.heap.size+1<w5.heap.size by omega) (by omega)).trans ((HB1.out.cell (p:=⟨w.heap.size+1,2,none⟩) hltw1).trans R2.out))
       have rrf: ∀j,w9.frozen? ⟨w.heap.size+1,j,none⟩=false:=fun j=>(b9.frozen (p:=⟨w.heap.size+1,j,none⟩) (by show w.heap.size+1<wr.heap.size;omega)).trans ((grown_frozen (o:=j) HGW.out (show w.heap.size+1<w5.heap.size by omega) (by omega)).trans ((HB1.out.frozen (p:=⟨w.heap.size+1,j,none⟩) hltw1).trans (RF.out j)))
       have rf0:=rrf 0
       have rf1:=rrf 1
       have rf2:=rrf 2
       have s9:=b9.size
       clear rrf b9 o9
       generalize hL:srt cmpE (rnL es o)=L at*
       have HLL:=hDD hL
       clear hL
       have nX: ¬w5.heap.size=w.heap.size+1:=by omega
       have nX': ¬w.heap.size+1=w5.heap.size:=by omega
       go_wp2
       have hRw:w.heap.size+1<w9.heap.size:=by omega
       have c0:((((w9.setCell ⟨w5.heap.size,2,none⟩ (.slice A9 L.length cap9)).setCell ⟨w.heap.size+1,0,none⟩ (.int .i64 r)).setCell ⟨w.heap.size+1,1,none⟩ (.int .i64 o.length)).setCell ⟨w.heap.size+1,2,none⟩ (.slice A9 L.length cap9)).cell? ⟨w.heap.size+1,0,none⟩=some (.int .i64 r):=by
        rw[World.cell?_setCell_other _ _ _ _ (by simp),World.cell?_setCell_other _ _ _ _ (by simp)]
        exact World.cell?_setCell_same _ _ _ ((cell_set_other _ _ _ _ _ _ (by omega)).trans RR0)
       have c1:((((w9.setCell ⟨w5.heap.size,2,none⟩ (.slice A9 L.length cap9)).setCell ⟨w.heap.size+1,0,none⟩ (.int .i64 r)).setCell ⟨w.heap.size+1,1,none⟩ (.int .i64 o.length)).setCell ⟨w.heap.size+1,2,none⟩ (.slice A9 L.length cap9)).cell? ⟨w.heap.size+1,1,none⟩=some (.int .i64 o.length):=by
        rw[World.cell?_setCell_other _ _ _ _ (by simp)]
        exact World.cell?_setCell_same _ _ _ ((World.cell?_setCell_other _ _ _ _ (by simp)).trans ((cell_set_other _ _ _ _ _ _ (by omega)).trans RR1))
       have c2:((((w9.setCell ⟨w5.heap.size,2,none⟩ (.slice A9 L.length cap9)).setCell ⟨w.heap.size+1,0,none⟩ (.int .i64 r)).setCell ⟨w.heap.size+1,1,none⟩ (.int .i64 o.length)).setCell ⟨w.heap.size+1,2,none⟩ (.slice A9 L.length cap9)).cell? ⟨w.heap.size+1,2,none⟩=some (.slice A9 L.length cap9):=
        World.cell?_setCell_same _ _ _ ((World.cell?_setCell_other _ _ _ _ (by simp)).trans ((World.cell?_setCell_other _ _ _ _ (by simp)).trans ((cell_set_other _ _ _ _ _ _ (by omega)).trans RR2)))
       have HBw9:=hDD (HBw2.out.trans (B9.out.mono (show w.heap.size≤wr.heap.size by omega)))
       have bw:Below w.heap.size w ((((w9.setCell ⟨w5.heap.size,2,none⟩ (.slice A9 L.length cap9)).setCell ⟨w.heap.size+1,0,none⟩ (.int .i64 r)).setCell ⟨w.heap.size+1,1,none⟩ (.int .i64 o.length)).setCell ⟨w.heap.size+1,2,none⟩ (.slice A9 L.length cap9)):=(by repeat(first | exact Below.refl _ _ | (refine Below.setCell ?_ (by first | omega | (simp<;>omega)) _) | (refine bel_drewN ?_ _) | (refine Below.drew ?_) | (refine Below.alloc ?_ (by first | omega | (simp<;>omega)) _) | (refine Below.trans ?_ (Below.mono (Hid.out HBw9) (by first | omega | (simp<;>omega))))))
       have ow:OwE ((((w9.setCell ⟨w5.heap.size,2,none⟩ (.slice A9 L.length cap9)).setCell ⟨w.heap.size+1,0,none⟩ (.int .i64 r)).setCell ⟨w.heap.size+1,1,none⟩ (.int .i64 o.length)).setCell ⟨w.heap.size+1,2,none⟩ (.slice A9 L.length cap9)) wr.heap.size (.slice A9 L.length cap9) L:=
        (((O9.out.far (p:=⟨w5.heap.size,2,none⟩) (by show w5.heap.size<_;omega) _).far (p:=⟨w.heap.size+1,0,none⟩) (by show w.heap.size+1<_;omega) _).far (p:=⟨w.heap.size+1,1,none⟩) (by show w.heap.size+1<_;omega) _).far (p:=⟨w.heap.size+1,2,none⟩) (by show w.heap.size+1<_;omega) _
       generalize (((w9.setCell ⟨w5.heap.size,2,none⟩ (.slice A9 L.length cap9)).setCell ⟨w.heap.size+1,0,none⟩ (.int .i64 r)).setCell ⟨w.heap.size+1,1,none⟩ (.int .i64 o.length)).setCell ⟨w.heap.size+1,2,none⟩ (.slice A9 L.length cap9)=wf at*
       refine bodyPost_ret (v:= .agg #[.int .i64 r, .int .i64 o.length, .slice A9 L.length cap9]) (by simp[results,Tryz.results155,go_sem,c0,c1,c2]) rfl ⟨_,rfl,⟨.slice A9 L.length cap9,?_,?_,?_,?_⟩,bw⟩
       ·rfl
       ·show I64 r
        unfold I64
        omega
       ·show I64 (o.length:Int)
        unfold I64
        omega
       ·show OwE wf w.heap.size (.slice A9 L.length cap9) (srt cmpE (rnL es o))
        rw[HLL.out]
        exact ow.mono (by omega)
theorem part_any (v vo:Value) (g:GrD) (o:List Int) (w:World) (h:ArgG w v g) (ho:RdI w vo o) (hg:grB g=true) (hok:OrdOk g.2.1 o):
  Calls Tryz.prog 155 #[v,vo] w fun e w'=> ∃r,e= .returned r∧OwG w' w.heap.size r (rnG g o)∧Below w.heap.size w w':=part_anyN v vo g o w h ho hg hok.toN
end Go.Proofs.YtlgcflpaekbopaaGreat

namespace Go.Proofs.YtlgcflpaekbopaaGreat
set_option maxRecDepth 20000
set_option linter.unusedVariables false
set_option linter.unusedSimpArgs false
open Go.RowKit
end Go.Proofs.YtlgcflpaekbopaaGreat
namespace Go.Proofs.YtlgcflpaekbopaaGreat
set_option maxRecDepth 20000
set_option linter.unusedVariables false
set_option linter.unusedSimpArgs false
open Go.RowKit
inductive Sp where
 | val (c:Value)
 | own (p:World→Value→Prop) (h: ∀W W' v,p W v→Below W.heap.size W W'→p W' v)
 | new (p:World→Value→Prop) (h: ∀W W' v,p W v→Below W.heap.size W W'→p W' v)
 | cp (j:Nat)
def Sp.R (vs:Nat→Value):Sp→World→Value→Prop
 | .val c,_,v=>v=c
 | .own p _,W,v=>p W v
 | .new p _,W,v=>p W v∧ ∀b,v.ownBlock=some b→b<W.heap.size
 | .cp j,_,v=>v=vs j
def Sp.S (vs:Nat→Value):Sp→World→World→Value→Prop
 | .val c,_,_,v=>v=c
 | .own p _,_,W',v=>p W' v
 | .new p _,W,W',v=>p W' v∧ ∀b,v.ownBlock=some b→W.heap.size≤b∧b<W'.heap.size
 | .cp j,_,_,v=>v=vs j
def Sp.fr:Sp→Bool
 | .new _ _=>true
 | _=>false
def Sp.pick:Sp→Value→Value
 | .val c,_=>c
 | _,v=>v
def reachB (l:List Oper):Nat→Nat→Nat→Bool
 | 0,_,_=>false
 | f+1,i,j=>match l[i]? with
   | none=>false
   | some o=>o.after.toList.any fun e=>Region.binds .any e&&(e.on==j||reachB l f e.on j)
def freB (l:List Oper):Bool:=
 Region.noSelect l.toArray&&(List.range l.length).all fun i=>match l[i]? with
  | none=>true
  | some o=>o.guard.isNone&&(o.after.all fun e=> !Region.binds .any e||decide (e.on<i))&&
    ((List.range l.length).all fun k=>match l[k]? with
      | none=>true
      | some o'=>(decide (i=k)|| !(o.dst==o'.dst)||o.dst.isNone)&&
        (match o'.dst with
         | none=>true
         | some t=> !(o.looksAt l.toArray).contains t||reachB l l.length i k||reachB l l.length k i))
def actV (S:Nat→Bool) (vs:Nat→Value):List Oper→Nat→Act→Act
 | [],_,b=>b
 | o::r,k,b=>actV S vs r (k+1) (if S k then b.put o.dst (vs k) else b)
section
variable {l:List Oper}
theorem fre_parts (h:freB l=true):Region.noSelect l.toArray=true∧ ∀i o,l[i]? =some o→o.guard=none∧(∀e∈o.after,Region.binds .any e=true→e.on<i)∧(∀k o',l[k]? =some o'→i≠k→ ∀d,o.dst=some d→o'.dst≠some d)∧
  ∀k o' t,l[k]? =some o'→o'.dst=some t→t∈o.looksAt l.toArray→reachB l l.length i k=true∨reachB l l.length k i=true:=by
 unfold freB at h
 rw[Bool.and_eq_true,List.all_eq_true] at h
 refine⟨h.1,fun i o ho=> ?_⟩
 have hi:i<l.length:=(List.getElem?_eq_some_iff.1 ho).1
 have h1:=h.2 i (List.mem_range.2 hi)
 rw[ho] at h1
 simp only[Bool.and_eq_true,Option.isNone_iff_eq_none,List.all_eq_true,List.mem_range] at h1
 obtain⟨⟨h2,h3⟩,h4⟩:=h1
 refine⟨h2,fun e he hb=> ?_,fun k o' hk hik d hd hd'=> ?_,fun k o' t hk ht hl=> ?_⟩
 ·have:=Array.all_eq_true_iff_forall_mem.1 h3 e he
  rw[hb] at this
  simpa using this
 ·have h5:=h4 k ((List.getElem?_eq_some_iff.1 hk).1)
  rw[hk] at h5
  simp only[Bool.and_eq_true,Bool.or_eq_true,decide_eq_true_eq] at h5
  rcases h5.1 with (h6 | h6) | h6
  ·exact hik h6
  ·rw[hd,hd'] at h6;simp at h6
  ·rw[hd] at h6;simp at h6
 ·have h5:=h4 k ((List.getElem?_eq_some_iff.1 hk).1)
  rw[hk] at h5
  simp only[Bool.and_eq_true] at h5
  have h6:=h5.2
  rw[ht] at h6
  simp only[Bool.or_eq_true,Bool.not_eq_true'] at h6
  rcases h6 with (h6 | h6) | h6
  ·rw[List.contains_iff_mem.2 hl] at h6;cases h6
  ·exact .inl h6
  ·exact .inr h6
theorem reach_listed {listed:Array Bool} (hc:Cl l.toArray listed): ∀(f i j:Nat),(∀o,l[i]? =some o→ ∀e∈o.after,Region.binds .any e=true→listed.getD e.on false=true)→reachB l f i j=true→listed.getD j false=true
 | 0,_,_,_,h=>by cases h
 | f+1,i,j,hi,h=>by
   unfold reachB at h
   cases ho:l[i]? with
   | none=>rw[ho] at h;cases h
   | some o=>
     rw[ho] at h
     simp only[List.any_eq_true,Array.mem_toList_iff,Bool.and_eq_true,Bool.or_eq_true,beq_iff_eq] at h
     obtain⟨e,he,hb,h⟩:=h
     have h1:=hi o ho e he hb
     rcases h with h | h
     ·rwa [←h]
     ·exact reach_listed hc f e.on j (fun o' ho' e' he' hb'=>hc.2 e.on o' (by simpa using ho') h1 e' he' hb') h
theorem reach_lt (hB:freB l=true): ∀(f i j:Nat),reachB l f i j=true→j<i
 | 0,_,_,h=>by cases h
 | f+1,i,j,h=>by
   unfold reachB at h
   cases ho:l[i]? with
   | none=>rw[ho] at h;cases h
   | some o=>
     rw[ho] at h
     simp only[List.any_eq_true,Array.mem_toList_iff,Bool.and_eq_true,Bool.or_eq_true,beq_iff_eq] at h
     obtain⟨e,he,hb,h⟩:=h
     have h1:=((fre_parts hB).2 i o ho).2.1 e he hb
     rcases h with h | h
     ·omega
     ·have:=reach_lt hB f e.on j h;omega
theorem put_size (a:Act) (d:Option Tmp) (v:Value):(a.put d v).tmps.size=a.tmps.size:=by
 cases d<;>simp[Act.put]
theorem actV_eval {vs:Nat→Value} {S S':Nat→Bool} {t:Tmp}: ∀(r:List Oper) (k:Nat) (b b':Act),b.tmps.size=b'.tmps.size→b.eval (.tmp t)=b'.eval (.tmp t)→
  (∀j o,r[j]? =some o→o.dst=some t→S (k+j)=S' (k+j))→(actV S vs r k b).eval (.tmp t)=(actV S' vs r k b').eval (.tmp t)
 | [],_,_,_,_,he,_=>he
 | o::r,k,b,b',hs,he,h=>by
   unfold actV
   have hz:(if S k then b.put o.dst (vs k) else b).tmps.size=(if S' k then b'.put o.dst (vs k) else b').tmps.size:=by
    split<;>split<;>simp only[put_size,hs]
   refine actV_eval r (k+1) _ _ hz ?_ fun j o' ho' hd'=>by have:=h (j+1) o' (by simpa using ho') hd';rwa [show k+(j+1)=k+1+j by omega] at this
   by_cases hd:o.dst=some t
   ·have h0:=h 0 o rfl hd
    rw[Nat.add_zero] at h0
    rw[←h0]
    split
    ·rw[hd]
     simp only[Act.put,Act.eval,Array.getD_eq_getD_getElem?]
     by_cases ht:t<b.tmps.size
     ·rw[Array.getElem?_setIfInBounds_self_of_lt ht,Array.getElem?_setIfInBounds_self_of_lt (hs▸ht)]
     ·rw[Array.getElem?_eq_none (by rw[Array.size_setIfInBounds];exact Nat.le_of_not_lt ht),Array.getElem?_eq_none (by rw[Array.size_setIfInBounds,←hs];exact Nat.le_of_not_lt ht)]
    ·exact he
   ·have e1: ∀(c:Act) (S:Nat→Bool),(if S k then c.put o.dst (vs k) else c).eval (.tmp t)=c.eval (.tmp t):=fun c S=>by
     split
     ·exact Act.eval_put fun d hd2 e=>hd (by rw[hd2];injection e with e;rw[e])
     ·rfl
    rw[e1,e1,he]
theorem actV_put {S:Nat→Bool} {vs:Nat→Value} {x:Option Tmp} {v:Value}: ∀(r:List Oper) (k:Nat) (b:Act),(∀o∈r,∀d,o.dst=some d→x≠some d)→(actV S vs r k b).put x v=actV S vs r k (b.put x v)
 | [],_,_,_=>rfl
 | o::r,k,b,h=>by
   unfold actV
   rw[actV_put r (k+1) _ fun o' ho'=>h o' (by simp[ho'])]
   congr 1
   split
   ·exact Act.put_comm _ _ _ fun d hd=>h o (by simp) d hd
   ·rfl
theorem actV_congr {S S':Nat→Bool} {vs vs':Nat→Value}: ∀(r:List Oper) (k:Nat) (b:Act),(∀j,j<r.length→S (k+j)=S' (k+j)∧(S (k+j)=true→vs (k+j)=vs' (k+j)))→actV S vs r k b=actV S' vs' r k b
 | [],_,_,_=>rfl
 | o::r,k,b,h=>by
   unfold actV
   have h0:=h 0 (by simp)
   rw[Nat.add_zero] at h0
   rw[actV_congr r (k+1) _ fun j hj=>by have:=h (j+1) (by simp;omega);rwa [show k+(j+1)=k+1+j by omega] at this]
   congr 1
   rw[←h0.1]
   split
   ·rename_i q;rw[h0.2 q]
   ·rfl
theorem actV_set {S:Nat→Bool} {vs:Nat→Value} {v:Value}: ∀(r:List Oper) (k:Nat) (b:Act) (i:Nat) (o:Oper),r[i]? =some o→S (k+i)=false→
  (∀j o',r[j]? =some o'→i≠j→ ∀d,o.dst=some d→o'.dst≠some d)→
  (actV S vs r k b).put o.dst v=actV (fun j=>S j||decide (j=k+i)) (fun j=>if j=k+i then v else vs j) r k b
 | [],_,_,_,_,h,_,_=>by simp at h
 | o'::r,k,b,0,o,h,hS,hd=>by
   obtain rfl:o'=o:=by simpa using h
   rw[Nat.add_zero] at hS
   unfold actV
   rw[hS,actV_put r (k+1) _ fun o2 ho2 d hd2 e=> ?_]
   ·simp only[Nat.add_zero,decide_true,Bool.or_true,if_true,Bool.false_eq_true,if_false]
    refine actV_congr r (k+1) _ fun j hj=>⟨by rw[decide_eq_false (by omega),Bool.or_false],fun _=>by rw[if_neg (by omega)]⟩
   ·obtain⟨j,hj⟩:=List.mem_iff_getElem?.1 ho2
    exact hd (j+1) o2 (by simpa using hj) (by omega) d e hd2
 | o'::r,k,b,i+1,o,h,hS,hd=>by
   unfold actV
   have e:k+(i+1)=k+1+i:=by omega
   rw[actV_set r (k+1) _ i o (by simpa using h) (by rw[←e];exact hS) fun j o2 hj hij=>hd (j+1) o2 (by simpa using hj) (by omega),e]
   congr 1
   have hk:decide (k=k+1+i)=false:=decide_eq_false (by omega)
   simp only[hk,Bool.or_false]
   rw[if_neg (show ¬k=k+1+i by omega)]
end
theorem wp_swap {P:Program} {o:Oper} {b b':Act} {W:World} {next:Act→World→Prop} {Q:Exit→Act→World→Prop} {G:Value→World→Prop} (he:execOp b'.eval o=execOp b.eval o)
  (h:o.wp P b W (fun c W'=> ∃v,c=b.put o.dst v∧G v W') (fun e _ _=>e= .outgrown∧False))
  (hz: ∀t,o.dst=some t→t<b.tmps.size) (hn: ∀v W',G v W'→next (b'.put o.dst v) W'):o.wp P b' W next Q:=by
 have key: ∀v W',(∃u,b.put o.dst v=b.put o.dst u∧G u W')→next (b'.put o.dst v) W':=fun v W' ⟨u,hu,hg⟩=>by
  have:=hn u W' hg
  cases hd:o.dst with
  | none=>rw[hd] at this;exact this
  | some t=>
    rw[hd] at this hu
    have e:v=u:=by
     have h1:=congrArg (fun c:Act=>c.tmps[t]?) hu
     simp only[Act.put] at h1
     rw[Array.getElem?_setIfInBounds_self_of_lt (hz t hd),Array.getElem?_setIfInBounds_self_of_lt (hz t hd)] at h1
     injection h1
    rw[e];exact this
 unfold Oper.wp at*
 rw[he]
 generalize (execOp b.eval o).run P W=r at*
 cases r with
 | ok n w'=>
   cases n<;>simp only[Oper.upon] at h⊢
   case value v=>exact key v w' h
   case skip=>exact key undef w' h
   case defer d=> 
    obtain⟨v,hv,_⟩:=h
    exfalso
    have h1:=congrArg (fun c:Act=>c.defers.length) hv
    have e1: ∀(c:Act) (v:Value),(c.put o.dst v).defers=c.defers:=fun c v=>by cases o.dst<;>rfl
    simp[e1] at h1
   case enter f args=>
    refine Calls.mono h fun e w'' he=> ?_
    cases e with
    | returned v=>exact key v w'' he
    | panicked c=>exact he.2.elim
    | outgrown=>obtain⟨_,_,h1⟩:=he;exact h1.2.elim
   case row row args=>exact Rows.mono h fun v w'' he=>key v w'' he
 | halt x w'=>cases x<;>simp only[Oper.upon] at h⊢ <;>exact h.2.elim
section
variable {P:Program} {l:List Oper} {L:List Sp} {w:World} {a:Act} {Q:Exit→Act→World→Prop}
theorem nlisted_set {listed:Array Bool} {i:Nat} (hi:i<listed.size) (h:listed.getD i false=false) (n:Nat) (hn:i<n):
  ((List.range n).filter fun j=> !(listed.setIfInBounds i true).getD j false).length+1=((List.range n).filter fun j=> !listed.getD j false).length:=by
 induction n with
 | zero=>omega
 | succ n ih=>
   rw[List.range_succ,List.filter_append,List.filter_append,List.length_append,List.length_append]
   by_cases e:i=n
   ·subst e
    have e1:(List.range i).filter (fun j=> !(listed.setIfInBounds i true).getD j false)=(List.range i).filter fun j=> !listed.getD j false:=by
     refine List.filter_congr fun j hj=> ?_
     rw[getD_set_ne false (by have:=List.mem_range.1 hj;omega)]
    have e2:(listed.setIfInBounds i true).getD i false=true:=by simp[hi]
    rw[e1]
    simp only[List.filter_cons,List.filter_nil,e2,h,Bool.not_true,Bool.not_false,Bool.false_eq_true,if_false,if_true,List.length_nil,List.length_singleton]
   ·have:=ih (by omega)
    simp only[List.filter_cons,List.filter_nil,getD_set_ne false e]
    omega
end
end Go.Proofs.YtlgcflpaekbopaaGreat
namespace Go.Proofs.YtlgcflpaekbopaaGreat
set_option maxRecDepth 20000
set_option linter.unusedVariables false
set_option linter.unusedSimpArgs false
open Go.RowKit
inductive Sg where
 | val (c:Value)
 | pur (q:(Nat→Value)→Value→Prop)
 | mem (p:(Nat→Value)→World→Value→Prop)
def Sg.R (vs:Nat→Value):Sg→World→Value→Prop
 | .val c,_,v=>v=c
 | .pur q,_,v=>q vs v
 | .mem p,W,v=>p vs W v
def Sg.isMem:Sg→Bool
 | .mem _=>true
 | _=>false
def Sg.pick:Sg→Value→Value
 | .val c,_=>c
 | _,v=>v
theorem Sg.pick_of (vs:Nat→Value): ∀(s:Sg) {W:World} {v:Value},s.R vs W v→s.pick v=v
 | .val _,_,_,h=>h.symm
 | .pur _,_,_,_=>rfl
 | .mem _,_,_,_=>rfl
def maskV (l:List Oper) (k:Nat) (vs:Nat→Value):Nat→Value:=fun j=>if reachB l l.length k j=true then vs j else undef
theorem mask_at {l:List Oper} {k j:Nat} {vs:Nat→Value} (h:reachB l l.length k j=true):maskV l k vs j=vs j:=if_pos h
def sgA (L:List Sg) (k:Nat):Sg:=L.getD k (.val undef)
def tnA (T:List (Option (World→World→Prop))) (k:Nat):World→World→Prop:=match T.getD k none with
 | none=>fun W W'=>W'=W
 | some t=>t
def clG (l:List Oper) (L:List Sg) (T:List (Option (World→World→Prop))):List (Nat×Nat):=
 (List.range l.length).flatMap fun i=>(List.range l.length).filterMap fun k=>if(sgA L i).isMem&&(T.getD k none).isSome&& !(i==k)&& !reachB l l.length i k then some (i,k) else none
def Stb (I:World→Prop) (L:List Sg) (T:List (Option (World→World→Prop))):List (Nat×Nat)→Prop
 | []=>True
 | q::r=>(∀vs W W' v,I W→I W'→tnA T q.2 W W'→(sgA L q.1).R vs W v→(sgA L q.1).R vs W' v)∧Stb I L T r
def Its (I:World→Prop):List (Option (World→World→Prop))→Prop
 | []=>True
 | none::r=>Its I r
 | some t::r=>(∀W W',I W→t W W'→I W')∧Its I r
theorem Its.at {I:World→Prop}: ∀ {T:List (Option (World→World→Prop))},Its I T→ ∀t,some t∈T→ ∀W W',I W→t W W'→I W'
 | none::r,h,t,ht=>by
   rcases List.mem_cons.1 ht with e | ht
   ·cases e
   ·exact Its.at (T:=r) h t ht
 | some u::r,h,t,ht=>by
   rcases List.mem_cons.1 ht with e | ht
   ·injection e with e;subst e;exact h.1
   ·exact Its.at (T:=r) h.2 t ht
theorem Stb.at {I:World→Prop} {L:List Sg} {T:List (Option (World→World→Prop))}: ∀ {X:List (Nat×Nat)},Stb I L T X→ ∀q∈X,∀vs W W' v,I W→I W'→tnA T q.2 W W'→(sgA L q.1).R vs W v→(sgA L q.1).R vs W' v
 | _::_,h,q,hq=>by
   rcases List.mem_cons.1 hq with rfl | hq
   ·exact h.1
   ·exact h.2.at q hq
def Obw (P:Program) (J:Nat→World→Prop) (l:List Oper) (L:List Sg) (T:List (Option (World→World→Prop))) (vs:Nat→Value) (Q:Exit→Act→World→Prop):List Oper→List Sg→Nat→Act→Prop
 | [],_,_,b=> ∀W',Hid (J l.length W')→Hid (∀j,j<l.length→(sgA L j).R (maskV l j vs) W' (vs j))→Q .normal b W'
 | _::_,[],_,_=>False
 | o::r,s::ss,k,b=>(∀W K Q0,Hid (J k W)→Hid (∀j,reachB l l.length k j=true→(sgA L j).R (maskV l j vs) W (vs j))→Hid (∀v W',tnA T k W W'→s.R (maskV l k vs) W' v→K (b.put o.dst v) W')→o.wp P b W K Q0)∧Obw P J l L T vs Q r ss (k+1) (b.put o.dst (s.pick (vs k)))
section
variable {P:Program} {I Hs:World→Prop} {D:List Nat} {J:Nat→World→Prop} {l:List Oper} {L:List Sg} {T:List (Option (World→World→Prop))} {w:World} {a:Act} {Q:Exit→Act→World→Prop}
def okD (l:List Oper) (D:List Nat) (i:Nat):Bool:=D.all fun d=>d==i||reachB l l.length d i
def JH (I Hs:World→Prop) (l:List Oper) (D:List Nat) (i:Nat) (W:World):Prop:=I W∧(okD l D i=true→Hs W)
def ItD (I Hs:World→Prop) (D:List Nat) (T:List (Option (World→World→Prop))):Nat→List (Option (World→World→Prop))→Prop
 | _,[]=>True
 | k,none::r=>ItD I Hs D T (k+1) r
 | k,some t::r=>(k∈D∨ ∀W W',I W→Hs W→t W W'→Hs W')∧ItD I Hs D T (k+1) r
theorem ItD.at {I Hs:World→Prop} {D:List Nat} {T:List (Option (World→World→Prop))}: ∀ {r:List (Option (World→World→Prop))} {k:Nat},ItD I Hs D T k r→ ∀i t,r[i]? =some (some t)→k+i∈D∨ ∀W W',I W→Hs W→t W W'→Hs W'
 | none::r,k,h,i,t,ht=>by
   cases i with
   | zero=>simp at ht
   | succ i=>have:=ItD.at (r:=r) (k:=k+1) h i t (by simpa using ht);rwa [show k+1+i=k+(i+1) by omega] at this
 | some u::r,k,h,i,t,ht=>by
   cases i with
   | zero=>simp at ht;subst ht;exact h.1
   | succ i=>have:=ItD.at (r:=r) (k:=k+1) h.2 i t (by simpa using ht);rwa [show k+1+i=k+(i+1) by omega] at this
theorem obw_at {vs:Nat→Value} (hvs: ∀j,j<l.length→(sgA L j).pick (vs j)=vs j): ∀(r:List Oper) (ss:List Sg) (k:Nat) (b:Act),(∀j,r[j]? =l[k+j]?)→(∀j,ss.getD j (.val undef)=sgA L (k+j))→Obw P J l L T vs Q r ss k b→
  (∀i o,r[i]? =some o→ ∀W K Q0,Hid (J (k+i) W)→Hid (∀j,reachB l l.length (k+i) j=true→(sgA L j).R (maskV l j vs) W (vs j))→Hid (∀v W',tnA T (k+i) W W'→(sgA L (k+i)).R (maskV l (k+i) vs) W' v→K ((actV (fun j=>decide (j<k+i)) vs r k b).put o.dst v) W')→o.wp P (actV (fun j=>decide (j<k+i)) vs r k b) W K Q0)∧
  (∀W',Hid (J l.length W')→Hid (∀j,j<l.length→(sgA L j).R (maskV l j vs) W' (vs j))→Q .normal (actV (fun _=>true) vs r k b) W')
 | [],_,_,_,_,_,h=>⟨fun i o ho=>by simp at ho,h⟩
 | _::_,[],_,_,_,_,h=>h.elim
 | o::r,s::ss,k,b,hr,hs,h=>by
   obtain⟨h1,h2⟩:=h
   have hs0:s=sgA L k:=by simpa using hs 0
   have hk:k<l.length:=by
    have:=hr 0
    rw[Nat.add_zero] at this
    exact(List.getElem?_eq_some_iff.1 this.symm).1
   rw[hs0,hvs k hk] at h2
   have hn:=obw_at hvs r ss (k+1) _ (fun j=>by have:=hr (j+1);rw[show k+(j+1)=k+1+j by omega] at this;simpa using this) (fun j=>by have:=hs (j+1);rw[show k+(j+1)=k+1+j by omega] at this;simpa using this) h2
   refine⟨fun i o' ho'=> ?_,?_⟩
   ·cases i with
    | zero=>
      obtain rfl:o=o':=by simpa using ho'
      have e:actV (fun j=>decide (j<k+0)) vs (o::r) k b=b:=by
       unfold actV
       rw[decide_eq_false (by omega)]
       have: ∀(r:List Oper) (k2:Nat) (b:Act),k≤k2→actV (fun j=>decide (j<k+0)) vs r k2 b=b:=by
        intro r
        induction r with
        | nil=>intros;rfl
        | cons o r ih=>
          intro k2 b hk2
          unfold actV
          rw[decide_eq_false (by omega)]
          exact ih (k2+1) b (by omega)
       exact this r (k+1) b (by omega)
      rw[e,Nat.add_zero,←hs0]
      exact h1
    | succ i=>
      have e:k+(i+1)=k+1+i:=by omega
      have:=hn.1 i o' (by simpa using ho')
      rw[e]
      unfold actV
      rw[decide_eq_true (by omega)]
      exact this
   ·exact hn.2
theorem gen_any (hB:freB l=true) (hsz: ∀(i:Nat) (o:Oper),l[i]? =some o→ ∀t,o.dst=some t→t<a.tmps.size)
  (hIT: ∀t,some t∈T→ ∀W W',I W→t W W'→I W') (hHT:ItD I Hs D T 0 T) (hst:Stb I L T (clG l L T)) (h: ∀vs,Obw P (JH I Hs l D) l L T vs Q l L 0 a): ∀(fuel:Nat) (listed:Array Bool) (vs:Nat→Value) (W:World),
  ((List.range l.length).filter fun j=> !listed.getD j false).length=fuel→Cl l.toArray listed→I W→((∀d∈D,listed.getD d false=false)→Hs W)→(∀j,j<l.length→(sgA L j).pick (vs j)=vs j)→(∀j,listed.getD j false=true→(sgA L j).R (maskV l j vs) W (vs j))→
  wpAny P .any l.toArray Q fuel listed (actV (fun j=>listed.getD j false) vs l 0 a) W:=by
 have hI: ∀k W W',I W→tnA T k W W'→I W':=fun k W W' hi ht=>by
  unfold tnA at ht
  cases e:T.getD k none with
  | none=>rw[e] at ht;rw[show W'=W from ht];exact hi
  | some t=>
    rw[e] at ht
    refine hIT t ?_ W W' hi ht
    rw[List.getD_eq_getElem?_getD] at e
    cases e2:T[k]? with
    | none=>rw[e2] at e;cases e
    | some q=>rw[e2] at e;simp only[Option.getD_some] at e;subst e;exact List.mem_of_getElem? e2
 have hH: ∀k W W',I W→k∉D→Hs W→tnA T k W W'→Hs W':=fun k W W' hi hk hs ht=>by
  unfold tnA at ht
  cases e:T.getD k none with
  | none=>rw[e] at ht;rw[show W'=W from ht];exact hs
  | some t=>
    rw[e] at ht
    rw[List.getD_eq_getElem?_getD] at e
    cases e2:T[k]? with
    | none=>rw[e2] at e;cases e
    | some q=>
      rw[e2] at e;simp only[Option.getD_some] at e;subst e
      rcases hHT.at k t e2 with h | h
      ·rw[Nat.zero_add] at h;exact absurd h hk
      ·exact h W W' hi hs ht
 have all: ∀(listed:Array Bool) (vs:Nat→Value) (W:World),Cl l.toArray listed→I W→((∀d∈D,listed.getD d false=false)→Hs W)→(∀j,j<l.length→(sgA L j).pick (vs j)=vs j)→(∀j,listed.getD j false=true→(sgA L j).R (maskV l j vs) W (vs j))→(∀j,j<l.length→listed.getD j false=true)→Q .normal (actV (fun j=>listed.getD j false) vs l 0 a) W:=fun listed vs W hc hb hd hp hr hl=>by
  have:=(obw_at hp l L 0 a (fun j=>by rw[Nat.zero_add]) (fun j=>by rw[Nat.zero_add];rfl) (h vs)).2 W (hDD ⟨hb,fun ok=>hd fun d hd'=>by
   have h1:=List.all_eq_true.1 ok d hd'
   simp only[Bool.or_eq_true,beq_iff_eq] at h1
   rcases h1 with h1 | h1
   ·rw[Array.getD_eq_getD_getElem?,Array.getElem?_eq_none (by rw[hc.1,h1];simp)];rfl
   ·have h2:=reach_lt hB _ _ _ h1
    rw[Array.getD_eq_getD_getElem?,Array.getElem?_eq_none (by rw[hc.1];simp;omega)];rfl⟩) (hDD fun j hj=>hr j (hl j hj))
  rwa [actV_congr (S':=fun _=>true) (vs':=vs) l 0 a fun j hj=>by rw[Nat.zero_add];exact⟨hl j hj,fun _=>rfl⟩]
 have none_ready: ∀(listed:Array Bool),Cl l.toArray listed→Region.ready .any l.toArray listed= []→ ∀j,j<l.length→listed.getD j false=true:=fun listed hc hr j=>by
  induction j using Nat.strongRecOn with
  | _ j ih=>
    intro hj
    by_cases q:listed.getD j false=true
    ·exact q
    ·exfalso
     have:j∈Region.ready .any l.toArray listed:=by
      rw[mem_ready]
      refine⟨by rw[getD_tf (by rw[hc.1];simpa using hj)];simpa using q,l[j],by simp[hj],fun e he hb=> ?_⟩
      have:=((fre_parts hB).2 j l[j] (List.getElem?_eq_getElem hj)).2.1 e he hb
      exact ih e.on this (by omega)
     rw[hr] at this
     cases this
 intro fuel
 induction fuel with
 | zero=>
   intro listed vs W hf hc hb hd hp hr
   have hl: ∀j,j<l.length→listed.getD j false=true:=fun j hj=>by
    have:=List.filter_eq_nil_iff.1 (List.eq_nil_of_length_eq_zero hf) j (List.mem_range.2 hj)
    simpa using this
   refine⟨?_,all listed vs W hc hb hd hp hr hl⟩
   cases hq:Region.ready .any l.toArray listed with
   | nil=>rfl
   | cons i r=>
     obtain⟨h1,o,ho,_⟩:=mem_ready.1 (show i∈Region.ready .any l.toArray listed by rw[hq];simp)
     have hi:i<l.length:=by simpa using (Array.getElem?_eq_some_iff.1 ho).1
     rw[getD_tf (by rw[hc.1];simpa using hi),hl i hi] at h1
     cases h1
 | succ fuel ih=>
   intro listed vs W hf hc hb hd hp hr
   refine⟨fun h0=>all listed vs W hc hb hd hp hr (none_ready listed hc h0),fun i hi=> ?_⟩
   obtain⟨h1,o,ho,hdeps⟩:=mem_ready.1 hi
   have ho':l[i]? =some o:=by simpa using ho
   have hil:i<l.length:=(List.getElem?_eq_some_iff.1 ho').1
   have his:i<listed.size:=by rw[hc.1];simpa using hil
   have hif:listed.getD i false=false:=by rw[←getD_tf his];exact h1
   obtain⟨hgd,_,hdst,hlook⟩:=(fre_parts hB).2 i o ho'
   have hsel:=fun (cs:Array SelectCase) (b:Bool)=>Region.noSelect_spec (fre_parts hB).1 i o cs b ho
   have hob:=(obw_at hp l L 0 a (fun j=>by rw[Nat.zero_add]) (fun j=>by rw[Nat.zero_add];rfl) (h vs)).1 i o ho'
   rw[Nat.zero_add] at hob
   have hlst: ∀j,reachB l l.length i j=true→listed.getD j false=true:=fun j hj=>reach_listed hc l.length i j (fun o2 ho2 e he hb=>by rw[ho'] at ho2;injection ho2 with ho2;subst ho2;exact hdeps e he hb) hj
   have hno: ∀j,listed.getD j false=true→reachB l l.length j i=false:=fun j hj=>by
    cases q:reachB l l.length j i with
    | false=>rfl
    | true=>
      have:=reach_listed hc l.length j i (fun o2 ho2 e he hb=>hc.2 j o2 (by simpa using ho2) hj e he hb) q
      rw[hif] at this
      cases this
   have hwp:=hob W (fun c W'=> ∃v,c=(actV (fun j=>decide (j<i)) vs l 0 a).put o.dst v∧(tnA T i W W'∧(sgA L i).R (maskV l i vs) W' v)) (fun e _ _=>e= .outgrown∧False) (hDD ⟨hb,fun ok=>hd fun d hd'=>by
    have h1:=List.all_eq_true.1 ok d hd'
    simp only[Bool.or_eq_true,beq_iff_eq] at h1
    rcases h1 with h1 | h1
    ·rw[h1];exact hif
    ·cases q:listed.getD d false with
     | false=>rfl
     | true=>have:=hno d q;rw[h1] at this;cases this⟩) (hDD fun j hj=>hr j (hlst j hj)) (hDD fun v W' hbv hv=>⟨v,rfl,hbv,hv⟩)
   unfold wpOp
   simp only[ho]
   rw[if_pos (wanted_none hgd _)]
   refine .inl (wp_swap ?_ hwp (fun t ht=> ?_) fun v W' ⟨hbv,hv⟩=> ?_)
   ·refine execOp_congr o (fun cs b e=>hsel cs b e) fun x hx=> ?_
    cases x with
    | tmp t=>
      refine actV_eval l 0 a a rfl rfl fun k o' hk hd=> ?_
      rw[Nat.zero_add]
      have ht:t∈o.looksAt l.toArray:=List.mem_append_left _ (List.mem_filterMap.2 ⟨.tmp t,by simpa using hx,rfl⟩)
      rcases hlook k o' t hk hd ht with q | q
      ·rw[hlst k q,decide_eq_true (reach_lt hB _ _ _ q)]
      ·have hki:=reach_lt hB _ _ _ q
       rw[decide_eq_false (by omega)]
       cases hkl:listed.getD k false with
       | false=>rfl
       | true=>
         exfalso
         have:=hno k hkl
         rw[q] at this
         cases this
    | const v=>rfl
    | global g=>rfl
    | func f=>rfl
   ·have: ∀(S:Nat→Bool) (r:List Oper) (k:Nat) (b:Act),(actV S vs r k b).tmps.size=b.tmps.size:=by
     intro S r
     induction r with
     | nil=>intros;rfl
     | cons o r ih=>intro k b;unfold actV;rw[ih];split;exact put_size _ _ _;rfl
    rw[this]
    exact hsz i o ho' t ht
   ·have e:=actV_set (S:=fun j=>listed.getD j false) (vs:=vs) (v:=v) l 0 a i o ho' (by rw[Nat.zero_add];exact hif) fun j o2 hj hij d hd=>hdst j o2 hj hij d hd
    rw[Nat.zero_add] at e
    rw[e]
    rw[actV_congr (S':=fun j=>(listed.setIfInBounds i true).getD j false) (vs':=fun j=>if j=i then v else vs j) l 0 a fun j hj=>⟨by
     rw[Nat.zero_add]
     by_cases q:j=i
     ·subst q;simp[his]
     ·rw[decide_eq_false q,Bool.or_false,getD_set_ne false (fun e=>q e.symm)],fun _=>rfl⟩]
    have hset: ∀j,(listed.setIfInBounds i true).getD j false=true→j≠i→listed.getD j false=true:=fun j hj q=>by
     rwa [getD_set_ne false (fun e=>q e.symm)] at hj
    have hmask: ∀j,reachB l l.length j i=false→maskV l j (fun m=>if m=i then v else vs m)=maskV l j vs:=fun j hj=>by
     funext m
     unfold maskV
     by_cases q:m=i
     ·subst q;rw[if_neg (by simp[hj]),if_neg (by simp[hj])]
     ·simp only[if_neg q]
    have hii:reachB l l.length i i=false:=by
     cases q:reachB l l.length i i with
     | false=>rfl
     | true=>have:=reach_lt hB _ _ _ q;omega
    have hI':I W':=hI i W W' hb hbv
    refine ih (listed.setIfInBounds i true) _ W' ?_ (hc.set hi) hI' (fun hd'=> ?_) (fun j hj=> ?_) (fun j hj=> ?_)
    ·have:=nlisted_set his hif l.length hil
     omega
    ·have hni:i∉D:=fun hm=>by have:=hd' i hm;simp[his] at this
     exact hH i W W' hb hni (hd fun d hdm=>by
      have hne:i≠d:=fun e=>hni (e▸hdm)
      have:=hd' d hdm
      rwa [getD_set_ne false hne] at this) hbv
    ·by_cases q:j=i
     ·subst q;simp only[if_true];exact Sg.pick_of _ _ hv
     ·simp only[if_neg q];exact hp j hj
    ·by_cases q:j=i
     ·subst q;simp only[if_true];rw[hmask _ hii];exact hv
     ·simp only[if_neg q]
      have hjl:=hset j hj q
      rw[hmask j (hno j hjl)]
      have hjn:j<l.length:=by
       by_cases q:j<l.length
       ·exact q
       ·rw[Array.getD_eq_getD_getElem?,Array.getElem?_eq_none (by rw[hc.1];simpa using q)] at hjl
        cases hjl
      have hold:=hr j hjl
      cases hs:sgA L j with
      | val c=>rw[hs] at hold;exact hold
      | pur p=>rw[hs] at hold;exact hold
      | mem p=>
        cases ht:T.getD i none with
        | none=>
          have:W'=W:=by unfold tnA at hbv;rw[ht] at hbv;exact hbv
          rw[this,←hs];exact hold
        | some t=>
          rw[←hs]
          refine hst.at (j,i) ?_ _ W W' _ hb hI' hbv hold
          unfold clG
          refine List.mem_flatMap.2 ⟨j,List.mem_range.2 hjn,List.mem_filterMap.2 ⟨i,List.mem_range.2 hil,?_⟩⟩
          rw[if_pos]
          simp only[hs,ht,Sg.isMem,Option.isSome_some,hno j hjl,Bool.not_false,Bool.and_true,Bool.true_and]
          simpa using q
theorem wp_region_genH {id:Nat} (L:List Sg) (T:List (Option (World→World→Prop))) (I Hs:World→Prop) (D:List Nat) (X:List (Nat×Nat)) (hm:P.follows .mixedOrders=true) (hB:freB l=true) (hX:clG l L T=X) (hsz:(l.all fun o=>match o.dst with | some t=>decide (t<a.tmps.size) | none=>true)=true)
  (hI0:I w.drew) (hH0:Hs w.drew) (hIT:Its I T) (hHT:ItD I Hs D T 0 T) (hst:Stb I L T X)
  (h: ∀vs,Obw P (JH I Hs l D) l L T vs Q l L 0 a):(Code.region id l.toArray true).wp P Q a w:=by
 refine wp_region_any hm ?_
 subst hX
 have hv: ∀j,j<l.length→(sgA L j).pick ((sgA L j).pick undef)=(sgA L j).pick undef:=fun j _=>by cases sgA L j<;>rfl
 have h0: ∀j,(Array.replicate l.toArray.size false).getD j false=false:=fun j=>by
  simp only[Array.getD_eq_getD_getElem?,Array.getElem?_replicate]
  split<;>rfl
 have:=gen_any (P:=P) (Q:=Q) hB (fun i o ho t ht=>by
  have:=List.all_eq_true.1 hsz o (List.mem_of_getElem? ho)
  rw[ht] at this
  simpa using this) hIT.at hHT hst h l.toArray.size (Array.replicate l.toArray.size false) (fun j=>(sgA L j).pick undef) w.drew (by
   have:(List.range l.length).filter (fun j=> !(Array.replicate l.toArray.size false).getD j false)=List.range l.length:=List.filter_eq_self.2 fun j _=>by rw[h0];rfl
   rw[this];simp) ⟨by simp,fun j o _ hj=>by rw[h0] at hj;cases hj⟩ hI0 (fun _=>hH0) hv (fun j hj=>by rw[h0] at hj;cases hj)
 have e:actV (fun j=>(Array.replicate l.toArray.size false).getD j false) (fun j=>(sgA L j).pick undef) l 0 a=a:=by
  have: ∀(r:List Oper) (k:Nat) (b:Act),actV (fun j=>(Array.replicate l.toArray.size false).getD j false) (fun j=>(sgA L j).pick undef) r k b=b:=by
   intro r
   induction r with
   | nil=>intros;rfl
   | cons o r ih=>intro k b;unfold actV;rw[h0];exact ih _ _
  exact this l 0 a
 rw[e] at this
 exact this
theorem Obw.mono {J J':Nat→World→Prop} (hJ: ∀k W,J' k W→J k W) {vs:Nat→Value}: ∀ {r:List Oper} {ss:List Sg} {k:Nat} {b:Act},Obw P J l L T vs Q r ss k b→Obw P J' l L T vs Q r ss k b
 | [],_,_,_,h=>fun W' hj hr=>h W' (hDD (hJ _ _ hj.out)) hr
 | _::_,[],_,_,h=>h
 | _::_,_::_,_,_,h=>⟨fun W K Q0 hj hr hk=>h.1 W K Q0 (hDD (hJ _ _ hj.out)) hr hk,h.2.mono hJ⟩
theorem itD_nil {I:World→Prop} {T:List (Option (World→World→Prop))}: ∀(r:List (Option (World→World→Prop))) (k:Nat),ItD I (fun _=>True) [] T k r
 | [],_=>trivial
 | none::r,k=>itD_nil r (k+1)
 | some _::r,k=>⟨.inr fun _ _ _ _ _=>trivial,itD_nil r (k+1)⟩
theorem wp_region_gen {id:Nat} (L:List Sg) (T:List (Option (World→World→Prop))) (I:World→Prop) (X:List (Nat×Nat)) (hm:P.follows .mixedOrders=true) (hB:freB l=true) (hX:clG l L T=X) (hsz:(l.all fun o=>match o.dst with | some t=>decide (t<a.tmps.size) | none=>true)=true)
  (hI0:I w.drew) (hIT:Its I T) (hst:Stb I L T X)
  (h: ∀vs,Obw P (fun _=>I) l L T vs Q l L 0 a):(Code.region id l.toArray true).wp P Q a w:=
 wp_region_genH L T I (fun _=>True) [] X hm hB hX hsz hI0 trivial hIT (itD_nil T 0) hst fun vs=>(h vs).mono fun _ _ hj=>hj.1
end
end Go.Proofs.YtlgcflpaekbopaaGreat
namespace Go.Proofs.YtlgcflpaekbopaaGreat
set_option maxRecDepth 20000
set_option linter.unusedVariables false
set_option linter.unusedSimpArgs false
open Go.RowKit
theorem one_rd {w:World} {u:Value} {xs:List Int} (h:RdI w u xs):RdII (w.alloc (.cells #[u] 24)) (.slice (some ⟨w.heap.size,0,none⟩) 1 1) [xs]:=
 (PartsL.lit w [u] [xs] rfl (fun i h1 h2=>by
  match i,h1,h2 with
  | 0,_,_=>exact h) (by simp) (Nat.le_refl _)).rd
set_option maxHeartbeats 400000 in
theorem implReduceLetters_any (v:Value) (xs:List Int) (w:World) (h:RdI w v xs) (hl:xs.length≤536870912):
  Calls Tryz.prog 132 #[v] w fun e w'=> ∃r,e= .returned r∧OwI w' w.heap.size r (redL [] xs)∧Below w.heap.size w w':=by
 have H:=hDD h
 obtain⟨A,cap,rfl,_⟩:=h.arg
 clear h
 go_enter Tryz.func132,Tryz.ntmps132
 go_wp2_with (go_at_call 103;refine(product_any _ [xs] _ (one_rd H.out) (by simp[lenLL];omega) (by simp)).mono ?_;rintro e w1 ⟨r1,rfl,o1,b1⟩;have O1:=hDD o1;have B1:=hDD b1;clear o1 b1)
 go_ret
 exact⟨_,rfl,by have:=O1.out.mono (base':=w.heap.size) (by simp);simpa[redLL] using this,(by repeat(first | exact Below.refl _ _ | (refine Below.setCell ?_ (by first | omega | (simp<;>omega)) _) | (refine bel_drewN ?_ _) | (refine Below.drew ?_) | (refine Below.alloc ?_ (by first | omega | (simp<;>omega)) _) | (refine Below.trans ?_ (Below.mono (Hid.out B1) (by first | omega | (simp<;>omega))))))⟩
theorem OwI.form2 {w:World} {base:Nat} {v:Value} {xs:List Int} (h:OwI w base v xs):(v= .slice none 0 0∧xs= [])∨ ∃g cap,v= .slice (some ⟨g,0,none⟩) xs.length cap∧xs.length≤cap∧cap≤maxLen∧base≤g∧g<w.heap.size:=by
 rcases h.1.2 with ⟨hv,hn⟩ | ⟨g,cap,cur,hv,hg,hh,hnc,hcm,_⟩
 ·exact .inl ⟨hv,List.eq_nil_of_length_eq_zero hn⟩
 ·exact .inr ⟨g,cap,hv,hnc,hcm,hg,lt_of_heap hh⟩
theorem core_rd {W:World} {g cap:Nat} {c:List Int} {k:Nat} (h:RdI W (.slice (some ⟨g,0,none⟩) c.length cap) c) (hk:2*k≤c.length) (hcp: ¬cap=k):
  RdI W (.slice (some ⟨g,k,none⟩) (c.length-k-k) (cap-k)) ((c.take (c.length-k)).drop k):=by
 have h1:=h.head (k:=c.length-k) rfl (by omega)
 have e:(c.take (c.length-k)).length=c.length-k:=by simp
 have h2:=RdI.cut (k:=k) (A:=some ⟨g,0,none⟩) (cap:=cap) h1 (by rw[e]) (by rw[e];omega)
 rw[if_neg hcp,e] at h2
 simpa[Addr.add_lit] using h2
set_option maxHeartbeats 1000000 in
theorem implCyclicCore_any (v:Value) (xs:List Int) (w:World) (h:RdI w v xs) (hl:xs.length≤536870912):
  Calls Tryz.prog 112 #[v] w fun e w'=> ∃r s,e= .returned (.tuple #[r,s])∧OwI w' w.heap.size r (coreF xs)∧RdI w' s (prefF xs)∧Below w.heap.size w w':=by
 have H:=hDD h
 obtain⟨A,cap,rfl,_⟩:=h.arg
 clear h
 have hcl:(redL [] xs).length≤536870912:=by have:=redL_len [] xs;simp only[List.length_nil] at this;omega
 have F1:Hid (coreF xs=coreC (redL [] xs)):=hDD rfl
 have F2:Hid (prefF xs=(redL [] xs).take (stripN (redL [] xs))):=hDD rfl
 go_enter Tryz.func112,Tryz.ntmps112
 go_wp2_with fail
 refine(implReduceLetters_any _ xs _ H.out hl).mono ?_
 rintro e w1 ⟨r1,rfl,o1,b1⟩
 have O1:=hDD o1
 have B1:=hDD b1
 clear o1 b1
 generalize redL [] xs=c at*
 have hs1:=B1.out.size
 rcases O1.out.form2 with ⟨rfl,rfl⟩ | ⟨g,cap1,rfl,hcap1,hm1,hg1,hg2⟩
 ·have hz:RdI w1 (.slice none 0 0) []:=O1.out.rd
  have HZ:=hDD hz.drew
  have BB:=hDD B1.out.drew
  go_wp2_with fail
  refine wp_loop_rounds 1 ?_
  rw[rounds_succ]
  go_wp2_with fail
  go_quiet (fail)
  go_wp2_with fail
  replace HZ:=hDD (hz.drewN nq).drew
  replace BB:=hDD (bel_drewN B1.out nq).drew
  generalize w1.drewN nq=wa at HZ BB⊢
  have HSZ:=hDD BB.out.size
  go_region_held3 (fun w'=>True) (go_keep)
   (first | (go_at_call 63;(with_reducible refine(copyInts_any (.slice none 0 0) [] _ HZ.out (by simp)).mono ?_);rintro e w2 ⟨r1,rfl,o1,b1⟩;(first | (replace OA:=hDD (OA.out.below b1);have OB:=hDD o1) | have OA:=hDD o1);replace HZ:=hDD (HZ.out.below b1);replace BB:=hDD (BB.out.trans (b1.mono BB.out.size));clear o1 b1))
  go_wp2
  go_ret2
  exact⟨_,_,rfl,by rw[F1.out];exact OA.out.mono HSZ.out,by rw[F2.out];exact OB.out.rd,BB.out⟩
 unfold maxLen at hm1
 go_wp2_with fail
 go_loopw [5,6] (fun f t wr=> ∃k:Nat,2*k≤c.length∧f= .int .i64 k∧t= .int .i64 ((c.length:Int)-(k:Int))∧stripGo c (c.length-k) k=stripN c∧ ∃n,wr=w1.drewN n)
  (fun f _ _=>c.length-(intOf f).toNat)
 case atStart=>exact⟨0,by omega,rfl,by simp,rfl,0,rfl⟩
 case round=>
  obtain⟨k,hk,rfl,rfl,hst,n,rfl⟩:=hrel
  have HST:=hDD hst
  clear hst
  have fin:stripN c=k→coreC c=(c.take (c.length-k)).drop k∧c.take (stripN c)=c.take k:=fun e=>by
   unfold coreC;rw[e];exact⟨rfl,rfl⟩
  have FIN:=hDD fin
  have h0k:(0:Int)≤(k:Int):=by omega
  have hkc:(k:Int)≤(cap1:Int):=by omega
  have hkc2:(k:Int)≤(c.length:Int)-(k:Int):=by omega
  have hkc3:(c.length:Int)-(k:Int)≤(cap1:Int):=by omega
  have hn1:((c.length:Int)-(k:Int)).toNat=c.length-k:=by omega
  clear fin
  by_cases h2:2*k+2≤c.length
  ·obtain⟨b,off,hA,hbl,hc⟩:=O1.out.rd.at (by omega)
   obtain⟨rfl,rfl⟩:g=b∧0=off:=by simpa using hA
   have hcell:=hc k (by omega)
   have hcell':=hc (c.length-1-k) (by omega)
   rw[Nat.zero_add] at hcell hcell'
   have hx1:c.getD k 0=c[k]:=by simp[List.getD,show k<c.length by omega]
   have hx2:c.getD (c.length-1-k) 0=c[c.length-1-k]:=by simp[List.getD,show c.length-1-k<c.length by omega]
   have HGO:Hid (invB c[k] c[c.length-1-k]=true→stripGo c (c.length-(k+1)) (k+1)=stripN c):=hDD fun e=>strip_at HST.out h2 (by rw[hx1,hx2];exact e)
   have HNO:Hid (invB c[k] c[c.length-1-k]=false→stripN c=k):=hDD fun e=>strip_stop HST.out (by rintro⟨_,e'⟩;rw[hx1,hx2,e] at e';cases e')
   have HI:=hDD (O1.out.2 c[k] (by simp))
   have hg1:decide ((2:Int)≤(c.length:Int)-(k:Int)-(k:Int))=true:=by simp;omega
   have hi1:((c.length:Int)-(k:Int)-1).toNat=c.length-1-k:=by omega
   clear hc hx1 hx2 hA
   generalize c[k]=x at hcell HGO HNO HI
   generalize c[c.length-1-k]=y at hcell' HGO HNO
   rcases hiv:invB x y with _ | _
   ·have HAI:Hid (∀W:World,Calls Tryz.prog 111 #[.int .i64 x, .int .i64 y] W fun e w'=>e= .returned (.bool false)∧W=w'):=hDD fun W=>by have:=areInverse_any x y W HI.out;rw[hiv] at this;exact this
    have HK:=hDD (HNO.out hiv)
    clear hiv
    go_wp2
    go_quiet ((go_at_call 111;first | exact quiet_left (HAI.out _) | exact quiet_add_left (HAI.out _)))
    go_wp2
    have hcp: ¬cap1=k:=by omega
    have HC:=hDD ((core_rd O1.out.rd hk hcp).drewN (n+nq)).drew
    have HD:=hDD ((O1.out.rd.head (k:=k) rfl (by omega)).drewN (n+nq)).drew
    have BB:=hDD (bel_drewN B1.out (n+nq)).drew
    rw[World.drewN_drewN]
    generalize w1.drewN (n+nq)=wa at HC HD BB⊢
    have HSZ:=hDD BB.out.size
    go_region_held3 (fun w'=>True) (go_keep)
     (first
     | (go_at_call 63;(with_reducible refine(copyInts_any (.slice (some ⟨g,k,none⟩) (c.length-k-k) (cap1-k)) _ _ HC.out (by simp;omega)).mono ?_);rintro e w2 ⟨r1,rfl,o1,b1⟩;have OA:=hDD o1;replace HD:=hDD (HD.out.below b1);replace BB:=hDD (BB.out.trans (b1.mono BB.out.size));clear o1 b1)
     | (go_at_call 63;(with_reducible refine(copyInts_any (.slice (some ⟨g,0,none⟩) k cap1) _ _ HD.out (by simp;omega)).mono ?_);rintro e w2 ⟨r1,rfl,o1,b1⟩;have OB:=hDD o1;replace OA:=hDD (OA.out.below b1);replace BB:=hDD (BB.out.trans (b1.mono BB.out.size));clear o1 b1))
    go_wp2
    go_ret2
    refine⟨_,_,rfl,?_,?_,BB.out⟩
    ·rw[F1.out,(FIN.out HK.out).1];exact OA.out.mono HSZ.out
    ·rw[F2.out,(FIN.out HK.out).2];exact OB.out.rd
   ·have HAI:Hid (∀W:World,Calls Tryz.prog 111 #[.int .i64 x, .int .i64 y] W fun e w'=>e= .returned (.bool true)∧W=w'):=hDD fun W=>by have:=areInverse_any x y W HI.out;rw[hiv] at this;exact this
    have HK:=hDD (HGO.out hiv)
    clear hiv
    go_wp2
    go_quiet ((go_at_call 111;first | exact quiet_left (HAI.out _) | exact quiet_add_left (HAI.out _)))
    go_wp2
    go_roundw
    case rel=>exact⟨k+1,by omega,by go_num,by congr 1;omega,HK.out,_,rfl⟩
    case measure=>simp[intOf];omega
  ·have hg1:decide ((2:Int)≤(c.length:Int)-(k:Int)-(k:Int))=false:=by simp;omega
   have HK:=hDD (strip_stop HST.out (fun h=>h2 h.1))
   go_wp2
   go_quiet (fail)
   go_wp2
   rcases hcq:decide (cap1=k) with _ | _
   ·have hcp: ¬cap1=k:=by simpa using hcq
    have HC:=hDD ((core_rd O1.out.rd hk hcp).drewN (n+nq)).drew
    have HD:=hDD ((O1.out.rd.head (k:=k) rfl (by omega)).drewN (n+nq)).drew
    have BB:=hDD (bel_drewN B1.out (n+nq)).drew
    rw[World.drewN_drewN]
    generalize w1.drewN (n+nq)=wa at HC HD BB⊢
    have HSZ:=hDD BB.out.size
    go_region_held3 (fun w'=>True) (go_keep)
     (first
     | (go_at_call 63;(with_reducible refine(copyInts_any (.slice (some ⟨g,k,none⟩) (c.length-k-k) (cap1-k)) _ _ HC.out (by simp;omega)).mono ?_);rintro e w2 ⟨r1,rfl,o1,b1⟩;have OA:=hDD o1;replace HD:=hDD (HD.out.below b1);replace BB:=hDD (BB.out.trans (b1.mono BB.out.size));clear o1 b1)
     | (go_at_call 63;(with_reducible refine(copyInts_any (.slice (some ⟨g,0,none⟩) k cap1) _ _ HD.out (by simp;omega)).mono ?_);rintro e w2 ⟨r1,rfl,o1,b1⟩;have OB:=hDD o1;replace OA:=hDD (OA.out.below b1);replace BB:=hDD (BB.out.trans (b1.mono BB.out.size));clear o1 b1))
    go_wp2
    go_ret2
    refine⟨_,_,rfl,?_,?_,BB.out⟩
    ·rw[F1.out,(FIN.out HK.out).1];exact OA.out.mono HSZ.out
    ·rw[F2.out,(FIN.out HK.out).2];exact OB.out.rd
   ·obtain rfl:cap1=k:=by simpa using hcq
    obtain rfl:cap1=0:=by omega
    obtain rfl:c= []:=List.eq_nil_of_length_eq_zero (by omega)
    have HZ:Hid (RdI (w1.drewN (n+nq)).drew (.slice (some ⟨g,0,none⟩) 0 0) []):=hDD (O1.out.rd.drewN (n+nq)).drew
    have BB:=hDD (bel_drewN B1.out (n+nq)).drew
    rw[World.drewN_drewN]
    generalize w1.drewN (n+nq)=wa at HZ BB⊢
    have HSZ:=hDD BB.out.size
    go_region_held3 (fun w'=>True) (go_keep)
     (first | (go_at_call 63;(with_reducible refine(copyInts_any (.slice (some ⟨g,0,none⟩) 0 0) [] _ HZ.out (by simp)).mono ?_);rintro e w2 ⟨r1,rfl,o1,b1⟩;(first | (replace OA:=hDD (OA.out.below b1);have OB:=hDD o1) | have OA:=hDD o1);replace HZ:=hDD (HZ.out.below b1);replace BB:=hDD (BB.out.trans (b1.mono BB.out.size));clear o1 b1))
    go_wp2
    go_ret2
    exact⟨_,_,rfl,by rw[F1.out];exact OA.out.mono HSZ.out,by rw[F2.out];exact OB.out.rd,BB.out⟩
def slLen:Value→Nat
 | .slice _ n _=>n
 | _=>0
theorem invB_core {x y:Int} (hx:I64 x) (hy:I64 y):invB x y=((x==wrap64 (-y))&&(x != wrap64 (-x))):=by
 have hw:wrap64 (- -9223372036854775808)= -9223372036854775808:=by decide+kernel
 have hx':=hx
 have hy':=hy
 unfold I64 at hx' hy'
 unfold invB
 by_cases h1:x= -9223372036854775808
 ·subst h1;rw[hw];simp
 ·by_cases h2:y= -9223372036854775808
  ·subst h2;rw[hw,Bool.eq_iff_iff];simp;omega
  ·rw[I64.neg hx h1,I64.neg hy h2,Bool.eq_iff_iff];simp;omega
theorem RdI_none (w:World) (a:Addr) (c:Nat) (hc:c≤maxLen):RdI w (.slice (some a) 0 c) []:=
 ⟨⟨rfl,some a,c,rfl,Nat.zero_le _,hc,(fun h=>by cases h),fun h=>absurd h (by simp)⟩,I64s_nil⟩
theorem core_rd2 {W:World} {g cap:Nat} {c:List Int} {k m cp:Nat} (h:RdI W (.slice (some ⟨g,0,none⟩) c.length cap) c) (hm:m+2*k=c.length) (hc:cp+k=cap) (hcm:cap≤maxLen):
  RdI W (.slice (some ⟨g,k,none⟩) m cp) ((c.take (c.length-k)).drop k):=by
 by_cases h0:m=0
 ·subst h0
  have:(c.take (c.length-k)).drop k= []:=List.eq_nil_of_length_eq_zero (by simp;omega)
  rw[this]
  exact RdI_none _ _ _ (by omega)
 ·obtain⟨A',cap',hv,hle,_⟩:=h.1.cell
  injection hv with e1 e2 e3
  have:=core_rd h (k:=k) (by omega) (by omega)
  rw[show c.length-k-k=m by omega,show cap-k=cp by omega] at this
  exact this
set_option maxHeartbeats 1000000 in
theorem specCyclicCore_any (v:Value) (xs:List Int) (w:World) (h:RdI w v xs) (hl:xs.length≤536870912):
  Calls Tryz.prog 76 #[v] w fun e w'=> ∃r s,e= .returned (.tuple #[r,s])∧OwI w' w.heap.size r (coreF xs)∧RdI w' s (prefF xs)∧Below w.heap.size w w':=by
 have H:=hDD h
 obtain⟨A,cap,rfl,_⟩:=h.arg
 clear h
 have hcl:(redL [] xs).length≤536870912:=by have:=redL_len [] xs;simp only[List.length_nil] at this;omega
 have F1:Hid (coreF xs=coreC (redL [] xs)):=hDD rfl
 have F2:Hid (prefF xs=(redL [] xs).take (stripN (redL [] xs))):=hDD rfl
 go_enter Tryz.func76,Tryz.ntmps76
 go_wp2_with fail
 refine(specReduceLetters_any _ xs _ H.out (by omega)).mono ?_
 rintro e w1 ⟨r1,rfl,o1,b1⟩
 have O1:=hDD o1
 have B1:=hDD b1
 clear o1 b1
 generalize redL [] xs=c at*
 have hs1:=B1.out.size
 rcases O1.out.form2 with ⟨rfl,rfl⟩ | ⟨g,cap1,rfl,hcap1,hm1,hg1,hg2⟩
 ·clear O1
  go_wp2_with fail
  refine wp_loop_rounds 1 ?_
  rw[rounds_succ]
  go_wp2_with fail
  go_quiet (fail)
  have hbw:Below w.heap.size w ((w1.alloc (Obj.cells #[] 3)).drewN nq):=bel_drewN (B1.out.alloc hs1 _) nq
  have hob:OwI ((w1.alloc (Obj.cells #[] 3)).drewN nq) w.heap.size (.slice (some ⟨w1.heap.size,0,none⟩) 0 0) []:=(OwI_lit w1 [] I64s_nil (by simp) hs1).drewN nq
  have HBW:=hDD hbw
  have HOB:=hDD hob.rd
  have hsz9:=hbw.size
  have hnil:RdI ((w1.alloc (Obj.cells #[] 3)).drewN nq) (.slice none 0 0) []:=⟨⟨rfl,none,0,rfl,Nat.le_refl _,by unfold maxLen;omega,fun _=>rfl,fun h=>absurd h (by simp)⟩,I64s_nil⟩
  have HNL:=hDD hnil
  clear hbw hob hnil
  generalize (w1.alloc (Obj.cells #[] 3)).drewN nq=w9 at HBW HOB HNL hsz9⊢
  go_wp2_with (at_builtin;refine append_ints rfl (.tmp 46) (.tmp 47) rfl w.heap.size _ [] (OwI_lit w9 [] I64s_nil (by simp) hsz9) rfl _ _ (HNL.out.alloc _) rfl (by simp) (by simp;omega) ?_;intro v4 w4 o4 g4 p4;have O4:=hDD o4;have B4:Hid (Below w9.heap.size w9 w4):=hDD (((Below.refl _ _).alloc (Nat.le_refl _) _).grown g4 (by simp) (fun j hj=>by simp[Value.ownBlock] at hj;omega));clear o4 g4 p4)
  go_ret2
  exact⟨_,_,rfl,by rw[F1.out];exact O4.out,by rw[F2.out];exact HOB.out.below B4.out,HBW.out.trans (B4.out.mono hsz9)⟩
 have HM1:=hDD hm1
 unfold maxLen at hm1
 go_wp2_with fail
 go_loopw [4,5] (fun x p wr=> ∃k m cp:Nat,m+2*k=c.length∧cp+k=cap1∧x= .slice (some ⟨g,k,none⟩) m cp∧OwI wr w1.heap.size p (c.take k)∧stripGo c (c.length-k) k=stripN c∧Below w1.heap.size w1 wr)
  (fun x _ _=>slLen x)
 case atStart=>exact⟨0,c.length,cap1,by omega,by omega,rfl,OwI_lit w1 [] I64s_nil (by simp) (Nat.le_refl _),rfl,(Below.refl _ _).alloc (Nat.le_refl _) _⟩
 case round=>
  obtain⟨k,m,cp,hm2,hcp2,rfl,hp,hst,hbel⟩:=hrel
  have HST:=hDD hst
  have HB:=hDD hbel
  have hsz:=hbel.size
  have HM2:=hDD hm2
  have HCP2:=hDD hcp2
  have hk1:k≤c.length:=by omega
  have hcp3:m≤cp:=by omega
  have hcp4:cp≤2^63-1:=by omega
  have hml:m≤536870912:=by omega
  have fin:stripN c=k→coreC c=(c.take (c.length-k)).drop k∧c.take (stripN c)=c.take k:=fun e=>by
   unfold coreC;rw[e];exact⟨rfl,rfl⟩
  have FIN:=hDD fin
  have HC:=hDD (core_rd2 (O1.out.rd.below hbel) hm2 hcp2 HM1.out)
  have hpl:(c.take k).length≤536870912:=by simp;omega
  have HP:=hDD hp
  have hcpx: ¬cp=1∨m≤1:=by omega
  have HTK:Hid (∀h:k<c.length,c.take (k+1)=c.take k++ [c[k]]):=hDD fun h=>List.take_succ_eq_append_getElem h
  by_cases h2:2≤m
  ·obtain⟨b,off,hA,hbl,hc⟩:=(O1.out.rd.below hbel).at (by omega)
   obtain⟨rfl,rfl⟩:g=b∧0=off:=by simpa using hA
   have hcell:=hc k (by omega)
   have hcell':=hc (k+(m-1)) (by omega)
   rw[Nat.zero_add] at hcell hcell'
   have hx1:c.getD k 0=c[k]:=by simp[List.getD,show k<c.length by omega]
   have hx2:c.getD (c.length-1-k) 0=c[k+(m-1)]:=by rw[show c.length-1-k=k+(m-1) by omega];simp[List.getD,show k+(m-1)<c.length by omega]
   have HGO:Hid (invB c[k] c[k+(m-1)]=true→stripGo c (c.length-(k+1)) (k+1)=stripN c):=hDD fun e=>strip_at HST.out (by omega) (by rw[hx1,hx2];exact e)
   have HNO:Hid (invB c[k] c[k+(m-1)]=false→stripN c=k):=hDD fun e=>strip_stop HST.out (by rintro⟨_,e'⟩;rw[hx1,hx2,e] at e';cases e')
   have HI:=hDD (O1.out.2 c[k] (by simp))
   have HI':=hDD (O1.out.2 c[k+(m-1)] (by simp))
   have HTK2:=hDD (HTK.out (by omega))
   have hg1:decide ((1:Int)<(m:Int))=true:=by simp;omega
   have hcp5: ¬cp=1:=by omega
   clear hc hx1 hx2 hA fin hp hst hbel hcpx HTK
   generalize c[k]=x at hcell HGO HNO HI HTK2
   generalize c[k+(m-1)]=y at hcell' HGO HNO HI'
   have HCO:=hDD (invB_core HI.out HI'.out)
   generalize c.take k=acc at HP hpl HTK2 FIN
   clear hm2 hcp2
   obtain⟨A3,cap3,rfl,_⟩:=OwI.form HP.out
   rcases e1:(x==wrap64 (-y)) with _ | _
   ·have HK:=hDD (HNO.out (by rw[HCO.out,e1];rfl))
    go_wp2
    go_quiet (fail)
    have HO9:=hDD (HC.out.drewN nq)
    obtain⟨A9,c9,hv9,hle9,_⟩:=HC.out.1.cell
    clear hv9 hle9
    have hw9:Hid (Below w.heap.size w (wr.drewN nq)):=hDD (bel_drewN (B1.out.trans (HB.out.mono hs1)) nq)
    have HP9:=hDD (HP.out.rd.drewN nq)
    have hsz9:w.heap.size≤(wr.drewN nq).heap.size:=hw9.out.size
    have hlc:((c.take (c.length-k)).drop k).length≤536870912:=by simp;omega
    have F3:=hDD (FIN.out HK.out)
    generalize (c.take (c.length-k)).drop k=core at HO9 hlc F3 HC
    generalize wr.drewN nq=w9 at HO9 HP9 hw9 hsz9⊢
    go_wp2_with (at_builtin;refine append_ints rfl (.tmp 46) (.tmp 47) rfl w.heap.size _ [] (OwI_lit w9 [] I64s_nil (by simp) hsz9) rfl _ _ (HO9.out.alloc _) rfl (by simp only[List.length_nil];omega) (by simp;omega) ?_;intro v4 w4 o4 g4 p4;have O4:=hDD o4;have B4:Hid (Below w9.heap.size w9 w4):=hDD (((Below.refl _ _).alloc (Nat.le_refl _) _).grown g4 (by simp) (fun j hj=>by simp[Value.ownBlock] at hj;omega));clear o4 g4 p4)
    go_ret2
    exact⟨_,_,rfl,by rw[F1.out,F3.out.1];exact O4.out,by rw[F2.out,F3.out.2];exact HP9.out.below B4.out,hw9.out.trans (B4.out.mono hsz9)⟩
   ·rcases e2:(x != wrap64 (-x)) with _ | _
    ·have HK:=hDD (HNO.out (by rw[HCO.out,e1,e2];rfl))
     go_wp2
     go_quiet (fail)
     have HO9:=hDD (HC.out.drewN nq)
     obtain⟨A9,c9,hv9,hle9,_⟩:=HC.out.1.cell
     clear hv9 hle9
     have hw9:Hid (Below w.heap.size w (wr.drewN nq)):=hDD (bel_drewN (B1.out.trans (HB.out.mono hs1)) nq)
     have HP9:=hDD (HP.out.rd.drewN nq)
     have hsz9:w.heap.size≤(wr.drewN nq).heap.size:=hw9.out.size
     have hlc:((c.take (c.length-k)).drop k).length≤536870912:=by simp;omega
     have F3:=hDD (FIN.out HK.out)
     generalize (c.take (c.length-k)).drop k=core at HO9 hlc F3 HC
     generalize wr.drewN nq=w9 at HO9 HP9 hw9 hsz9⊢
     go_wp2_with (at_builtin;refine append_ints rfl (.tmp 46) (.tmp 47) rfl w.heap.size _ [] (OwI_lit w9 [] I64s_nil (by simp) hsz9) rfl _ _ (HO9.out.alloc _) rfl (by simp only[List.length_nil];omega) (by simp;omega) ?_;intro v4 w4 o4 g4 p4;have O4:=hDD o4;have B4:Hid (Below w9.heap.size w9 w4):=hDD (((Below.refl _ _).alloc (Nat.le_refl _) _).grown g4 (by simp) (fun j hj=>by simp[Value.ownBlock] at hj;omega));clear o4 g4 p4)
     go_ret2
     exact⟨_,_,rfl,by rw[F1.out,F3.out.1];exact O4.out,by rw[F2.out,F3.out.2];exact HP9.out.below B4.out,hw9.out.trans (B4.out.mono hsz9)⟩
    ·have HK:=hDD (HGO.out (by rw[HCO.out,e1,e2];rfl))
     go_wp2
     go_quiet (fail)
     have hcell9:(wr.drewN nq).cell? ⟨g,k,none⟩=some (.int .i64 x):=hcell
     have HP9:=hDD (HP.out.drewN nq)
     have HB9:=hDD (bel_drewN HB.out nq)
     have hsz9:=HB9.out.size
     have hm2:=HM2.out
     have hcp2:=HCP2.out
     clear hcell
     generalize wr.drewN nq=w9 at hcell9 HP9 HB9 hsz9⊢
     go_wp2_with (at_builtin;refine push_int rfl (.tmp 35) (.tmp 39) rfl _ _ _ (OwI.alloc HP9.out _) rfl _ _ rfl (cell_new1 _ _ _) HI.out (by first | omega | (simp<;>omega)) (by first | omega | (simp<;>omega)) ?_;intro v1 wv1 o1 g1 p1)
     go_roundw
     case rel=>
      refine⟨k+1,m-2,cp-1,by omega,by omega,?_,by rw[HTK2.out];exact o1,HK.out,bel_push HB9.out hsz9 HP9.out.1 (Nat.le_refl _) g1⟩
      rw[Nat.sub_sub]
     case measure=>simp[slLen];omega
  ·have hg1:decide ((1:Int)<(m:Int))=false:=by simp;omega
   have HK:=hDD (strip_stop HST.out (fun h=>h2 (by omega)))
   generalize c.take k=acc at HP hpl HTK FIN
   obtain⟨A3,cap3,rfl,_⟩:=OwI.form HP.out
   clear hm2 hcp2 fin hp hst hbel hcpx HTK
   ·go_wp2
    go_quiet (fail)
    have HO9:=hDD (HC.out.drewN nq)
    obtain⟨A9,c9,hv9,hle9,_⟩:=HC.out.1.cell
    clear hv9 hle9
    have hw9:Hid (Below w.heap.size w (wr.drewN nq)):=hDD (bel_drewN (B1.out.trans (HB.out.mono hs1)) nq)
    have HP9:=hDD (HP.out.rd.drewN nq)
    have hsz9:w.heap.size≤(wr.drewN nq).heap.size:=hw9.out.size
    have hlc:((c.take (c.length-k)).drop k).length≤536870912:=by simp;omega
    have F3:=hDD (FIN.out HK.out)
    generalize (c.take (c.length-k)).drop k=core at HO9 hlc F3 HC
    generalize wr.drewN nq=w9 at HO9 HP9 hw9 hsz9⊢
    go_wp2_with (at_builtin;refine append_ints rfl (.tmp 46) (.tmp 47) rfl w.heap.size _ [] (OwI_lit w9 [] I64s_nil (by simp) hsz9) rfl _ _ (HO9.out.alloc _) rfl (by simp only[List.length_nil];omega) (by simp;omega) ?_;intro v4 w4 o4 g4 p4;have O4:=hDD o4;have B4:Hid (Below w9.heap.size w9 w4):=hDD (((Below.refl _ _).alloc (Nat.le_refl _) _).grown g4 (by simp) (fun j hj=>by simp[Value.ownBlock] at hj;omega));clear o4 g4 p4)
    go_ret2
    exact⟨_,_,rfl,by rw[F1.out,F3.out.1];exact O4.out,by rw[F2.out,F3.out.2];exact HP9.out.below B4.out,hw9.out.trans (B4.out.mono hsz9)⟩
end Go.Proofs.YtlgcflpaekbopaaGreat
namespace Go.Proofs.YtlgcflpaekbopaaGreat
set_option maxRecDepth 20000
set_option linter.unusedVariables false
set_option linter.unusedSimpArgs false
open Go.RowKit
set_option maxHeartbeats 1000000 in
theorem l2Order_any (a b:Int) (w:World) (ha:I64 a) (hb:I64 b):
  Calls Tryz.prog 134 #[.int .i64 a, .int .i64 b] w fun e w'=>e= .returned (.int .i64 (cmpL a b))∧w=w':=by
 have ha1:=ha.1
 have ha2:=ha.2
 have hb1:=hb.1
 have hb2:=hb.2
 clear ha hb
 have HW:=hDD (show wrap64 9223372036854775808= -9223372036854775808 by decide+kernel)
 rcases e1:(a==b) with _ | _
 ·have n1:a≠b:=by simpa using e1
  by_cases n2:a= -9223372036854775808
  ·subst n2
   have H:Hid (cmpL (-9223372036854775808) b=1):=hDD (by unfold cmpL;rw[if_neg n1];rfl)
   clear n1
   have hw:=HW.out
   go_enter Tryz.func134,Tryz.ntmps134
   go_wp2
   all_goals go_ret
   all_goals exact⟨ret_int H.out.symm,rfl⟩
  ·by_cases n3:b= -9223372036854775808
   ·subst n3
    have H:Hid (cmpL a (-9223372036854775808)= -1):=hDD (by unfold cmpL;rw[if_neg n1,if_neg n2];rfl)
    have ha3: -9223372036854775808<a:=by omega
    clear n1 n2
    have hw:=HW.out
    rcases Int.lt_or_le a 0 with sa | sa
    ·have p1:a< -a:=by omega
     have p2:decide (-a<0)=false:=by simp;omega
     have p3:(-a== -9223372036854775808)=false:=by simp;omega
     go_enter Tryz.func134,Tryz.ntmps134
     go_wp2
     all_goals go_ret
     all_goals exact⟨ret_int H.out.symm,rfl⟩
    ·have p1: ¬a< -a:=by omega
     have p2:decide (a<0)=false:=by simp;omega
     have p3:(a== -9223372036854775808)=false:=by simp;omega
     go_enter Tryz.func134,Tryz.ntmps134
     go_wp2
     all_goals go_ret
     all_goals exact⟨ret_int H.out.symm,rfl⟩
   ·have F:Hid (cmpL a b=if cmpI (max a (-a)) (max b (-b))≠0 then cmpI (max a (-a)) (max b (-b)) else cmpI b a):=hDD (by unfold cmpL;rw[if_neg n1,if_neg n2,if_neg n3])
    have ha3: -9223372036854775808<a:=by omega
    have hb3: -9223372036854775808<b:=by omega
    have N1:=hDD n1
    clear n1 n2 n3
    have hlt: ∀x y:Int,x<y→cmpI x y= -1:=fun x y h=>by unfold cmpI;rw[if_pos h]
    have hgt: ∀x y:Int,y<x→cmpI x y=1:=fun x y h=>by unfold cmpI;rw[if_neg (by omega),if_pos h]
    have heq: ∀x:Int,cmpI x x=0:=fun x=>by unfold cmpI;simp
    have fin: ∀x y:Int,max a (-a)=x→max b (-b)=y→(x<y→cmpL a b= -1)∧(y<x→cmpL a b=1)∧(x=y→a<b→cmpL a b=1)∧(x=y→b<a→cmpL a b= -1):=fun x y h1 h2=>by
     rw[F.out,h1,h2]
     refine⟨fun h=> ?_,fun h=> ?_,fun h h'=> ?_,fun h h'=> ?_⟩
     ·rw[hlt _ _ h];rfl
     ·rw[hgt _ _ h];rfl
     ·rw[h,heq,if_neg (by simp),hgt _ _ h']
     ·rw[h,heq,if_neg (by simp),hlt _ _ h']
    have FIN:=hDD fin
    clear fin hlt hgt heq F
    rcases Int.lt_or_le a 0 with sa | sa<;>rcases Int.lt_or_le b 0 with sb | sb
    ·have p1:a< -a:=by omega
     have p2:b< -b:=by omega
     have G:=hDD (FIN.out (-a) (-b) (by omega) (by omega))
     rcases Int.lt_trichotomy (-a) (-b) with h | h | h
     ·have g1:decide (-b< -a)=false:=by simp;omega
      have g2:(-a== -b)=false:=by simp;omega
      have g3:decide (-a<0)=false:=by simp;omega
      have R:=hDD (G.out.1 h)
      go_enter Tryz.func134,Tryz.ntmps134
      go_wp2
      all_goals go_ret
      all_goals exact⟨ret_int R.out.symm,rfl⟩
     ·exact absurd (show a=b by omega) N1.out
     ·have R:=hDD (G.out.2.1 h)
      have g1:decide (-b< -a)=true:=by simp;omega
      have g3:decide (-a<0)=false:=by simp;omega
      have g4:decide (0≤ -b)=true:=by simp;omega
      go_enter Tryz.func134,Tryz.ntmps134
      go_wp2
      all_goals go_ret
      all_goals exact⟨ret_int R.out.symm,rfl⟩
    ·have p1:a< -a:=by omega
     have p2: ¬b< -b:=by omega
     have G:=hDD (FIN.out (-a) b (by omega) (by omega))
     have g3:decide (-a<0)=false:=by simp;omega
     have g4:decide (0≤b)=true:=by simp;omega
     rcases Int.lt_trichotomy (-a) b with h | h | h
     ·have g1:decide (b< -a)=false:=by simp;omega
      have g2:(-a==b)=false:=by simp;omega
      have R:=hDD (G.out.1 h)
      go_enter Tryz.func134,Tryz.ntmps134
      go_wp2
      all_goals go_ret
      all_goals exact⟨ret_int R.out.symm,rfl⟩
     ·have g1:decide (b< -a)=false:=by simp;omega
      have g2:(-a==b)=true:=by simp;omega
      have g5:decide (a<b)=true:=by simp;omega
      have R:=hDD (G.out.2.2.1 h (by omega))
      have HH:=hDD h
      clear h
      go_enter Tryz.func134,Tryz.ntmps134
      go_wp2
      all_goals go_ret
      all_goals first | exact⟨ret_int R.out.symm,rfl⟩ | (exfalso;have:=HH.out;omega)
     ·have g1:decide (b< -a)=true:=by simp;omega
      have R:=hDD (G.out.2.1 h)
      go_enter Tryz.func134,Tryz.ntmps134
      go_wp2
      all_goals go_ret
      all_goals exact⟨ret_int R.out.symm,rfl⟩
    ·have p1: ¬a< -a:=by omega
     have p2:b< -b:=by omega
     have G:=hDD (FIN.out a (-b) (by omega) (by omega))
     have g3:decide (a<0)=false:=by simp;omega
     have g4:decide (0≤ -b)=true:=by simp;omega
     rcases Int.lt_trichotomy a (-b) with h | h | h
     ·have g1:decide (-b<a)=false:=by simp;omega
      have g2:(a== -b)=false:=by simp;omega
      have R:=hDD (G.out.1 h)
      go_enter Tryz.func134,Tryz.ntmps134
      go_wp2
      all_goals go_ret
      all_goals exact⟨ret_int R.out.symm,rfl⟩
     ·have g1:decide (-b<a)=false:=by simp;omega
      have g2:(a== -b)=true:=by simp;omega
      have g5:decide (a<b)=false:=by simp;omega
      have R:=hDD (G.out.2.2.2 h (by omega))
      have HH:=hDD h
      clear h
      go_enter Tryz.func134,Tryz.ntmps134
      go_wp2
      all_goals go_ret
      all_goals first | exact⟨ret_int R.out.symm,rfl⟩ | (exfalso;have:=HH.out;omega)
     ·have g1:decide (-b<a)=true:=by simp;omega
      have R:=hDD (G.out.2.1 h)
      go_enter Tryz.func134,Tryz.ntmps134
      go_wp2
      all_goals go_ret
      all_goals exact⟨ret_int R.out.symm,rfl⟩
    ·have p1: ¬a< -a:=by omega
     have p2: ¬b< -b:=by omega
     have G:=hDD (FIN.out a b (by omega) (by omega))
     have g3:decide (a<0)=false:=by simp;omega
     have g4:decide (0≤b)=true:=by simp;omega
     rcases Int.lt_trichotomy a b with h | h | h
     ·have g1:decide (b<a)=false:=by simp;omega
      have R:=hDD (G.out.1 h)
      go_enter Tryz.func134,Tryz.ntmps134
      go_wp2
      all_goals go_ret
      all_goals exact⟨ret_int R.out.symm,rfl⟩
     ·exact absurd h N1.out
     ·have g1:decide (b<a)=true:=by simp;omega
      have R:=hDD (G.out.2.1 h)
      go_enter Tryz.func134,Tryz.ntmps134
      go_wp2
      all_goals go_ret
      all_goals exact⟨ret_int R.out.symm,rfl⟩
 ·have H:Hid (cmpL a b=0):=hDD (by unfold cmpL;simp at e1;rw[if_pos e1])
  go_enter Tryz.func134,Tryz.ntmps134
  go_wp2
  all_goals go_ret
  all_goals exact⟨ret_int H.out.symm,rfl⟩
theorem cmpW_len {a b:List Int} (h:a.length≠b.length):cmpW a b=cmpI a.length b.length:=by unfold cmpW;rw[if_neg h]
theorem cmpI_ne {a b:Int} (h:a≠b):(cmpI a b != 0)=true:=by
 unfold cmpI;split
 ·rfl
 ·split
  ·rfl
  ·omega
theorem cmpI_eq (a:Int):cmpI a a=0:=by unfold cmpI;simp
set_option maxHeartbeats 1000000 in
theorem specCompareWords_any (u v:Value) (a b:List Int) (w:World) (h:ArgI w u a) (h':ArgI w v b):
  Calls Tryz.prog 116 #[u,v] w fun e w'=>e= .returned (.int .i64 (cmpW a b))∧ ∃n,w'=w.drewN n:=by
 obtain⟨A,cap,rfl,hcap,hm,hr,hb⟩:=h
 obtain⟨A',cap',rfl,hcap',hm',hr',hb'⟩:=h'
 unfold maxLen at hm hm'
 have HR:=hDD hr
 have HR':=hDD hr'
 clear hr hr'
 by_cases hne:a.length=b.length
 ·have hd:((a.length:Int) != (b.length:Int))=false:=by simp[hne]
  have F:Hid (cmpW a b=cmpZ a b):=hDD (by unfold cmpW;rw[if_pos hne])
  have HNE:=hDD hne
  clear hne
  go_enter Tryz.func116,Tryz.ntmps116
  go_wp2
  go_loopw [5] (fun i wr=> ∃k:Nat,k≤a.length∧i= .int .i64 k∧cmpZ (a.drop k) (b.drop k)=cmpZ a b∧ ∃n,wr=w.drewN n) (fun i _=>a.length-(intOf i).toNat)
  case atStart=>exact⟨0,Nat.zero_le _,rfl,rfl,0,rfl⟩
  case round=>
   obtain⟨k,hk,rfl,heq,n,rfl⟩:=hrel
   have HEQ:=hDD heq
   clear heq
   by_cases hlt:k<a.length
   ·obtain⟨b1,off,rfl,hc⟩:=hb (by omega)
    have hlt':k<b.length:=by have:=HNE.out;omega
    obtain⟨b',off',rfl,hc'⟩:=hb' (by omega)
    have hcell:=hc k hlt
    have hcell':=hc' k hlt'
    have HS:=hDD (cmpZ_drop a b k hlt hlt')
    have HX:=hDD (HR.out a[k] (by simp))
    have HY:=hDD (HR'.out b[k] (by simp))
    clear hc hc' hb hb'
    generalize a[k]=x at hcell HS HX
    generalize b[k]=y at hcell' HS HY
    rcases e1:(cmpL x y != 0) with _ | _
    ·have e2:cmpL x y=0:=by simpa using e1
     have HS2:Hid (cmpZ (a.drop (k+1)) (b.drop (k+1))=cmpZ a b):=hDD (by rw[←HEQ.out,HS.out,if_neg (by simp[e2])])
     have E2:=hDD e2
     clear e2
     go_wp2
     go_quiet ((go_at_call 134;first | exact quiet_left (l2Order_any _ _ _ HX.out HY.out) | exact quiet_add_left (l2Order_any _ _ _ HX.out HY.out)))
     go_wp2
     go_roundw
     case rel=>exact⟨k+1,by omega,by go_num,HS2.out,_,rfl⟩
     case measure=>simp[intOf];omega
    ·have HS2:Hid (cmpL x y=cmpW a b):=hDD (by rw[F.out,←HEQ.out,HS.out,if_pos (by simpa using e1)])
     go_wp2
     go_quiet ((go_at_call 134;first | exact quiet_left (l2Order_any _ _ _ HX.out HY.out) | exact quiet_add_left (l2Order_any _ _ _ HX.out HY.out)))
     go_wp2
     go_ret
     exact⟨ret_int HS2.out,_,rfl⟩
   ·obtain rfl:k=a.length:=by omega
    have HZ:Hid (cmpW a b=0):=hDD (by rw[F.out,←HEQ.out,cmpZ_end])
    go_wp2
    go_ret
    exact⟨ret_int HZ.out.symm,n,rfl⟩
 ·have hd:((a.length:Int) != (b.length:Int))=true:=by simp;omega
  have F:=hDD (cmpW_len hne)
  rcases Nat.lt_or_ge a.length b.length with h | h
  ·have hd2:(a.length:Int)<(b.length:Int):=by omega
   have G:Hid (cmpW a b= -1):=hDD (by rw[F.out];unfold cmpI;rw[if_pos hd2])
   go_enter Tryz.func116,Tryz.ntmps116
   go_wp2
   go_ret
   exact⟨ret_int G.out.symm,0,rfl⟩
  ·have hd2: ¬(a.length:Int)<(b.length:Int):=by omega
   have G:Hid (cmpW a b=1):=hDD (by rw[F.out];unfold cmpI;rw[if_neg hd2,if_pos (by omega)])
   clear hne h
   go_enter Tryz.func116,Tryz.ntmps116
   go_wp2
   go_ret
   exact⟨ret_int G.out.symm,0,rfl⟩
set_option maxHeartbeats 1000000 in
theorem implCompareWords_any (u v:Value) (a b:List Int) (w:World) (h:ArgI w u a) (h':ArgI w v b):
  Calls Tryz.prog 87 #[u,v] w fun e w'=>e= .returned (.int .i64 (cmpW a b))∧ ∃n,w'=w.drewN n:=by
 obtain⟨A,cap,rfl,hcap,hm,hr,hb⟩:=h
 obtain⟨A',cap',rfl,hcap',hm',hr',hb'⟩:=h'
 unfold maxLen at hm hm'
 have HR:=hDD hr
 have HR':=hDD hr'
 clear hr hr'
 by_cases hne:a.length=b.length
 ·have hd:(cmpI (a.length:Int) (b.length:Int) != 0)=false:=by rw[hne,cmpI_eq];rfl
  have F:Hid (cmpW a b=cmpZ a b):=hDD (by unfold cmpW;rw[if_pos hne])
  have HNE:=hDD hne
  clear hne
  go_enter Tryz.func87,Tryz.ntmps87
  go_wp2_with (go_at_call 101;refine(compareInts_any _ _ _).mono ?_;rintro e w' ⟨rfl,rfl⟩)
  go_loopw [18] (fun i wr=> ∃k:Nat,k≤a.length∧i= .int .i64 k∧cmpZ (a.drop k) (b.drop k)=cmpZ a b∧ ∃n,wr=w.drewN n) (fun i _=>a.length-(intOf i).toNat)
  case atStart=>exact⟨0,Nat.zero_le _,rfl,rfl,0,rfl⟩
  case round=>
   obtain⟨k,hk,rfl,heq,n,rfl⟩:=hrel
   have HEQ:=hDD heq
   clear heq
   by_cases hlt:k<a.length
   ·obtain⟨b1,off,rfl,hc⟩:=hb (by omega)
    have hlt':k<b.length:=by have:=HNE.out;omega
    obtain⟨b',off',rfl,hc'⟩:=hb' (by omega)
    have hcell:=hc k hlt
    have hcell':=hc' k hlt'
    have HS:=hDD (cmpZ_drop a b k hlt hlt')
    have HX:=hDD (HR.out a[k] (by simp))
    have HY:=hDD (HR'.out b[k] (by simp))
    clear hc hc' hb hb'
    generalize a[k]=x at hcell HS HX
    generalize b[k]=y at hcell' HS HY
    rcases e1:(cmpL x y != 0) with _ | _
    ·have e2:cmpL x y=0:=by simpa using e1
     have HS2:Hid (cmpZ (a.drop (k+1)) (b.drop (k+1))=cmpZ a b):=hDD (by rw[←HEQ.out,HS.out,if_neg (by simp[e2])])
     have E2:=hDD e2
     clear e2
     go_wp2
     go_quiet ((go_at_call 58;first | exact quiet_left (compareLetters_any _ _ _ HX.out HY.out) | exact quiet_add_left (compareLetters_any _ _ _ HX.out HY.out)))
     go_wp2
     go_roundw
     case rel=>exact⟨k+1,by omega,by go_num,HS2.out,_,rfl⟩
     case measure=>simp[intOf];omega
    ·have HS2:Hid (cmpL x y=cmpW a b):=hDD (by rw[F.out,←HEQ.out,HS.out,if_pos (by simpa using e1)])
     go_wp2
     go_quiet ((go_at_call 58;first | exact quiet_left (compareLetters_any _ _ _ HX.out HY.out) | exact quiet_add_left (compareLetters_any _ _ _ HX.out HY.out)))
     go_wp2
     go_ret
     exact⟨ret_int HS2.out,_,rfl⟩
   ·obtain rfl:k=a.length:=by omega
    have HZ:Hid (cmpW a b=0):=hDD (by rw[F.out,←HEQ.out,cmpZ_end])
    go_wp2
    go_ret
    exact⟨ret_int HZ.out.symm,n,rfl⟩
 ·have hd:(cmpI (a.length:Int) (b.length:Int) != 0)=true:=cmpI_ne (by omega)
  have F:=hDD (cmpW_len hne)
  go_enter Tryz.func87,Tryz.ntmps87
  go_wp2_with (go_at_call 101;refine(compareInts_any _ _ _).mono ?_;rintro e w' ⟨rfl,rfl⟩)
  go_ret
  exact⟨ret_int F.out.symm,0,rfl⟩
end Go.Proofs.YtlgcflpaekbopaaGreat
namespace Go.Proofs.YtlgcflpaekbopaaGreat
set_option maxRecDepth 20000
set_option linter.unusedVariables false
set_option linter.unusedSimpArgs false
open Go.RowKit
theorem rot_idx {i k n:Nat} (hn:0<n):((((i:Int)+(k:Int))%(n:Int)+(n:Int))%(n:Int))=(((k+i)%n:Nat):Int):=by
 rw[Int.add_emod_right,Int.emod_emod]
 rw[show(i:Int)+(k:Int)=((k+i:Nat):Int) by omega]
 rfl
set_option maxHeartbeats 1000000 in
theorem specRotateWord_any (v:Value) (xs:List Int) (k:Nat) (w:World) (h:RdI w v xs) (hk:k<xs.length) (hl:xs.length≤1073741824):
  Calls Tryz.prog 115 #[v, .int .i64 k] w fun e w'=> ∃r,e= .returned r∧OwI w' w.heap.size r (rotF xs k)∧Below w.heap.size w w':=by
 have H:=hDD h
 obtain⟨A,cap,rfl,hcap,hm,_⟩:=h.arg
 unfold maxLen at hm
 clear h
 have hrl:=rotF_len xs k
 have hn0:(0:Int)<(xs.length:Int):=by omega
 have hkI:(k:Int)<(xs.length:Int):=by omega
 go_enter Tryz.func115,Tryz.ntmps115
 go_wp2
 go_loopw [5,6] (fun out i wr=> ∃m:Nat,m≤xs.length∧i= .int .i64 m∧OwI wr w.heap.size out ((rotF xs k).take m)∧Below w.heap.size w wr)
  (fun _ i _=>xs.length-(intOf i).toNat)
 case atStart=>exact⟨0,Nat.zero_le _,rfl,OwI_lit _ [] I64s_nil (by simp) (Nat.le_refl _),(Below.refl _ _).alloc (Nat.le_refl _) _⟩
 case round=>
  obtain⟨m,hm',rfl,hown,hbel⟩:=hrel
  have hsz:=hbel.size
  have hal:((rotF xs k).take m).length≤m:=List.length_take_le _ _
  by_cases hlt:m<xs.length
  ·obtain⟨b,off,rfl,hbl,hc⟩:=(H.out.below hbel).at (by omega)
   have hix:(k+m)%xs.length<xs.length:=Nat.mod_lt _ (by omega)
   have hcell:=hc _ hix
   have hix2:=rot_idx (i:=m) (k:=k) (n:=xs.length) (by omega)
   have hkm:(k:Int)%(xs.length:Int)=(k:Int):=Int.emod_eq_of_lt (by omega) hkI
   have hq0:0≤((m:Int)+(k:Int))%(xs.length:Int):=Int.emod_nonneg _ (by omega)
   have hq1:((m:Int)+(k:Int))%(xs.length:Int)<(xs.length:Int):=Int.emod_lt_of_pos _ hn0
   have HX:=hDD (H.out.2 xs[(k+m)%xs.length] (by simp))
   have HS:Hid ((rotF xs k).take (m+1)=(rotF xs k).take m++ [xs[(k+m)%xs.length]]):=hDD (by
    have h1:m<(rotF xs k).length:=by rw[rotF_len];exact hlt
    rw[List.take_succ_eq_append_getElem h1]
    congr 2
    have h2:=rotF_getD xs k m (by omega) hlt
    simpa[List.getD,h1,hix] using h2)
   generalize (rotF xs k).take m=acc at hown HS hal
   have HO:=hDD hown
   obtain⟨A1,cap1,rfl,hcap1,hm1,_⟩:=hown.form
   clear hc hown
   generalize hxx:xs[(k+m)%xs.length]=x at hcell HX HS
   rw[Nat.add_comm k m] at hcell
   clear hxx hix2
   go_wp2_with (at_builtin;refine push_int rfl (.tmp 14) (.tmp 33) rfl _ _ _ (OwI.alloc HO.out _) rfl _ _ rfl (cell_new1 _ _ _) HX.out (by first | omega | (simp<;>omega)) (by first | omega | (simp<;>omega)) ?_;intro v1 wv1 o1 g1 p1)
   go_roundw
   case rel=>exact⟨m+1,by omega,by go_num,by rw[HS.out];exact o1,bel_push hbel hsz HO.out.1 (Nat.le_refl _) g1⟩
   case measure=>simp[intOf];omega
  ·obtain rfl:m=xs.length:=by omega
   rw[List.take_of_length_le (by rw[rotF_len];omega)] at hown
   go_wp2
   go_ret
   exact⟨_,rfl,hown,hbel⟩
set_option maxHeartbeats 1000000 in
theorem implRotateWord_any (v:Value) (xs:List Int) (k:Nat) (w:World) (h:RdI w v xs) (hk:k<xs.length) (hl:xs.length≤1073741824):
  Calls Tryz.prog 133 #[v, .int .i64 k] w fun e w'=> ∃r,e= .returned r∧OwI w' w.heap.size r (rotF xs k)∧Below w.heap.size w w':=by
 have H:=hDD h
 obtain⟨A,cap,rfl,hcap,hm,_⟩:=h.arg
 unfold maxLen at hm
 clear h
 obtain⟨b,off,rfl,hbl,hc⟩:=H.out.at (by omega)
 have hn0:(0:Int)<(xs.length:Int):=by omega
 have hkI:(k:Int)<(xs.length:Int):=by omega
 have hd:((xs.length:Int)==0)=false:=beq_eq_false_iff_ne.2 (by omega)
 have hkm:(k:Int)%(xs.length:Int)=(k:Int):=Int.emod_eq_of_lt (by omega) hkI
 have hkm2:((k:Int)+(xs.length:Int))%(xs.length:Int)=(k:Int):=by rw[Int.add_emod_right];exact hkm
 have hk0:(0:Int)≤(k:Int):=by omega
 have hkc:(k:Int)≤(cap:Int):=by omega
 have hkl:(k:Int)≤(xs.length:Int):=by omega
 have hcp: ¬cap=k:=by omega
 have HT:Hid (RdI w.drew (.slice (some ⟨b,off+k,none⟩) (xs.length-k) (cap-k)) (xs.drop k)):=hDD (by
  have:=H.out.cut (k:=k) rfl (by omega)
  rw[if_neg hcp] at this
  exact RdI.drew (by simpa[Addr.add_lit] using this))
 have HH:=hDD (H.out.head (k:=k) rfl (by omega)).drew
 have BB:=hDD ((Below.refl w.heap.size w).drew)
 have HKM:=hDD hkm2
 clear hc hkm2
 go_enter Tryz.func133,Tryz.ntmps133
 go_wp2_with fail
 skip
 rw[HKM.out]
 go_region_held3 (fun w'=>True) (go_keep)
  (first
  | (go_at_call 63;go_loud (with_reducible refine(copyInts_any (.slice (some ⟨b,off+k,none⟩) (xs.length-k) (cap-k)) _ _ HT.out (by simp;omega)).mono ?_);rintro e w2 ⟨r1,rfl,o1,b1⟩;have OA:=hDD o1;replace HH:=hDD (HH.out.below b1);replace BB:=hDD (BB.out.trans b1);clear o1 b1)
  | (refine step_append_ints rfl (.tmp 21) (.tmp 24) rfl _ _ _ OA.out (by rfl) _ _ HH.out (by rfl) (by simp;omega) (by exact BB.out.size) ?_;intro v1 w1 o1 g1 p1;have O1:=hDD o1;have BB2:=hDD (BB.out.grown g1 BB.out.size (fun j hj=>(OA.out.1.lt j hj).1));clear o1 g1 p1))
 go_wp2
 go_ret
 exact⟨_,rfl,O1.out,BB2.out⟩
set_option maxHeartbeats 1000000 in
theorem specLeastRotation_any (v:Value) (xs:List Int) (w:World) (h:RdI w v xs) (hl:xs.length≤536870912):
  Calls Tryz.prog 77 #[v] w fun e w'=> ∃r,e= .returned (.tuple #[r, .int .i64 (lrF xs).2])∧OwI w' w.heap.size r (lrF xs).1∧Below w.heap.size w w':=by
 have H:=hDD h
 obtain⟨A,cap,rfl,hcap,hm,_⟩:=h.arg
 unfold maxLen at hm
 clear h
 go_enter Tryz.func77,Tryz.ntmps77
 go_wp2_with (at_builtin;refine append_ints rfl (.tmp 8) (.tmp 9) rfl w.heap.size _ [] (OwI_lit w [] I64s_nil (by simp) (Nat.le_refl _)) rfl _ _ (H.out.alloc _) rfl (by simp only[List.length_nil];omega) (by simp) ?_;intro v1 w1 o1 g1 p1;have O1:=hDD o1;have hb1:Hid (Below w.heap.size w w1):=hDD (((Below.refl _ _).alloc (Nat.le_refl _) _).grown g1 (by simp) (fun k hk=>by simp[Value.ownBlock] at hk;omega));clear o1 g1 p1)
 go_loopw [4,5,6] (fun b t i wr=> ∃k:Nat,1≤k∧(k≤xs.length∨k=1)∧i= .int .i64 k∧t= .int .i64 ((lrAt xs k).2:Nat)∧OwI wr w.heap.size b (lrAt xs k).1∧Below w.heap.size w wr)
  (fun _ _ i _=>xs.length-(intOf i).toNat)
 case atStart=>exact⟨1,by omega, .inr rfl,rfl,rfl,by simpa[lrAt] using O1.out,hb1.out⟩
 case round=>
  obtain⟨k,hk1,hk,rfl,rfl,hown,hbel⟩:=hrel
  have hsz:=hbel.size
  by_cases hlt:k<xs.length
  ·have HR:=hDD (H.out.below hbel)
   have HO:=hDD hown
   have HB:=hDD hbel
   have HS:=hDD (lrAt_succ xs k hk1)
   obtain⟨A1,cap1,rfl,hcap1,hm1,_⟩:=hown.form
   have hal:(lrAt xs k).1.length=xs.length:=lrAt_len xs k
   have HAL:=hDD hal
   clear hown hbel hal
   generalize hb:lrAt xs k=bt at HO HS HAL
   clear hb
   go_wp2_with fail
   refine(specRotateWord_any _ xs k _ HR.out hlt (by omega)).mono ?_
   rintro e w2 ⟨r2,rfl,o2,b2⟩
   have O2:=hDD o2
   have B2:=hDD b2
   have HO2:=hDD (HO.out.below b2)
   have hsz2:=b2.size
   obtain⟨A2,cap2,rfl,hcap2,hm2,_⟩:=o2.form
   clear o2 b2
   go_wp2_with fail
   refine(specCompareWords_any _ _ (rotF xs k) bt.1 _ O2.out.arg HO2.out.arg).mono ?_
   rintro e w3 ⟨rfl,n3,rfl⟩
   have BB:=hDD (bel_drewN (HB.out.trans (B2.out.mono hsz)) n3)
   rcases e1:decide (cmpW (rotF xs k) bt.1<0) with _ | _
   ·have HF:Hid (lrAt xs (k+1)=bt):=hDD (by rw[HS.out];unfold lrS;rw[if_neg (by simpa using e1)])
    go_wp2
    go_roundw
    case rel=>exact⟨k+1,by omega,by omega,by go_num,by rw[HF.out],by rw[HF.out];exact HO2.out.drewN _,BB.out⟩
    case measure=>simp[intOf];omega
   ·have HF:Hid (lrAt xs (k+1)=(rotF xs k,k)):=hDD (by rw[HS.out];unfold lrS;rw[if_pos (by simpa using e1)])
    go_wp2
    go_roundw
    case rel=>exact⟨k+1,by omega,by omega,by go_num,by rw[HF.out],by rw[HF.out];exact(O2.out.mono hsz).drewN _,BB.out⟩
    case measure=>simp[intOf];omega
  ·have HF:Hid (lrAt xs k=lrF xs):=hDD (by
    unfold lrF
    rcases hk with hk | rfl
    ·rw[show k=xs.length by omega]
    ·rcases Nat.eq_zero_or_pos xs.length with h0 | h0
     ·rw[h0];rfl
     ·rw[show xs.length=1 by omega])
   go_wp2
   go_ret2
   rw[←HF.out]
   exact⟨_,rfl,hown,hbel⟩
set_option maxHeartbeats 1000000 in
theorem implLeastRotation_any (v:Value) (xs:List Int) (w:World) (h:RdI w v xs) (hl:xs.length≤536870912):
  Calls Tryz.prog 113 #[v] w fun e w'=> ∃r,e= .returned (.tuple #[r, .int .i64 (lrF xs).2])∧OwI w' w.heap.size r (lrF xs).1∧Below w.heap.size w w':=by
 have H:=hDD h
 obtain⟨A,cap,rfl,hcap,hm,_⟩:=h.arg
 unfold maxLen at hm
 clear h
 go_enter Tryz.func113,Tryz.ntmps113
 go_wp2_with (go_at_call 63;refine(copyInts_any _ xs _ H.out (by omega)).mono ?_;rintro e w1 ⟨v1,rfl,o1,b1⟩;have O1:=hDD o1;have hb1:=hDD b1;clear o1 b1)
 go_loopw [4,5,6] (fun b t i wr=> ∃k:Nat,1≤k∧(k≤xs.length∨k=1)∧i= .int .i64 k∧t= .int .i64 ((lrAt xs k).2:Nat)∧OwI wr w.heap.size b (lrAt xs k).1∧Below w.heap.size w wr)
  (fun _ _ i _=>xs.length-(intOf i).toNat)
 case atStart=>exact⟨1,by omega, .inr rfl,rfl,rfl,by simpa[lrAt] using O1.out,hb1.out⟩
 case round=>
  obtain⟨k,hk1,hk,rfl,rfl,hown,hbel⟩:=hrel
  have hsz:=hbel.size
  by_cases hlt:k<xs.length
  ·have HR:=hDD (H.out.below hbel)
   have HO:=hDD hown
   have HB:=hDD hbel
   have HS:=hDD (lrAt_succ xs k hk1)
   obtain⟨A1,cap1,rfl,hcap1,hm1,_⟩:=hown.form
   have hal:(lrAt xs k).1.length=xs.length:=lrAt_len xs k
   have HAL:=hDD hal
   clear hown hbel hal
   generalize hb:lrAt xs k=bt at HO HS HAL
   clear hb
   go_wp2_with fail
   refine(implRotateWord_any _ xs k _ HR.out hlt (by omega)).mono ?_
   rintro e w2 ⟨r2,rfl,o2,b2⟩
   have O2:=hDD o2
   have B2:=hDD b2
   have HO2:=hDD (HO.out.below b2)
   have hsz2:=b2.size
   obtain⟨A2,cap2,rfl,hcap2,hm2,_⟩:=o2.form
   clear o2 b2
   go_wp2_with fail
   refine(implCompareWords_any _ _ (rotF xs k) bt.1 _ O2.out.arg HO2.out.arg).mono ?_
   rintro e w3 ⟨rfl,n3,rfl⟩
   have BB:=hDD (bel_drewN (HB.out.trans (B2.out.mono hsz)) n3)
   rcases e1:decide (cmpW (rotF xs k) bt.1<0) with _ | _
   ·have HF:Hid (lrAt xs (k+1)=bt):=hDD (by rw[HS.out];unfold lrS;rw[if_neg (by simpa using e1)])
    go_wp2
    go_roundw
    case rel=>exact⟨k+1,by omega,by omega,by go_num,by rw[HF.out],by rw[HF.out];exact HO2.out.drewN _,BB.out⟩
    case measure=>simp[intOf];omega
   ·have HF:Hid (lrAt xs (k+1)=(rotF xs k,k)):=hDD (by rw[HS.out];unfold lrS;rw[if_pos (by simpa using e1)])
    go_wp2
    go_roundw
    case rel=>exact⟨k+1,by omega,by omega,by go_num,by rw[HF.out],by rw[HF.out];exact(O2.out.mono hsz).drewN _,BB.out⟩
    case measure=>simp[intOf];omega
  ·have HF:Hid (lrAt xs k=lrF xs):=hDD (by
    unfold lrF
    rcases hk with hk | rfl
    ·rw[show k=xs.length by omega]
    ·rcases Nat.eq_zero_or_pos xs.length with h0 | h0
     ·rw[h0];rfl
     ·rw[show xs.length=1 by omega])
   go_wp2
   go_ret2
   rw[←HF.out]
   exact⟨_,rfl,hown,hbel⟩
end Go.Proofs.YtlgcflpaekbopaaGreat
