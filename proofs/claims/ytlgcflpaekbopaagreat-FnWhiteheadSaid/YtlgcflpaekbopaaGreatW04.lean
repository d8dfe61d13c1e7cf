/- Parts of the proof: Tree, CanG, GrS, RankS, Trim, CoreI, Read, PowI, TwP, Sch, PowP, PowR, Rgg, Rgh, MorE. -/
import Derived.Test.YtlgcflpaekbopaaGreatW01
import Derived.Test.YtlgcflpaekbopaaGreatW03
import Derived.Test.YtlgcflpaekbopaaGreatW02
import Derived.Lib.SliceRun
namespace Go.Proofs.YtlgcflpaekbopaaGreat
set_option maxRecDepth 20000
set_option linter.unusedVariables false
set_option linter.unusedSimpArgs false
open Go.RowKit
set_option maxHeartbeats 400000 in
theorem ins1_any (v:Value) (n:Int) (w:World) (hn:n=0∨n=1):
  Calls Tryz.prog 223 #[v, .int .i64 0, .int .i64 n] w fun e w'=>e= .returned (.tuple #[])∧w=w':=by
 rcases hn with rfl | rfl
 all_goals (
  go_enter Tryz.func223,Tryz.ntmps223
  go_wp2
  refine wp_loop_rounds 1 ?_
  rw[rounds_succ]
  go_wp2
  go_end0
  exact⟨rfl,rfl⟩)
set_option maxHeartbeats 1000000 in
theorem len64_any (n:Int) (w:World) (hn:n=0∨n=1):
  Calls Tryz.prog 144 #[.int .u64 n] w fun e w'=>(∃l:Int,e= .returned (.int .i64 l))∧w=w':=by
 rcases hn with rfl | rfl
 ·go_enter Tryz.func144,Tryz.ntmps144
  go_wp2
  go_ret
  exact⟨⟨_,rfl⟩,rfl⟩
 ·go_enter Tryz.func144,Tryz.ntmps144
  go_wp2
  go_ret
  exact⟨⟨_,rfl⟩,rfl⟩
set_option maxHeartbeats 400000 in
theorem len1_any (n:Int) (w:World) (hn:n=0∨n=1):
  Calls Tryz.prog 120 #[.int .u64 n] w fun e w'=>(∃l:Int,e= .returned (.int .i64 l))∧w=w':=by
 have h:=len64_any n w hn
 have HN:=hDD h
 clear h
 rcases hn with rfl | rfl
 all_goals (
  go_enter Tryz.func120,Tryz.ntmps120
  go_wp2_with fail
  refine HN.out.mono ?_
  rintro e w' ⟨⟨l,rfl⟩,rfl⟩
  go_wp2
  go_ret
  exact⟨⟨_,rfl⟩,rfl⟩)
set_option maxHeartbeats 400000 in
theorem pdq1_any (v:Value) (n:Int) (l:Int) (w:World) (hn:n=0∨n=1):
  Calls Tryz.prog 221 #[v, .int .i64 0, .int .i64 n, .int .i64 l] w fun e w'=>e= .returned (.tuple #[])∧w=w':=by
 have h:=ins1_any v n w hn
 have HN:=hDD h
 clear h
 rcases hn with rfl | rfl
 all_goals (
  go_enter Tryz.func221,Tryz.ntmps221
  go_wp2
  refine wp_loop_rounds 1 ?_
  rw[rounds_succ]
  go_wp2_with fail
  refine HN.out.mono ?_
  rintro e w' ⟨rfl,rfl⟩
  go_wp2
  exact bodyPost_ret (v:= .tuple #[]) (by simp[results,Tryz.results221,go_sem]) rfl ⟨rfl,rfl⟩)
set_option maxHeartbeats 400000 in
theorem sort1_any (v:Value) (xs:List Int) (w:World) (h:RdI w v xs) (hn:xs.length≤1):
  Calls Tryz.prog 216 #[v] w fun e w'=>e= .returned (.tuple #[])∧w=w':=by
 obtain⟨A,cap,rfl,_⟩:=h.arg
 have hn1:(xs.length:Int)=0∨(xs.length:Int)=1:=by omega
 have H1:=hDD (len1_any (xs.length:Int) w hn1)
 have H2:=hDD (fun l=>pdq1_any (.slice A xs.length cap) (xs.length:Int) l w hn1)
 have hw:IntKind.u64.wrap (xs.length:Int)=(xs.length:Int):=by
  rcases hn1 with h | h<;>rw[h]<;>decide+kernel
 clear hn1 h
 go_enter Tryz.func216,Tryz.ntmps216
 go_wp2_with fail
 refine H1.out.mono ?_
 rintro e w' ⟨⟨l,rfl⟩,rfl⟩
 go_wp2_with fail
 refine(H2.out l).mono ?_
 rintro e w' ⟨rfl,rfl⟩
 go_wp2
 go_end0
 exact⟨rfl,rfl⟩
set_option maxHeartbeats 400000 in
theorem compact1_any (A:Option Addr) (n cap:Nat) (w:World) (hn:n≤1):
  Calls Tryz.prog 217 #[.slice A n cap] w fun e w'=>e= .returned (.slice A n cap)∧w=w':=by
 have h1:(n:Int)<2:=by omega
 go_enter Tryz.func217,Tryz.ntmps217
 go_wp2
 go_ret
 exact⟨rfl,rfl⟩
set_option maxHeartbeats 2000000 in
theorem implStepsFrom_any (v:Value) (g:GrD) (u x:Int) (w:World) (h:ArgG w v g) (hone:(stepsL g.2.2 u x).length≤1) (hlet: ∀e∈g.2.2,1≤e.2.1):
  Calls Tryz.prog 203 #[v, .int .i64 u, .int .i64 x] w fun e w'=> ∃r,e= .returned r∧OwI w' w.heap.size r (stepsL g.2.2 u x)∧Below w.heap.size w w':=by
 obtain⟨s,rfl,_,_,ha⟩:=h
 have H:=hDD ha
 obtain⟨A,cap,rfl,hcap,hm,_,hr,_⟩:=ha
 have HR:=hDD hr
 unfold maxLen at hm
 clear hr
 have HLET:=hDD hlet
 clear hlet
 go_enter Tryz.func203,Tryz.ntmps203
 go_wp2
 have hb:Below w.heap.size w ((w.alloc (Obj.cells #[Value.int IntKind.i64 g.1,Value.int IntKind.i64 g.2.1, .slice A g.2.2.length cap] 82)).alloc (Obj.cells #[] 3)):=(by repeat(first | exact Below.refl _ _ | (refine Below.setCell ?_ (by first | omega | (simp<;>omega)) _) | (refine bel_drewN ?_ _) | (refine Below.drew ?_) | (refine Below.alloc ?_ (by first | omega | (simp<;>omega)) _)))
 have k2:((w.alloc (Obj.cells #[Value.int IntKind.i64 g.1,Value.int IntKind.i64 g.2.1, .slice A g.2.2.length cap] 82)).alloc (Obj.cells #[] 3)).cell? ⟨w.heap.size,2,none⟩=some (.slice A g.2.2.length cap):=by simp[go_sem]
 have hs0:w.heap.size+1<((w.alloc (Obj.cells #[Value.int IntKind.i64 g.1,Value.int IntKind.i64 g.2.1, .slice A g.2.2.length cap] 82)).alloc (Obj.cells #[] 3)).heap.size:=by simp
 have o0:OwI ((w.alloc (Obj.cells #[Value.int IntKind.i64 g.1,Value.int IntKind.i64 g.2.1, .slice A g.2.2.length cap] 82)).alloc (Obj.cells #[] 3)) (w.heap.size+1) (.slice (some ⟨w.heap.size+1,0,none⟩) 0 0) []:=OwI_litN (w.alloc (Obj.cells #[Value.int IntKind.i64 g.1,Value.int IntKind.i64 g.2.1, .slice A g.2.2.length cap] 82)) [] (w.heap.size+1) (by simp) I64s_nil (by simp) (Nat.le_refl _)
 generalize (w.alloc (Obj.cells #[Value.int IntKind.i64 g.1,Value.int IntKind.i64 g.2.1, .slice A g.2.2.length cap] 82)).alloc (Obj.cells #[] 3)=w1 at hb k2 hs0 o0⊢
 have HB:=hDD hb
 have K2:=hDD k2
 have O0:=hDD o0
 clear hb k2 o0
 go_loopw [7,14] (fun out i wr=> ∃k:Nat,k≤g.2.2.length∧i= .int .i64 k∧OwI wr (w.heap.size+1) out (stepsL (g.2.2.take k) u x)∧Below (w.heap.size+1) w1 wr) (fun _ i _=>g.2.2.length-(intOf i).toNat)
 case atStart=>exact⟨0,Nat.zero_le _,rfl,O0.out,Below.refl _ _⟩
 case round=>
  obtain⟨k,hk,rfl,hown,hbel⟩:=hrel
  have hsz:=hbel.size
  have HB3:=hDD (HB.out.trans (hbel.mono (by omega)))
  have p2:=(hbel.cell (p:=⟨w.heap.size,2,none⟩) (show w.heap.size<w.heap.size+1 by omega)).trans K2.out
  have HO:=hDD hown
  have HB2:=hDD hbel
  obtain⟨A1,cap1,rfl,hcap1,hm1,_,_⟩:=hown.form
  clear hbel
  by_cases hlt:k<g.2.2.length
  ·obtain⟨b,off,rfl,hbl,c0,c1,c2,_⟩:=(H.out.below HB3.out).at hlt
   have HS:=hDD (stepsL_succ g.2.2 u x k hlt)
   have HX:=hDD (HR.out g.2.2[k] (by simp))
   have HLE:=hDD (HLET.out g.2.2[k] (by simp))
   have hl1:=stepsL_take g.2.2 u x (k+1)
   have hl0:(stepsL (g.2.2.take k) u x).length≤1:=by have:=stepsL_take g.2.2 u x k;omega
   have HL1:Hid ((stepsL (g.2.2.take (k+1)) u x).length≤1):=hDD (by omega)
   clear hl1 hown
   generalize g.2.2[k]=e at*
   obtain⟨f,l,t⟩:=e
   simp only at c0 c1 c2
   have keep:mt u x (f,l,t)=none→stepsL (g.2.2.take (k+1)) u x=stepsL (g.2.2.take k) u x:=fun e=>by rw[HS.out,e];simp
   have KE:=hDD keep
   have put: ∀y,mt u x (f,l,t)=some y→stepsL (g.2.2.take k) u x= []∧stepsL (g.2.2.take (k+1)) u x= [y]:=fun y e=>by
    have h1:=HS.out
    have h2:=HL1.out
    rw[e] at h1
    rw[h1] at h2
    simp at h2
    refine⟨h2,by rw[h1,h2];rfl⟩
   have PU:=hDD put
   clear keep put
   by_cases hp:0<x
   ·have hn: ¬x<0:=by omega
    rcases e1:(l==x) with _ | _
    ·have F:=hDD (KE.out (by simp at e1;simp[mt,hp,e1]))
     go_wp2
     go_roundw
     case rel=>exact⟨k+1,by omega,by go_num,by rw[F.out];exact HO.out.alloc _,HB2.out.alloc (by omega) _⟩
     case measure=>simp[intOf];omega
    ·rcases e2:(f==u) with _ | _
     ·have F:=hDD (KE.out (by simp at e2;simp[mt,hp,e2]))
      go_wp2
      go_roundw
      case rel=>exact⟨k+1,by omega,by go_num,by rw[F.out];exact HO.out.alloc _,HB2.out.alloc (by omega) _⟩
      case measure=>simp[intOf];omega
     ·have F:=hDD (PU.out t (by simp at e1 e2;simp[mt,hp,e1,e2]))
      go_wp2_with (at_builtin;refine push_int rfl (.tmp 33) (.tmp 36) rfl _ _ _ (OwI.alloc (OwI.alloc HO.out _) _) rfl (wr.heap.size+1) t rfl (by simp[go_sem]) HX.out.2.2 (by omega) (by simp;omega) ?_;intro v9 wv9 o9 g9 p9)
      go_roundw
      case rel=>exact⟨k+1,by omega,by go_num,by have:=o9;rw[F.out.1] at this;rw[F.out.2];exact this,bel_push (B:=w.heap.size+1) (HB2.out.alloc (by omega) _) (by simp;omega) (OwI.alloc HO.out _).1 (Nat.le_refl _) g9⟩
      case measure=>simp[intOf];omega
   ·by_cases hn:x<0
    ·rcases e0:(x != -9223372036854775808) with _ | _
     ·have hx0:x= -9223372036854775808:=by simpa using e0
      have F:=hDD (KE.out (by
       have h1:wrap64 (-x)= -9223372036854775808:=by rw[hx0];decide+kernel
       have h2:=HLE.out
       unfold mt
       rw[if_neg hp,if_pos hn,h1,if_neg (fun h=>by have:=h.1;simp only at this;omega)]))
      go_wp2
      go_roundw
      case rel=>exact⟨k+1,by omega,by go_num,by rw[F.out];exact HO.out.alloc _,HB2.out.alloc (by omega) _⟩
      case measure=>simp[intOf];omega
     rcases e1:(l==wrap64 (-x)) with _ | _
     ·have F:=hDD (KE.out (by simp at e1;simp[mt,hp,hn,e1]))
      go_wp2
      go_roundw
      case rel=>exact⟨k+1,by omega,by go_num,by rw[F.out];exact HO.out.alloc _,HB2.out.alloc (by omega) _⟩
      case measure=>simp[intOf];omega
     ·rcases e2:(t==u) with _ | _
      ·have F:=hDD (KE.out (by simp at e2;simp[mt,hp,hn,e2]))
       go_wp2
       go_roundw
       case rel=>exact⟨k+1,by omega,by go_num,by rw[F.out];exact HO.out.alloc _,HB2.out.alloc (by omega) _⟩
       case measure=>simp[intOf];omega
      ·have F:=hDD (PU.out f (by simp at e1 e2;simp[mt,hp,hn,e1,e2]))
       go_wp2_with (at_builtin;refine push_int rfl (.tmp 58) (.tmp 61) rfl _ _ _ (OwI.alloc (OwI.alloc HO.out _) _) rfl (wr.heap.size+1) f rfl (by simp[go_sem]) HX.out.1 (by omega) (by simp;omega) ?_;intro v9 wv9 o9 g9 p9)
       go_roundw
       case rel=>exact⟨k+1,by omega,by go_num,by have:=o9;rw[F.out.1] at this;rw[F.out.2];exact this,bel_push (B:=w.heap.size+1) (HB2.out.alloc (by omega) _) (by simp;omega) (OwI.alloc HO.out _).1 (Nat.le_refl _) g9⟩
       case measure=>simp[intOf];omega
    ·have F:=hDD (KE.out (by simp[mt,hp,hn]))
     go_wp2
     go_roundw
     case rel=>exact⟨k+1,by omega,by go_num,by rw[F.out];exact HO.out.alloc _,HB2.out.alloc (by omega) _⟩
     case measure=>simp[intOf];omega
  ·obtain rfl:k=g.2.2.length:=by omega
   clear hown
   rw[List.take_length]
   rw[List.take_length] at HO hcap1
   have hn1:(stepsL g.2.2 u x).length≤1:=hone
   go_wp2_with fail
   refine(sort1_any _ _ _ HO.out.rd hn1).mono ?_
   rintro e wz ⟨rfl,rfl⟩
   go_wp2_with fail
   refine(compact1_any _ _ _ _ hn1).mono ?_
   rintro e wz ⟨rfl,rfl⟩
   go_wp2
   go_ret
   exact⟨_,rfl,HO.out.mono (base':=w.heap.size) (by omega),HB3.out⟩
set_option maxHeartbeats 1000000 in
theorem implNextVertex_any (v:Value) (g:GrD) (u x:Int) (w:World) (h:ArgG w v g) (hone:(stepsL g.2.2 u x).length≤1) (hlet: ∀e∈g.2.2,1≤e.2.1):
  Calls Tryz.prog 193 #[v, .int .i64 u, .int .i64 x] w fun e w'=>e= .returned (.int .i64 (nextV g.2.2 u x))∧Below w.heap.size w w':=by
 have H:=hDD h
 obtain⟨s,rfl,_,_,ha⟩:=h
 obtain⟨A,cap,rfl⟩:=ha.form
 obtain⟨R,hR⟩: ∃R,R=nextV g.2.2 u x:=⟨_,rfl⟩
 rw[←hR]
 unfold nextV at hR
 have HR:=hDD hR
 clear hR
 go_enter Tryz.func193,Tryz.ntmps193
 go_wp2_with fail
 have hb:Below w.heap.size w (w.alloc (Obj.cells #[Value.int IntKind.i64 g.1,Value.int IntKind.i64 g.2.1, .slice A g.2.2.length cap] 82)):=(by repeat(first | exact Below.refl _ _ | (refine Below.setCell ?_ (by first | omega | (simp<;>omega)) _) | (refine bel_drewN ?_ _) | (refine Below.drew ?_) | (refine Below.alloc ?_ (by first | omega | (simp<;>omega)) _)))
 refine(implStepsFrom_any _ g u x _ (H.out.below hb) hone hlet).mono ?_
 rintro e w1 ⟨r,rfl,o1,b1⟩
 have B1:=hDD (hb.trans (b1.mono hb.size))
 generalize stepsL g.2.2 u x=L at o1 HR
 clear hb b1 ha
 obtain⟨A1,cap1,rfl,hc1,hm1,_,_⟩:=o1.form
 match L,o1,HR with
 | [],o1,HR=>
   have F:Hid (R= -1):=HR
   clear o1
   go_wp2
   go_ret
   exact⟨ret_int F.out.symm,B1.out⟩
 | y::L,o1,HR=>
   obtain rfl:R=y:=HR.out
   clear HR
   obtain⟨b,off,rfl,hbl,hc⟩:=o1.rd.at (by simp)
   have c0:=hc 0 (by simp)
   simp only[List.getElem_cons_zero,Nat.add_zero] at c0
   clear o1 hc
   go_wp2
   go_ret
   exact⟨rfl,B1.out⟩
structure TreeW (bb P N:Nat) (w:World) (ord:Value) (o:List Int):Prop where
 ex: ∃vs:List Value,vs.length=N∧w.ownsRow bb 24 1 (.slice (some ⟨P,0,none⟩) N N) N vs∧ ∀(j:Nat) (hj:j<vs.length),
  ((j:Int)∉o∧vs[j]= .slice none 0 0)∨((j:Int)∈o∧ ∃(b cap:Nat) (ws:List Int),vs[j]= .slice (some ⟨b,0,none⟩) ws.length cap∧ws.length≤o.length∧RdI w vs[j] ws∧b≠P∧ord.ownBlock≠some b∧b<w.heap.size)
 ne:ord.ownBlock≠some P
section
variable {bb P N:Nat} {w w':World} {ord:Value} {o:List Int}
theorem TreeW.lt (h:TreeW bb P N w ord o):bb≤P∧P<w.heap.size:=by
 obtain⟨vs,_,h2,_⟩:=h.ex
 exact h2.lt P rfl
theorem TreeW.at_new (h:TreeW bb P N w ord o) {y:Nat} (hy:y<N) (hn:(y:Int)∉o):w.cell? ⟨P,y,none⟩=some (.slice none 0 0):=by
 obtain⟨vs,h1,h2,h3⟩:=h.ex
 rw[World.ownsRow.cellAt h2 y (by omega)]
 rcases h3 y (by omega) with ⟨_,h4⟩ | ⟨h4,_⟩
 ·rw[List.getElem?_eq_getElem (by omega),h4]
 ·exact absurd h4 hn
theorem TreeW.at_old (h:TreeW bb P N w ord o) {y:Nat} (hy:y<N) (hn:(y:Int)∈o):
  ∃(b cap:Nat) (ws:List Int),w.cell? ⟨P,y,none⟩=some (.slice (some ⟨b,0,none⟩) ws.length cap)∧ws.length≤o.length∧RdI w (.slice (some ⟨b,0,none⟩) ws.length cap) ws:=by
 obtain⟨vs,h1,h2,h3⟩:=h.ex
 rw[World.ownsRow.cellAt h2 y (by omega)]
 rcases h3 y (by omega) with ⟨h4,_⟩ | ⟨_,b,cap,ws,e1,e2,e3,_⟩
 ·exact absurd hn h4
 ·rw[e1] at e3
  exact⟨b,cap,ws,by rw[List.getElem?_eq_getElem (by omega),e1],e2,e3⟩
theorem TreeW.free (h:TreeW bb P N w ord o) (j:Nat):w.frozen? ⟨P,j,none⟩=false:=by
 obtain⟨vs,h1,h2,h3⟩:=h.ex
 exact World.ownsRow.frozenAt h2 j
theorem TreeW.below (h:TreeW bb P N w ord o) (hb:Below w.heap.size w w'):TreeW bb P N w' ord o:=by
 obtain⟨vs,h1,h2,h3⟩:=h.ex
 refine⟨⟨vs,h1,ownsRow_below h2 hb,fun j hj=> ?_⟩,h.ne⟩
 rcases h3 j hj with h4 | ⟨h4,b,cap,ws,e1,e2,e3,e4,e5,e6⟩
 ·exact .inl h4
 ·exact .inr ⟨h4,b,cap,ws,e1,e2,e3.below hb,e4,e5,by have:=hb.size;omega⟩
theorem TreeW.set (h:TreeW bb P N w ord o) {y:Nat} (hy:y<N) {b cap:Nat} {ws:List Int} (hr:RdI w (.slice (some ⟨b,0,none⟩) ws.length cap) ws) (hl:ws.length≤o.length+1) (hb:b≠P) (ho:ord.ownBlock≠some b) (hlt:b<w.heap.size):
  TreeW bb P N (w.setCell ⟨P,y,none⟩ (.slice (some ⟨b,0,none⟩) ws.length cap)) ord (o++ [(y:Int)]):=by
 obtain⟨vs,h1,h2,h3⟩:=h.ex
 obtain⟨s1,s2⟩:=World.ownsRow.stored h2 y (.slice (some ⟨b,0,none⟩) ws.length cap)
 have hsz:(w.setCell ⟨P,y,none⟩ (.slice (some ⟨b,0,none⟩) ws.length cap)).heap.size=w.heap.size:=by simp
 have hg:w.grownBy (w.setCell ⟨P,y,none⟩ (.slice (some ⟨b,0,none⟩) ws.length cap)) (some P):=set_grown _ _ _ _
 refine⟨⟨_,by simpa using h1,s1,fun j hj=> ?_⟩,h.ne⟩
 have hj':j<vs.length:=by simpa using hj
 by_cases hjy:j=y
 ·subst hjy
  refine .inr ⟨by simp,b,cap,ws,by simp,by simp;omega,?_,hb,ho,by omega⟩
  rw[List.getElem_set_self]
  exact hr.grown hg fun x hx hx'=>by simp[Value.ownBlock] at hx hx';omega
 ·rw[List.getElem_set_ne (Ne.symm hjy)]
  rcases h3 j hj' with ⟨h4,h5⟩ | ⟨h4,b',cap',ws',e1,e2,e3,e4,e5,e6⟩
  ·refine .inl ⟨?_,h5⟩
   rw[List.mem_append,List.mem_singleton]
   rintro(h6 | h6)
   ·exact h4 h6
   ·omega
  ·refine .inr ⟨List.mem_append_left _ h4,b',cap',ws',e1,by simp;omega,e3.grown hg fun x hx hx'=> ?_,e4,e5,by omega⟩
   rw[e1] at hx
   simp[Value.ownBlock] at hx hx'
   omega
theorem TreeW.lit (h:TreeW bb P N w (.slice none 0 0) o) (ob:Obj) (n c:Nat):TreeW bb P N (w.alloc ob) (.slice (some ⟨w.heap.size,0,none⟩) n c) o:=by
 have hlt:=h.lt
 obtain⟨vs,h1,h2,h3⟩:=h.ex
 refine⟨⟨vs,h1,ownsRow_below h2 ((Below.refl w.heap.size w).alloc (Nat.le_refl _) ob),fun j hj=> ?_⟩,by simp[Value.ownBlock];omega⟩
 rcases h3 j hj with h4 | ⟨h4,b,cap,ws,e1,e2,e3,e4,e5,e6⟩
 ·exact .inl h4
 ·exact .inr ⟨h4,b,cap,ws,e1,e2,e3.alloc _,e4,by simp[Value.ownBlock];omega,by simp;omega⟩
theorem TreeW.push (h:TreeW bb P N w ord o) {w9:World} {v9:Value} {ob:Obj} (hg:(w.alloc ob).grownBy w9 ord.ownBlock) (hp:v9.ownBlock=ord.ownBlock∨v9.ownBlock=some (w.alloc ob).heap.size):TreeW bb P N w9 v9 o:=by
 have hlt:=h.lt
 have h':=h.below ((Below.refl w.heap.size w).alloc (Nat.le_refl _) ob)
 obtain⟨vs,h1,h2,h3⟩:=h'.ex
 have hs:(w.alloc ob).heap.size=w.heap.size+1:=by simp
 have hs9:=hg.size
 refine⟨⟨vs,h1,h2.kept hg (.inr fun e=>h.ne e.symm),fun j hj=> ?_⟩,?_⟩
 ·rcases h3 j hj with h4 | ⟨h4,b,cap,ws,e1,e2,e3,e4,e5,e6⟩
  ·exact .inl h4
  ·refine .inr ⟨h4,b,cap,ws,e1,e2,e3.grown hg fun x hx hx'=> ?_,e4,?_,by omega⟩
   ·rw[e1] at hx
    simp only[Value.ownBlock,Option.some.injEq] at hx
    subst hx
    exact e5 hx'
   ·rcases hp with hp | hp
    ·rw[hp];exact e5
    ·rw[hp]
     intro e
     injection e with e
     omega
 ·rcases hp with hp | hp
  ·rw[hp];exact h.ne
  ·rw[hp]
   intro e
   injection e with e
   omega
end
theorem ints_info':(Tryz.prog.info? 24).map (fun i=>(i.zero,i.size,i.bytes))=some (some (.slice none 0 0),1,24):=by kernel_rfl
set_option maxHeartbeats 1000000 in
theorem tree_any (v:Value) (g:GrD) (w:World) (h:ArgG w v g) (hf:foldB g=true):
  Calls Tryz.prog 177 #[v, .int .i64 0] w fun e w'=> ∃r s,e= .returned (.tuple #[r,s])∧OwI w' w.heap.size r (canO g)∧Below w.heap.size w w':=by
 have HG:=hDD h
 obtain⟨hg,hfol⟩:=foldB_parts hf
 have ONE:=hDD (steps_one hfol)
 have LET:=hDD (let_of_gr hg)
 obtain⟨hr13,hsz40,hl120,_⟩:=grB_parts hg
 obtain⟨A,cap,hv⟩: ∃A cap,v= .agg #[.int .i64 g.1, .int .i64 g.2.1, .slice A g.2.2.length cap]:=by
  obtain⟨s,hv,_,_,ha⟩:=h
  obtain⟨A,cap,rfl⟩:=ha.form
  exact⟨A,cap,hv⟩
 subst hv
 obtain⟨N,hN⟩: ∃N:Nat,g.2.1=(N:Int):=⟨g.2.1.toNat,by omega⟩
 obtain⟨rn,hrn⟩: ∃rn:Nat,g.1=(rn:Int):=⟨g.1.toNat,by omega⟩
 have hrn1:1≤rn:=by omega
 have hrn3:rn≤3:=by omega
 have hN1:1≤N:=by omega
 have hN2:N≤40:=by omega
 have HCO:Hid (canO g=canF g.2.2 (lettersL rn) 41 0 [0]):=hDD (by unfold canO;rw[hrn];rfl)
 have OK0:=hDD (OrdOk.one (n:=g.2.1) (by omega))
 have OKS:Hid (∀(u:Int) (o:List Int) (k:Nat),OrdOk g.2.1 o→OrdOk g.2.1 (((lettersL rn).take k).foldl (cstep g.2.2 u) o)):=hDD fun u o k h=>cfold_take_ok hg _ k h
 have OKL:Hid (∀o:List Int,OrdOk g.2.1 o→o.length≤40):=hDD fun o h=>h.len (by omega) (by omega)
 have OKR:Hid (∀o:List Int,OrdOk g.2.1 o→ ∀y∈o,0≤y∧y<N):=hDD fun o h y hy=>by have:=h.2.1 y hy;omega
 have NV:Hid (∀u x,nextV g.2.2 u x= -1∨(0≤nextV g.2.2 u x∧nextV g.2.2 u x<N)):=hDD fun u x=>by
  rcases nextV_range hg u x with e | e
  ·exact .inl e
  ·exact .inr ⟨e.1,by omega⟩
 have hll:=lettersL_len rn
 have HLE:Hid (∀W:World,Calls Tryz.prog 81 #[.int .i64 g.1] W fun e w'=> ∃r,e= .returned r∧OwI w' W.heap.size r (lettersL rn)∧Below W.heap.size W w'):=hDD fun W=>by
  rw[hrn]
  exact letters_any rn W (by omega)
 generalize lettersL rn=ls at*
 rw[hN] at HG
 clear hg hf hfol h hrn
 have hr1:1≤g.1∧g.1≤3:=hr13
 clear hsz40 hl120 hr13
 rw[hN]
 have bx:Below w.heap.size w (w.alloc (Obj.cells #[Value.int IntKind.i64 g.1,Value.int IntKind.i64 N, .slice A g.2.2.length cap] 82)):=(by repeat(first | exact Below.refl _ _ | (refine Below.setCell ?_ (by first | omega | (simp<;>omega)) _) | (refine bel_drewN ?_ _) | (refine Below.drew ?_) | (refine Below.alloc ?_ (by first | omega | (simp<;>omega)) _)))
 have k0:(w.alloc (Obj.cells #[Value.int IntKind.i64 g.1,Value.int IntKind.i64 N, .slice A g.2.2.length cap] 82)).cell? ⟨w.heap.size,0,none⟩=some (.int .i64 g.1):=by simp[go_sem]
 have k1:(w.alloc (Obj.cells #[Value.int IntKind.i64 g.1,Value.int IntKind.i64 N, .slice A g.2.2.length cap] 82)).cell? ⟨w.heap.size,1,none⟩=some (.int .i64 N):=by simp[go_sem]
 have k2:(w.alloc (Obj.cells #[Value.int IntKind.i64 g.1,Value.int IntKind.i64 N, .slice A g.2.2.length cap] 82)).cell? ⟨w.heap.size,2,none⟩=some (.slice A g.2.2.length cap):=by simp[go_sem]
 have sx:w.heap.size<(w.alloc (Obj.cells #[Value.int IntKind.i64 g.1,Value.int IntKind.i64 N, .slice A g.2.2.length cap] 82)).heap.size:=by simp
 have ex:(w.alloc (Obj.cells #[Value.int IntKind.i64 g.1,Value.int IntKind.i64 N, .slice A g.2.2.length cap] 82)).heap.size=w.heap.size+1:=by simp
 have qT: ∀(w:World) (a:Option Addr) (n c n' c':Nat),(binOp .eql 24 (.slice a n c) (.slice none n' c')).run Tryz.prog w= .ok (.bool a.isNone) w:=fun w a n c n' c'=>Lib.run_eql_slice_nil w _ _ a n c n' c' Tryz.underlying24
 go_enter Tryz.func177,Tryz.ntmps177
 obtain⟨i0,hi0,hz0,hz1,hz2⟩:=info_parts ints_info'
 go_wp2_with (at_make;refine wpList_make_full _ rfl _ _ 29 rfl (w.heap.size+1) 24 i0 (.slice none 0 0) 1 Tryz.underlying29 hi0 hz0 hz1 _ _ _ _ N rfl rfl rfl rfl (by rw[hz2];omega) (by unfold maxLen;omega) (by simp) ?_)
 generalize w.alloc (Obj.cells #[Value.int IntKind.i64 g.1,Value.int IntKind.i64 N, .slice A g.2.2.length cap] 82)=w1 at bx k0 k1 k2 sx ex⊢
 rw[←ex]
 have BX:=hDD bx
 have K0:=hDD k0
 have K1:=hDD k1
 have K2:=hDD k2
 have EX:=hDD ex
 clear k0 k1 k2 bx ex
 intro w2 hown0 hgrow0
 have hP2:w1.heap.size<w2.heap.size:=(hown0.lt w1.heap.size rfl).2
 have B12:Below w1.heap.size w1 w2:=(Below.refl w1.heap.size w1).grown hgrow0 (Nat.le_refl _) (fun k h=>by cases h)
 have TW0:TreeW w1.heap.size w1.heap.size N w2 (.slice none 0 0) []:=⟨⟨List.replicate N (.slice none 0 0),by simp,by simpa[toList_madeCells_one] using hown0,fun j hj=> .inl ⟨by simp,by simp⟩⟩,by simp[Value.ownBlock]⟩
 have TW1:TreeW w1.heap.size w1.heap.size N (w2.alloc (.cells #[] 3)) (.slice none 0 0) []:=TW0.below ((Below.refl _ _).alloc (Nat.le_refl _) _)
 have oE:OwI (w2.alloc (.cells #[] 3)) w2.heap.size (.slice (some ⟨w2.heap.size,0,none⟩) 0 0) []:=OwI_lit w2 [] (fun _ h=>by cases h) (by simp) (Nat.le_refl _)
 have TW2:=TW1.set (y:=0) (by omega) (b:=w2.heap.size) (cap:=0) (ws:= []) oE.rd (by simp) (by omega) (by simp[Value.ownBlock]) (by simp)
 have hc0:=TW1.at_new (y:=0) (by omega) (by simp)
 have hf0:=TW1.free 0
 have j1:(0:Int)<(N:Int):=by omega
 have TWH:=hDD TW2
 have B13:Hid (Below w1.heap.size w1 ((w2.alloc (.cells #[] 3)).setCell ⟨w1.heap.size,0,none⟩ (.slice (some ⟨w2.heap.size,0,none⟩) 0 0))):=hDD ((B12.alloc (by omega) _).setCell (by show w1.heap.size≤w1.heap.size;omega) _)
 clear TW0 TW1 TW2 oE hown0 hgrow0 B12
 go_wp2
 have oO:OwI (((w2.alloc (.cells #[] 3)).setCell ⟨w1.heap.size,0,none⟩ (.slice (some ⟨w2.heap.size,0,none⟩) 0 0)).alloc (.cells #[Value.int IntKind.i64 0] 3)) (w1.heap.size+1) (.slice (some ⟨w2.heap.size+1,0,none⟩) 1 1) [0]:=OwI_litN _ [0] (w2.heap.size+1) (by simp) (fun x hx=>by simp at hx;subst hx;exact⟨by decide,by decide⟩) (by simp) (by omega)
 have TWL:=TWH.out.lit (.cells #[Value.int IntKind.i64 0] 3) 1 1
 have B14:Below w1.heap.size w1 (((w2.alloc (.cells #[] 3)).setCell ⟨w1.heap.size,0,none⟩ (.slice (some ⟨w2.heap.size,0,none⟩) 0 0)).alloc (.cells #[Value.int IntKind.i64 0] 3)):=B13.out.alloc (by simp;omega) _
 have e3:((w2.alloc (.cells #[] 3)).setCell ⟨w1.heap.size,0,none⟩ (.slice (some ⟨w2.heap.size,0,none⟩) 0 0)).heap.size=w2.heap.size+1:=by simp
 simp only[List.length_nil,List.nil_append] at TWL
 rw[e3] at TWL
 have hsw:(w2.alloc (.cells #[] 3)).setCell ⟨w1.heap.size,0,none⟩ (.slice (some ⟨w2.heap.size,0,none⟩) 0 0)=(w2.setCell ⟨w1.heap.size,0,none⟩ (.slice (some ⟨w2.heap.size,0,none⟩) 0 0)).alloc (.cells #[] 3):=World.setCell_alloc_past _ _ _ _ hP2
 rw[hsw] at oO TWL B14
 generalize ((w2.setCell ⟨w1.heap.size,0,none⟩ (.slice (some ⟨w2.heap.size,0,none⟩) 0 0)).alloc (.cells #[] 3)).alloc (.cells #[Value.int IntKind.i64 0] 3)=w3 at oO TWL B14⊢
 have OO:=hDD oO
 have TW:=hDD TWL
 have HB0:=hDD B14
 clear oO TWL B14 e3 hc0 hf0 TWH B13
 go_loopw [7,8] (fun out i wo=> ∃(k:Nat) (o:List Int),k≤o.length∧i= .int .i64 k∧OrdOk g.2.1 o∧canO g=canF g.2.2 ls (41-k) k o∧OwI wo (w1.heap.size+1) out o∧TreeW w1.heap.size w1.heap.size N wo out o∧Below w1.heap.size w1 wo) (fun _ i _=>41-(intOf i).toNat)
 case atStart=>exact⟨0,[0],by simp,rfl,OK0.out,HCO.out,OO.out,TW.out,HB0.out⟩
 case round=>
  obtain⟨k,o,hk,rfl,hok,hco,hown,htw,hbel⟩:=hrel
  obtain⟨wo,rfl⟩: ∃wo:World,wo=wr:=⟨_,rfl⟩
  have hol:=OKL.out o hok
  have HOK:=hDD hok
  have HC:=hDD hco
  have HO:=hDD hown
  have HTW:=hDD htw
  have HB2:=hDD hbel
  have hsz:=hbel.size
  have q0:=(hbel.cell (p:=⟨w.heap.size,0,none⟩) sx).trans K0.out
  obtain⟨A1,cap1,rfl,_,_,_,hf2⟩:=hown.form
  clear hok hco htw hbel
  by_cases hlt:k<o.length
  ·obtain⟨u,hu⟩: ∃u,o[k]? =some u:=⟨o[k],by simp⟩
   have hku:o[k]=u:=by rw[List.getElem?_eq_getElem hlt] at hu;injection hu
   have HCF:Hid (canO g=canF g.2.2 ls (41-(k+1)) (k+1) (ls.foldl (cstep g.2.2 u) o)):=hDD (by
    rw[HC.out,show 41-k=(41-(k+1))+1 by omega,canF_step _ _ _ _ _ hlt,hku])
   have HPU:Hid (∀m:Nat,(((ls.take m).foldl (cstep g.2.2 u) o))[k]? =some u):=hDD fun m=>cfold_prefix _ _ _ _ _ _ hu
   have HSU:Hid (∀(m:Nat) (hm:m<ls.length),(ls.take (m+1)).foldl (cstep g.2.2 u) o=cstep g.2.2 u ((ls.take m).foldl (cstep g.2.2 u) o) ls[m]):=hDD fun m hm=>cfold_succ _ _ _ _ _ hm
   have HOKm:Hid (∀m:Nat,OrdOk g.2.1 ((ls.take m).foldl (cstep g.2.2 u) o)):=hDD fun m=>OKS.out u o m HOK.out
   obtain⟨un,hun,hunN⟩: ∃un:Nat,u=(un:Int)∧un<N:=by
    have h1:=HOK.out.2.1 u (by rw[←hku];simp)
    exact⟨u.toNat,by omega,by omega⟩
   obtain⟨b1,rfl,_,hb1⟩:=hf2 (by omega)
   have ck:=hown.cellAt k hlt
   rw[hku] at ck
   have HUN:=hDD hun
   clear hf2 hu hku hown hun
   go_wp2_with fail
   refine(HLE.out wo).mono ?_
   rintro e wl ⟨rl,rfl,ol,bl⟩
   have sl:=bl.size
   obtain⟨Al,capl,rfl,hcl,hml,_,hfl⟩:=ol.form
   obtain⟨gl,rfl,hgl1,hgl2⟩:=hfl (by omega)
   unfold maxLen at hml
   have OL:=hDD ol.rd
   have BL:=hDD bl
   have HO3:=hDD (HO.out.below bl)
   have HT3:=hDD (HTW.out.below bl)
   have hne1:b1≠gl:=by omega
   clear hfl ol bl
   go_wp2
   go_loopw [7,36] (fun out j wr=> ∃m:Nat,m≤ls.length∧j= .int .i64 m∧OwI wr (w1.heap.size+1) out ((ls.take m).foldl (cstep g.2.2 u) o)∧TreeW w1.heap.size w1.heap.size N wr out ((ls.take m).foldl (cstep g.2.2 u) o)∧RdI wr (.slice (some ⟨gl,0,none⟩) ls.length capl) ls∧out.ownBlock≠some gl∧gl≠w1.heap.size∧gl<wr.heap.size∧Below w1.heap.size wl wr) (fun _ j _=>ls.length-(intOf j).toNat)
   case atStart=>exact⟨0,Nat.zero_le _,rfl,HO3.out,HT3.out,OL.out,by simp[Value.ownBlock];omega,by have:=HTW.out.lt;omega,hgl2,Below.refl _ _⟩
   case round=>
    obtain⟨m,hm1,rfl,hown,htw,hrd,hne,hnP,hblr,hbi⟩:=hrel
    have hsi:=hbi.size
    have HBI:=hDD hbi
    have HB4:Hid (Below w1.heap.size w1 wr):=hDD ((HB2.out.trans (BL.out.mono (by omega))).trans hbi)
    have p0:=(HB4.out.cell (p:=⟨w.heap.size,0,none⟩) sx).trans K0.out
    have p1:=(HB4.out.cell (p:=⟨w.heap.size,1,none⟩) sx).trans K1.out
    have p2:=(HB4.out.cell (p:=⟨w.heap.size,2,none⟩) sx).trans K2.out
    have HRR:=hDD hrd
    have HNR:=hDD hne
    have HTW2:=hDD htw
    clear hbi htw
    by_cases hlt2:m<ls.length
    ·have hokm:=HOKm.out m
     have hlm:=OKL.out _ hokm
     have hpu:=HPU.out m
     have HS:=hDD (HSU.out m hlt2)
     have HORm:=hDD (OKR.out _ hokm)
     obtain⟨_,_,hAl,_,hcl⟩:=hrd.at (by omega)
     obtain⟨rfl,rfl⟩:gl=_∧0=_:=by simpa using hAl
     have c0:=hcl m hlt2
     rw[Nat.zero_add] at c0
     have hx64:I64 ls[m]:=hrd.2 _ (by simp)
     generalize ls[m]=x at c0 HS hx64
     have HX:=hDD hx64
     generalize (ls.take m).foldl (cstep g.2.2 u) o=om at*
     have hum:u∈om:=List.mem_of_getElem? hpu
     have HUM:=hDD hum
     have HOM:=hDD hown
     have NX:=hDD (NV.out u x)
     have N0:=hDD (cstep_no (es:=g.2.2) (u:=u) (x:=x) (o:=om))
     have N1:=hDD (cstep_in (es:=g.2.2) (u:=u) (x:=x) (o:=om))
     have N2:=hDD (cstep_new (es:=g.2.2) (u:=u) (x:=x) (o:=om))
     have HNX:=hDD (implNextVertex_any _ g u x wr (HG.out.below (BX.out.trans (HB4.out.mono (by omega)))) (ONE.out u x) LET.out)
     clear hcl hAl hown hrd hpu hokm hx64 hum
     go_wp2_with fail
     refine HNX.out.mono ?_
     rintro e wq ⟨rfl,bq⟩
     clear HNX
     have sq:=bq.size
     have HQ:Hid (Below w1.heap.size wl wq):=hDD (HBI.out.trans (bq.mono (by omega)))
     have HOQ:=hDD (HOM.out.below bq)
     have HRQ:=hDD (HRR.out.below bq)
     have HTQ:=hDD (HTW2.out.below bq)
     clear bq p0 p1 p2
     generalize nextV g.2.2 u x=y at*
     rcases NX.out with hy | hy
     ·subst hy
      have F:=hDD (N0.out (by omega))
      go_wp2
      go_roundw
      case rel=>exact⟨m+1,by omega,by go_num,by rw[HS.out,F.out];exact HOQ.out,by rw[HS.out,F.out];exact HTQ.out,HRQ.out,HNR.out,hnP,by omega,HQ.out⟩
      case measure=>simp[intOf];omega
     ·obtain⟨yn,rfl⟩: ∃yn:Nat,y=(yn:Int):=⟨y.toNat,by omega⟩
      have hy0:(0:Int)≤(yn:Int):=hy.1
      have hyN:(yn:Int)<(N:Int):=hy.2
      have hynN:yn<N:=by omega
      rcases h1:hasB om (yn:Int) with _ | _
      ·have F:=hDD (N2.out hy0 h1)
       have HY:Hid (I64 (yn:Int)):=hDD ⟨by omega,by omega⟩
       have hnotin:(yn:Int)∉om:=hasB_not h1
       have ct:=HTQ.out.at_new hynN hnotin
       have ft:=HTQ.out.free yn
       obtain⟨bu,capu,wu,cu,hwul,hru⟩:=HTQ.out.at_old hunN (by rw[←HUN.out];exact HUM.out)
       have HRU:=hDD hru
       have huN':u<(N:Int):=by rw[HUN.out];omega
       have hu0':(0:Int)≤u:=by rw[HUN.out];omega
       have cu':wq.cell? ⟨w1.heap.size,u.toNat,none⟩=some (.slice (some ⟨bu,0,none⟩) wu.length capu):=by rw[HUN.out];exact cu
       clear hru hnotin
       go_wp2_with fail
       refine(copyInts_any _ wu _ HRU.out (by omega)).mono ?_
       rintro e wc ⟨rc,rfl,oc,bc⟩
       have sc:=bc.size
       have OC:=hDD oc
       have BC:=hDD bc
       have hPq:=HTQ.out.lt.2
       have hneT:=HTQ.out.ne
       have hA2: ∀x,u7.ownBlock=some x→x<wq.heap.size:=fun x hx=>(HOQ.out.1.lt x hx).2
       have HA2:=hDD hA2
       have CT:=hDD ct
       have FT:=hDD ft
       obtain⟨Ac,capc,rfl,_⟩:=OwI.form oc
       clear oc bc ct ft hA2
       go_wp2_with (first | ((at_builtin;refine push_int rfl (.tmp 59) (.tmp 61) rfl _ _ _ (OwI.alloc OC.out _) rfl _ _ rfl (cell_new1 _ _ _) HX.out (by first | omega | (simp<;>omega)) (by first | omega | (simp<;>omega)) ?_;intro v8 wv8 o8 g8 p8);obtain⟨A8,cap8,rfl,hl8,hm8,_,hf8⟩:=OwI.form o8;obtain⟨b8,rfl,hb81,hb82⟩:=hf8 (by simp);have B8:Below wq.heap.size wq wv8:=bel_push BC.out sc OC.out.1 (Nat.le_refl _) g8;have ct3:=(B8.cell (p:=⟨w1.heap.size,yn,none⟩) hPq).trans CT.out;have ft3:=(B8.frozen (p:=⟨w1.heap.size,yn,none⟩) hPq).trans FT.out;have hts:=(HTQ.out.below B8).set hynN o8.rd (by simp;omega) (by omega) (fun e=>by have:=HA2.out _ e;omega) hb82;have s8:=B8.size;have HB8:=hDD B8;simp only[List.length_append,List.length_cons,List.length_nil,Nat.zero_add] at hts;have HTS:=hDD hts;clear o8 g8 p8 hf8 B8 hts;have hgS:wv8.grownBy (wv8.setCell ⟨w1.heap.size,yn,none⟩ (.slice (some ⟨b8,0,none⟩) (wu.length+1) cap8)) (some w1.heap.size):=set_grown _ _ _ _;have HOS:Hid (OwI (wv8.setCell ⟨w1.heap.size,yn,none⟩ (.slice (some ⟨b8,0,none⟩) (wu.length+1) cap8)) (w1.heap.size+1) u7 om):=hDD ((HOQ.out.below HB8.out).far (p:=⟨w1.heap.size,yn,none⟩) (by show w1.heap.size<_;omega) _);have HRS:Hid (RdI (wv8.setCell ⟨w1.heap.size,yn,none⟩ (.slice (some ⟨b8,0,none⟩) (wu.length+1) cap8)) (.slice (some ⟨gl,0,none⟩) ls.length capl) ls):=hDD ((HRQ.out.below HB8.out).grown hgS fun b hb hb'=>by simp[Value.ownBlock] at hb hb';omega);have HBS:Hid (Below w1.heap.size wl (wv8.setCell ⟨w1.heap.size,yn,none⟩ (.slice (some ⟨b8,0,none⟩) (wu.length+1) cap8))):=hDD ((HQ.out.trans (HB8.out.mono (by omega))).setCell (by show w1.heap.size≤w1.heap.size;omega) _);clear hgS) | (at_builtin;refine push_int rfl (.tmp 64) (.tmp 66) rfl _ _ _ (OwI.alloc HOS.out _) rfl _ _ rfl (by simp[go_sem]) HY.out (by first | omega | (simp<;>omega)) (by first | omega | (simp<;>omega)) ?_;intro v9 wv9 o9 g9 p9))
       have hS:(wv8.setCell ⟨w1.heap.size,yn,none⟩ (.slice (some ⟨b8,0,none⟩) (wu.length+1) cap8)).heap.size=wv8.heap.size:=by simp
       have hz9:=g9.size
       simp at hz9
       go_roundw
       case rel=>
        refine⟨m+1,by omega,by go_num,by rw[HS.out,F.out];exact o9,by rw[HS.out,F.out];exact HTS.out.push g9 p9,(HRS.out.alloc _).grown g9 (fun b hb hb'=> ?_),fun e=> ?_,hnP,by omega,bel_push HBS.out (by omega) HOS.out.1 (by omega) g9⟩
        ·simp only[Value.ownBlock,Option.some.injEq] at hb
         subst hb
         exact HNR.out hb'
        ·rcases p9 with p9 | p9
         ·rw[p9] at e;exact HNR.out e
         ·rw[p9] at e;simp at e;omega
       case measure=>simp[intOf];omega
      ·have F:=hDD (N1.out hy0 h1)
       obtain⟨bu,capu,wu,cu,hwul,hru⟩:=HTQ.out.at_old hynN (hasB_iff.1 h1)
       clear hru
       go_wp2
       go_roundw
       case rel=>exact⟨m+1,by omega,by go_num,by rw[HS.out,F.out];exact HOQ.out,by rw[HS.out,F.out];exact HTQ.out,HRQ.out,HNR.out,hnP,by omega,HQ.out⟩
       case measure=>simp[intOf];omega
    ·obtain rfl:m=ls.length:=by omega
     rw[List.take_length] at hown HTW2
     have hokm:=HOKm.out ls.length
     rw[List.take_length] at hokm
     have HOKF:=hDD hokm
     have HOM:=hDD hown
     have hlen:k+1≤(ls.foldl (cstep g.2.2 u) o).length:=by
      have:=HPU.out ls.length
      rw[List.take_length] at this
      have:=(List.getElem?_eq_some_iff.1 this).1
      omega
     obtain⟨A2,cap2,rfl,_⟩:=hown.form
     clear hown hrd hne hokm p0 p1 p2
     go_wp2
     go_roundw
     case rel=>exact⟨k+1,_,hlen,by go_num,HOKF.out,HCF.out,HOM.out,HTW2.out,HB4.out⟩
     case measure=>simp[intOf];omega
  ·obtain rfl:k=o.length:=by omega
   have F:Hid (canO g=o):=hDD (by rw[HC.out,canF_end])
   clear hown hf2
   have HBW:Hid (Below w.heap.size w wo):=hDD (BX.out.trans (HB2.out.mono (by omega)))
   have HEX:=EX.out
   have hbase:w.heap.size≤w1.heap.size+1:=by omega
   clear HEX
   go_wp2
   exact bodyPost_ret (v:= .tuple #[.slice A1 o.length cap1, .slice (some ⟨w1.heap.size,0,none⟩) N N]) (by simp[results,Tryz.results177]) rfl ⟨_,_,rfl,by rw[F.out];exact HO.out.mono hbase,HBW.out⟩
end Go.Proofs.YtlgcflpaekbopaaGreat
namespace Go.Proofs.YtlgcflpaekbopaaGreat
set_option maxRecDepth 20000
set_option linter.unusedVariables false
set_option linter.unusedSimpArgs false
open Go.RowKit
theorem set3_cells (w:World) (b:Nat) {x0 x1 x2:Value} (v0 v1 v2:Value) (h0:w.cell? ⟨b,0,none⟩=some x0) (h1:w.cell? ⟨b,1,none⟩=some x1) (h2:w.cell? ⟨b,2,none⟩=some x2):
  (((w.setCell ⟨b,0,none⟩ v0).setCell ⟨b,1,none⟩ v1).setCell ⟨b,2,none⟩ v2).cell? ⟨b,0,none⟩=some v0∧(((w.setCell ⟨b,0,none⟩ v0).setCell ⟨b,1,none⟩ v1).setCell ⟨b,2,none⟩ v2).cell? ⟨b,1,none⟩=some v1∧(((w.setCell ⟨b,0,none⟩ v0).setCell ⟨b,1,none⟩ v1).setCell ⟨b,2,none⟩ v2).cell? ⟨b,2,none⟩=some v2:=by
 refine⟨?_,?_,?_⟩
 ·rw[World.cell?_setCell_other _ _ _ _ (by simp),World.cell?_setCell_other _ _ _ _ (by simp),World.cell?_setCell_same _ _ _ h0]
 ·rw[World.cell?_setCell_other _ _ _ _ (by simp)]
  exact World.cell?_setCell_same _ _ _ ((World.cell?_setCell_other _ _ _ _ (by simp)).trans h1)
 ·exact World.cell?_setCell_same _ _ _ ((World.cell?_setCell_other _ _ _ _ (by simp)).trans ((World.cell?_setCell_other _ _ _ _ (by simp)).trans h2))
def canG (g:GrD):GrD:=rnG g (canO g)
end Go.Proofs.YtlgcflpaekbopaaGreat
namespace Go.Proofs.YtlgcflpaekbopaaGreat
set_option maxRecDepth 20000
set_option linter.unusedVariables false
set_option linter.unusedSimpArgs false
open Go.RowKit
section
variable {w w':World} {v:Value} {ds:List GrD} {lo hi:Nat}
end
end Go.Proofs.YtlgcflpaekbopaaGreat
namespace Go.Proofs.YtlgcflpaekbopaaGreat
set_option maxRecDepth 20000
set_option linter.unusedVariables false
set_option linter.unusedSimpArgs false
open Go.RowKit
def coreB (g:GrD):Bool:=foldB g&&decide (leafV g.2.2 g.2.1.toNat<0)&&decide (canG g=g)
end Go.Proofs.YtlgcflpaekbopaaGreat
namespace Go.Proofs.YtlgcflpaekbopaaGreat
set_option maxRecDepth 20000
set_option linter.unusedVariables false
set_option linter.unusedSimpArgs false
open Go.RowKit
def bools (bs:List Bool):List Value:=bs.map Value.bool
def OwB (w:World) (base:Nat) (v:Value) (bs:List Bool):Prop:=w.ownsRow base 4 1 v bs.length (bools bs)
section
variable {w w':World} {base n g cap:Nat} {v:Value} {bs:List Bool}
theorem OwB.len (h:OwB w base (.slice (some ⟨g,0,none⟩) n cap) bs):n=bs.length:=by
 rcases h.2 with ⟨hv,_⟩ | ⟨g',cap',cur,hv,_⟩
 ·cases hv
 ·injection hv
theorem OwB.set (h:OwB w base (.slice (some ⟨g,0,none⟩) n cap) bs) (j:Nat) (z:Bool):
  OwB (w.setCell ⟨g,j,none⟩ (.bool z)) base (.slice (some ⟨g,0,none⟩) n cap) (bs.set j z)∧w.grownBy (w.setCell ⟨g,j,none⟩ (.bool z)) (some g):=by
 have hn:=h.len
 subst hn
 obtain⟨h1,h2⟩:=World.ownsRow.stored h j (.bool z)
 refine⟨?_,h2⟩
 unfold OwB
 rw[List.length_set]
 simpa[bools,List.map_set] using h1
theorem OwB.cellAt (h:OwB w base (.slice (some ⟨g,0,none⟩) n cap) bs) (j:Nat) (hj:j<bs.length):w.cell? ⟨g,j,none⟩=some (.bool bs[j]):=by
 have hn:=h.len
 subst hn
 rw[World.ownsRow.cellAt h j (by omega)]
 simp[bools,hj]
theorem OwB.free (h:OwB w base (.slice (some ⟨g,0,none⟩) n cap) bs) (j:Nat):w.frozen? ⟨g,j,none⟩=false:=by
 have hn:=h.len
 subst hn
 exact World.ownsRow.frozenAt h j
end
theorem OwB.below {w w':World} {base:Nat} {v:Value} {bs:List Bool} (h:OwB w base v bs) (hb:Below w.heap.size w w'):OwB w' base v bs:=ownsRow_below h hb
theorem OwB.mono {w:World} {base base':Nat} {v:Value} {bs:List Bool} (h:OwB w base v bs) (hb:base'≤base):OwB w base' v bs:=by
 refine⟨h.1,?_⟩
 rcases h.2 with h0 | ⟨g,cap,cur,hv,hg,r⟩
 ·exact .inl h0
 ·exact .inr ⟨g,cap,cur,hv,by omega,r⟩
def cellF (w:World) (b v:Nat):Nat:=match w.cell? ⟨b,v,none⟩ with
 | some (.bool false)=>1
 | _=>0
def mB (w:World) (b n:Nat):Nat:=((List.range n).map (cellF w b)).sum
theorem sum_count (bs:List Bool):(bs.map fun b=>if b=false then 1 else 0).sum=bs.count false:=by
 induction bs with
 | nil=>rfl
 | cons b bs ih=>cases b<;>simp[ih];omega
theorem mB_eq {w:World} {base g n cap:Nat} {bs:List Bool} (h:OwB w base (.slice (some ⟨g,0,none⟩) n cap) bs):mB w g bs.length=bs.count false:=by
 rw[←sum_count]
 unfold mB
 congr 1
 refine List.ext_getElem (by simp) fun i h1 h2=> ?_
 have hi:i<bs.length:=by simpa using h2
 simp only[List.getElem_map,List.getElem_range]
 unfold cellF
 rw[h.cellAt i hi]
 cases bs[i]<;>rfl
def JI (es:List EdD) (n:Nat) (bs:List Bool):Prop:=bs.length=n∧bs[0]? =some true∧ ∀v:Nat,bs[v]? =some true→Conn es 0 v
theorem set_true_get {bs:List Bool} {a v:Nat}:(bs.set a true)[v]? =some true↔(v=a∧a<bs.length)∨bs[v]? =some true:=by
 rw[List.getElem?_set]
 by_cases e:a=v
 ·subst e
  by_cases hl:a<bs.length
  ·simp[hl]
  ·simp[hl]
 ·rw[if_neg e]
  constructor
  ·exact .inr
  ·rintro(⟨h,_⟩ | h)
   ·exact absurd h.symm e
   ·exact h
theorem count_set_true {bs:List Bool} {a:Nat} (ha:a<bs.length):(bs.set a true).count false+(if bs[a]=false then 1 else 0)=bs.count false:=by
 induction bs generalizing a with
 | nil=>simp at ha
 | cons b bs ih=>
   cases a with
   | zero=>cases b<;>simp
   | succ a=>
     have:=ih (a:=a) (by simpa using ha)
     cases b<;>simp[List.count_cons]<;>omega
theorem JI.step {es:List EdD} {n a c:Nat} {bs:List Bool} {l:Int} (h:JI es n bs) (he:((a:Int),l,(c:Int))∈es) (ha:a<n) (hc:c<n) (hne:bs[a]? ≠bs[c]?):
  JI es n ((bs.set a true).set c true)∧((bs.set a true).set c true).count false<bs.count false:=by
 obtain⟨h1,h2,h3⟩:=h
 have hla:a<bs.length:=by omega
 have hlc:c<bs.length:=by omega
 have e1:bs[a]? =some bs[a]:=by simp[hla]
 have e2:bs[c]? =some bs[c]:=by simp[hlc]
 have hor:bs[a]? =some true∨bs[c]? =some true:=by
  rw[e1,e2] at hne⊢
  cases h:bs[a]<;>cases h':bs[c]<;>simp[h,h'] at hne⊢
 refine⟨⟨by simp[h1],?_,fun v hv=> ?_⟩,?_⟩
 ·rw[set_true_get,set_true_get]
  exact .inr (.inr h2)
 ·rw[set_true_get,set_true_get] at hv
  rcases hv with ⟨rfl,_⟩ | ⟨rfl,_⟩ | hv
  ·rcases hor with h | h
   ·exact Conn.fwd _ he (h3 _ h)
   ·exact h3 _ h
  ·rcases hor with h | h
   ·exact h3 _ h
   ·exact Conn.back _ he (h3 _ h)
  ·exact h3 _ hv
 ·have k1:=count_set_true hla
  have k2:=count_set_true (bs:=bs.set a true) (a:=c) (by simpa using hlc)
  rw[e1,e2] at hne
  have hac:a≠c:=fun e=>by subst e;exact hne rfl
  have k3:(bs.set a true)[c]'(by simpa using hlc)=bs[c]:=by rw[List.getElem_set_ne hac]
  rw[k3] at k2
  cases h:bs[a]<;>cases h':bs[c]<;>simp[h,h'] at hne k1 k2<;>omega
theorem JI.done {es:List EdD} {n:Nat} {bs:List Bool} (h:JI es n bs) (hr: ∀e∈es,0≤e.1∧0≤e.2.2) (hcl: ∀e∈es,bs[e.1.toNat]? =bs[e.2.2.toNat]?):
  ∀v (hv:v<bs.length),bs[v]=hasB (reachL es 0) v:=by
 intro v hv
 have key:bs[v]? =some true↔Conn es 0 v:=by
  refine⟨h.2.2 v,fun hc=> ?_⟩
  have:=conn_of_closed (S:=fun x=>0≤x→bs[x.toNat]? =some true) (v:=0) (fun _=>h.2.1) ?_ hc (by omega)
  ·simpa using this
  ·intro e he
   obtain⟨a,b⟩:=hr e he
   have:=hcl e he
   exact⟨fun hx _=>by rw[←this];exact hx a,fun hx _=>by rw[this];exact hx b⟩
 rw[Bool.eq_iff_iff,hasB_iff,reachL_mem,←key]
 simp[hv]
theorem heapSize_setCell' (w:World) (a:Addr) (u:Value):(w.setCell a u).heap.size=w.heap.size:=by simp
theorem bool_info:(Tryz.prog.info? 4).map (fun i=>(i.zero,i.size,i.bytes))=some (some (.bool false),1,1):=by kernel_rfl
def joinL (g:GrD):List Bool:=(List.range g.2.1.toNat).map fun v=>hasB (reachL g.2.2 0) (v:Nat)
theorem joinL_of {g:GrD} {bs:List Bool} (hl:bs.length=g.2.1.toNat) (h: ∀v (hv:v<bs.length),bs[v]=hasB (reachL g.2.2 0) v):bs=joinL g:=by
 refine List.ext_getElem (by simp[joinL,hl]) fun i h1 h2=> ?_
 rw[h i h1]
 simp[joinL]
set_option maxHeartbeats 1000000 in
theorem joined_any (v:Value) (g:GrD) (w:World) (h:ArgG w v g) (hg:grB g=true):
  Calls Tryz.prog 153 #[v, .int .i64 0] w fun e w'=> ∃r,e= .returned r∧OwB w' w.heap.size r (joinL g)∧Below w.heap.size w w':=by
 have HG:=hDD h
 obtain⟨hr13,hsz40,hl120,_⟩:=grB_parts hg
 have HED:=hDD (fun e he=>edge_of_gr hg (e:=e) he)
 have HJ:Hid (∀bs:List Bool,bs.length=g.2.1.toNat→(∀v (hv:v<bs.length),bs[v]=hasB (reachL g.2.2 0) v)→bs=joinL g):=hDD fun bs=>joinL_of
 generalize joinL g=JL at*
 clear hg h
 obtain⟨r,n,es⟩:=g
 simp only at hr13 hsz40 hl120 HG HED HJ
 obtain⟨N,rfl⟩: ∃N:Nat,n=(N:Int):=⟨n.toNat,by omega⟩
 have hN1:1≤N:=by omega
 have hN2:N≤40:=by omega
 clear hsz40 hr13
 obtain⟨A,cap,rfl,HE⟩: ∃A cap,v= .agg #[.int .i64 r, .int .i64 N, .slice A es.length cap]∧Hid (ArgE w (.slice A es.length cap) es):=by
  obtain⟨s,hv,_,_,ha⟩:=HG.out
  obtain⟨A,cap,rfl⟩:=ha.form
  exact⟨A,cap,hv,hDD ha⟩
 have hbndE:es.length≤cap∧cap≤maxLen:=by
  obtain⟨_,_,hv,h1,h2,_⟩:=HE.out
  injection hv with _ _ e3
  subst e3
  exact⟨h1,h2⟩
 obtain⟨hcap,hm⟩:=hbndE
 unfold maxLen at hm
 have bx:Below w.heap.size w (w.alloc (Obj.cells #[Value.int IntKind.i64 r,Value.int IntKind.i64 N, .slice A es.length cap] 82)):=(by repeat(first | exact Below.refl _ _ | (refine Below.setCell ?_ (by first | omega | (simp<;>omega)) _) | (refine bel_drewN ?_ _) | (refine Below.drew ?_) | (refine Below.alloc ?_ (by first | omega | (simp<;>omega)) _)))
 go_enter Tryz.func153,Tryz.ntmps153
 obtain⟨i0,hi0,hz0,hz1,hz2⟩:=info_parts bool_info
 go_wp2_with (at_make;refine wpList_make_full _ rfl _ _ 148 rfl (w.heap.size+1) 4 i0 (.bool false) 1 Tryz.underlying148 hi0 hz0 hz1 _ _ _ _ N rfl rfl rfl rfl (by rw[hz2];omega) (by unfold maxLen;omega) (by simp) ?_)
 have b1:(w.alloc (Obj.cells #[Value.int IntKind.i64 r,Value.int IntKind.i64 N, .slice A es.length cap] 82)).cell? ⟨w.heap.size,1,none⟩=some (.int .i64 N):=by simp[go_sem]
 have b2:(w.alloc (Obj.cells #[Value.int IntKind.i64 r,Value.int IntKind.i64 N, .slice A es.length cap] 82)).cell? ⟨w.heap.size,2,none⟩=some (.slice A es.length cap):=by simp[go_sem]
 have hsW:(w.alloc (Obj.cells #[Value.int IntKind.i64 r,Value.int IntKind.i64 N, .slice A es.length cap] 82)).heap.size=w.heap.size+1:=by simp
 generalize w.alloc (Obj.cells #[Value.int IntKind.i64 r,Value.int IntKind.i64 N, .slice A es.length cap] 82)=w1 at bx b1 b2 hsW⊢
 rw[←hsW]
 have hlt1:w.heap.size<w1.heap.size:=by omega
 have HSW:=hDD hsW
 clear hsW
 have B2:=hDD b2
 have BX:=hDD bx
 clear b2 bx
 intro w2 hown0 hgrow0
 have own0:OwB w2 w1.heap.size (.slice (some ⟨w1.heap.size,0,none⟩) N N) (List.replicate N false):=by
  unfold OwB
  rw[List.length_replicate]
  have:bools (List.replicate N false)=List.replicate N (Value.bool false):=by simp[bools]
  rw[this]
  simpa[toList_madeCells_one] using hown0
 have hc0:=own0.cellAt 0 (by simp;omega)
 have hf0:=own0.free 0
 have O1:=hDD (own0.set 0 true)
 have G0:=hDD hgrow0
 have hP2:w1.heap.size<w2.heap.size:=(own0.lt w1.heap.size rfl).2
 have j1:(0:Int)<(N:Int):=by omega
 clear hown0 own0 hgrow0
 simp only[List.getElem_replicate] at hc0
 have JI0:Hid (JI es N ((List.replicate N false).set 0 true)):=hDD (by
  refine⟨by simp,?_,fun v hv=> ?_⟩
  ·rw[set_true_get];left;exact⟨rfl,by simp;omega⟩
  ·rw[set_true_get] at hv
   rcases hv with ⟨rfl,_⟩ | hv
   ·exact Conn.base
   ·rw[List.getElem?_replicate] at hv
    split at hv
    ·injection hv with hv;cases hv
    ·cases hv)
 have HR0:Hid (∀e∈es,0≤e.1∧0≤e.2.2):=hDD fun e he=>by have:=HED.out e he;omega
 go_wp2
 go_loopw [6] (fun a wr=> ∃(ag:Bool) (bs:List Bool),a= .bool ag∧JI es N bs∧OwB wr w1.heap.size (.slice (some ⟨w1.heap.size,0,none⟩) N N) bs∧Below w1.heap.size w1 wr∧(ag=false→ ∀e∈es,bs[e.1.toNat]? =bs[e.2.2.toNat]?)) (fun a wr=>2*mB wr w1.heap.size N+(match a with | .bool true=>1 | _=>0))
 case atStart=>exact⟨true,_,rfl,JI0.out,O1.out.1,((Below.refl _ _).grown G0.out (Nat.le_refl _) (fun k h=>by cases h)).grown O1.out.2 (by omega) (fun k h=>by cases h;omega),fun h=>by cases h⟩
 case round=>
  obtain⟨ag,bs,rfl,hji,hown,hbel,hcl⟩:=hrel
  have HJI:=hDD hji
  have HO:=hDD hown
  have HB:=hDD hbel
  have HCL:=hDD hcl
  have hbl:=hji.1
  have hm0:=mB_eq hown
  rw[hbl] at hm0
  have HM:=hDD hm0
  clear hm0
  clear hji hown hcl
  cases ag with
  | false=>
    have HF:Hid (bs=JL):=hDD (HJ.out bs (by simpa using hbl) (HJI.out.done HR0.out (HCL.out rfl)))
    have BB:Hid (Below w.heap.size w wr):=hDD (BX.out.trans (hbel.mono (by omega)))
    have hbase:w.heap.size≤w1.heap.size:=by omega
    clear hbel
    have HOJ:Hid (OwB wr w.heap.size (.slice (some ⟨w1.heap.size,0,none⟩) N N) JL):=hDD (by rw[←HF.out];exact HO.out.mono hbase)
    go_wp2
    exact bodyPost_ret (v:= .slice (some ⟨w1.heap.size,0,none⟩) N N) (by simp[results,Tryz.results153]) rfl ⟨_,rfl,HOJ.out,BB.out⟩
  | true=>
    have q2:=(hbel.cell (p:=⟨w.heap.size,2,none⟩) (show w.heap.size<w1.heap.size from hlt1)).trans B2.out
    clear hbel hbl
    obtain⟨wo,hwo⟩: ∃wo:World,wo=wr:=⟨_,rfl⟩
    have HWO:=hDD hwo
    clear hwo
    go_wp2
    go_loopw [6,19] (fun a i wr=> ∃(k:Nat) (ag:Bool) (b2:List Bool),k≤es.length∧i= .int .i64 k∧a= .bool ag∧JI es N b2∧OwB wr w1.heap.size (.slice (some ⟨w1.heap.size,0,none⟩) N N) b2∧Below w1.heap.size w1 wr∧b2.count false≤bs.count false∧(ag=true→b2.count false<bs.count false)∧(ag=false→ ∀j (hj:j<es.length),j<k→b2[es[j].1.toNat]? =b2[es[j].2.2.toNat]?)) (fun _ i _=>es.length-(intOf i).toNat)
    case atStart=>exact⟨0,false,bs,Nat.zero_le _,rfl,rfl,HJI.out,HO.out,HB.out,Nat.le_refl _,(fun h=>by cases h),fun _ j hj h=>absurd h (by omega)⟩
    case round=>
     obtain⟨k,ag,b2,hk,rfl,rfl,hji2,hown2,hbel2,hle2,hlt2,hcl2⟩:=hrel
     have HJ2:=hDD hji2
     have HO2:=hDD hown2
     have HB2:=hDD hbel2
     have HLE:=hDD hle2
     have HLT:=hDD hlt2
     have HC2:=hDD hcl2
     have hbl2:=hji2.1
     have hP:=(hown2.lt w1.heap.size rfl).2
     have s12:=hbel2.size
     clear hji2 hle2 hlt2 hcl2
     by_cases hlt:k<es.length
     ·obtain⟨be,offe,rfl,hbe,c0,c1,c2,he64⟩:=(HE.out.below (BX.out.trans (hbel2.mono (by omega)))).at hlt
      obtain⟨e1,e2,e3⟩:=HED.out es[k] (by simp)
      have hmem:es[k]∈es:=by simp
      have HX:Hid (∃x,es[k]=x):=hDD ⟨_,rfl⟩
      generalize hx:es[k]=e at c0 c1 c2 he64 e1 e2 e3 hmem
      have HX:=hDD hx
      clear hx
      obtain⟨f,l,t⟩:=e
      simp only at e1 e2 e3 c0 c1 c2
      obtain⟨a,rfl⟩: ∃a:Nat,f=(a:Int):=⟨f.toNat,by omega⟩
      obtain⟨c,rfl⟩: ∃c:Nat,t=(c:Int):=⟨t.toNat,by omega⟩
      have ha:a<b2.length:=by omega
      have hc:c<b2.length:=by omega
      have ca:=hown2.cellAt a ha
      have cc:=hown2.cellAt c hc
      have ga:b2[a]? =some b2[a]:=by simp[ha]
      have gc:b2[c]? =some b2[c]:=by simp[hc]
      have GA:=hDD ga
      have GC:=hDD gc
      have ja:(a:Int)<(N:Int):=by omega
      have jc:(c:Int)<(N:Int):=by omega
      have ja0:(0:Int)≤(a:Int):=by omega
      have jc0:(0:Int)≤(c:Int):=by omega
      have hfa:=hown2.free a
      have hfc:=hown2.free c
      have HSTEP:Hid (b2[a]? ≠b2[c]? →JI es N ((b2.set a true).set c true)∧((b2.set a true).set c true).count false<b2.count false):=hDD fun h=>HJ2.out.step hmem (by omega) (by omega) h
      have HMEM:=hDD hmem
      have bA:Below wr.heap.size wr (wr.alloc (Obj.cells #[Value.int IntKind.i64 a,Value.int IntKind.i64 l,Value.int IntKind.i64 c] 154)):=(Below.refl _ _).alloc (Nat.le_refl _) _
      have BA:=hDD bA
      generalize b2[a]=ba at*
      generalize b2[c]=bc at*
      clear ga gc he64 hown2 hbel2 hmem bA ha hc hbl2
      go_wp2_with fail
      have l0:(wr.alloc (Obj.cells #[Value.int IntKind.i64 a,Value.int IntKind.i64 l,Value.int IntKind.i64 c] 154)).cell? ⟨wr.heap.size,0,none⟩=some (.int .i64 a):=by simp[go_sem]
      have l2:(wr.alloc (Obj.cells #[Value.int IntKind.i64 a,Value.int IntKind.i64 l,Value.int IntKind.i64 c] 154)).cell? ⟨wr.heap.size,2,none⟩=some (.int .i64 c):=by simp[go_sem]
      have la:=(BA.out.cell (p:=⟨w1.heap.size,a,none⟩) hP).trans ca
      have lc:=(BA.out.cell (p:=⟨w1.heap.size,c,none⟩) hP).trans cc
      have lfa:=(BA.out.frozen (p:=⟨w1.heap.size,a,none⟩) hP).trans hfa
      have lfc:=(BA.out.frozen (p:=⟨w1.heap.size,c,none⟩) hP).trans hfc
      have hsA:wr.heap.size<(wr.alloc (Obj.cells #[Value.int IntKind.i64 a,Value.int IntKind.i64 l,Value.int IntKind.i64 c] 154)).heap.size:=by simp
      clear ca cc hfa hfc c0 c1 c2
      generalize wr.alloc (Obj.cells #[Value.int IntKind.i64 a,Value.int IntKind.i64 l,Value.int IntKind.i64 c] 154)=W at BA l0 l2 la lc lfa lfc hsA⊢
      have hPW:w1.heap.size<W.heap.size:=by omega
      have hne1:wr.heap.size≠w1.heap.size:=by omega
      cases ba<;>cases bc
      ·have CLX:Hid (b2[a]? =b2[c]?):=hDD (by rw[GA.out,GC.out])
       go_quiet (fail)
       go_wp2
       go_roundw
       case rel=>
        refine⟨k+1,ag,b2,by omega,by go_num,rfl,HJ2.out,HO2.out.below (bel_drewN BA.out _),HB2.out.trans ((bel_drewN BA.out _).mono (by omega)),HLE.out,HLT.out,fun h j hj hjk=> ?_⟩
        rcases Nat.lt_or_eq_of_le (Nat.le_of_lt_succ hjk) with h2 | rfl
        ·exact HC2.out h j hj h2
        ·rw[HX.out];simpa using CLX.out
       case measure=>simp[intOf];omega
      ·have STP:=hDD (HSTEP.out (by rw[GA.out,GC.out];simp))
       go_quiet (fail)
       have O3:=hDD ((HO2.out.below (bel_drewN BA.out nq)).set a true)
       have O4:=hDD (O3.out.1.set c true)
       have l9:=O3.out.1.cellAt c (by rw[List.length_set];have:=HJ2.out.1;omega)
       have f9:=O3.out.1.free c
       generalize (b2.set a true)[c]'(by rw[List.length_set];have:=HJ2.out.1;omega)=z9 at l9
       go_wp2
       go_roundw
       case rel=>
        refine⟨k+1,true,_,by omega,by go_num,rfl,STP.out.1,O4.out.1,?_,?_,fun _=> ?_,fun h=>by cases h⟩
        ·have b5:=HB2.out.trans ((bel_drewN BA.out nq).mono (by omega))
         exact(b5.grown O3.out.2 (show w1.heap.size≤W.heap.size by omega) (fun j hj=>by cases hj;exact Nat.le_refl _)).grown O4.out.2 (by rw[heapSize_setCell'];exact Nat.le_of_lt hPW) (fun j hj=>by cases hj;exact Nat.le_refl _)
        ·have:=STP.out.2;have:=HLE.out;omega
        ·have:=STP.out.2;have:=HLE.out;omega
       case measure=>simp[intOf];omega
      ·have STP:=hDD (HSTEP.out (by rw[GA.out,GC.out];simp))
       go_quiet (fail)
       have O3:=hDD ((HO2.out.below (bel_drewN BA.out nq)).set a true)
       have O4:=hDD (O3.out.1.set c true)
       have l9:=O3.out.1.cellAt c (by rw[List.length_set];have:=HJ2.out.1;omega)
       have f9:=O3.out.1.free c
       generalize (b2.set a true)[c]'(by rw[List.length_set];have:=HJ2.out.1;omega)=z9 at l9
       go_wp2
       go_roundw
       case rel=>
        refine⟨k+1,true,_,by omega,by go_num,rfl,STP.out.1,O4.out.1,?_,?_,fun _=> ?_,fun h=>by cases h⟩
        ·have b5:=HB2.out.trans ((bel_drewN BA.out nq).mono (by omega))
         exact(b5.grown O3.out.2 (show w1.heap.size≤W.heap.size by omega) (fun j hj=>by cases hj;exact Nat.le_refl _)).grown O4.out.2 (by rw[heapSize_setCell'];exact Nat.le_of_lt hPW) (fun j hj=>by cases hj;exact Nat.le_refl _)
        ·have:=STP.out.2;have:=HLE.out;omega
        ·have:=STP.out.2;have:=HLE.out;omega
       case measure=>simp[intOf];omega
      ·have CLX:Hid (b2[a]? =b2[c]?):=hDD (by rw[GA.out,GC.out])
       go_quiet (fail)
       go_wp2
       go_roundw
       case rel=>
        refine⟨k+1,ag,b2,by omega,by go_num,rfl,HJ2.out,HO2.out.below (bel_drewN BA.out _),HB2.out.trans ((bel_drewN BA.out _).mono (by omega)),HLE.out,HLT.out,fun h j hj hjk=> ?_⟩
        rcases Nat.lt_or_eq_of_le (Nat.le_of_lt_succ hjk) with h2 | rfl
        ·exact HC2.out h j hj h2
        ·rw[HX.out];simpa using CLX.out
       case measure=>simp[intOf];omega
     ·obtain rfl:k=es.length:=by omega
      have hm2:=mB_eq hown2
      rw[hbl2] at hm2
      have HM2:=hDD hm2
      clear hm2 hown2 hbel2
      go_wp2
      go_roundw
      case rel=>exact⟨ag,b2,rfl,HJ2.out,HO2.out,HB2.out,fun h e he=>by obtain⟨j,hj,rfl⟩:=List.getElem_of_mem he;exact HC2.out h j hj hj⟩
      case measure=>
       rw[HM.out,HM2.out]
       cases ag with
       | false=>
         have:=HLE.out
         show 2*_+0<2*_+1
         omega
       | true=>
         have:=HLT.out rfl
         show 2*_+1<2*_+1
         omega
theorem delO_len2 (x:Int): ∀n:Nat,(delO n x).length=if 0≤x∧x<n then n-1 else n
 | 0=>by
   rw[if_neg (by omega)]
   rfl
 | n+1=>by
   rw[delO_succ]
   have ih:=delO_len2 x n
   by_cases h:(n:Int)≠x
   ·rw[if_pos h,List.length_append,ih]
    by_cases h2:0≤x∧x<n
    ·rw[if_pos h2,if_pos (by omega)]
     simp
     omega
    ·rw[if_neg h2,if_neg (by omega)]
     rfl
   ·rw[if_neg h,ih,if_neg (by omega),if_pos (by omega)]
    omega
def trimF:Nat→GrD→List Int→GrD×List Int
 | 0,g,l=>(g,l)
 | f+1,g,l=>if leafV g.2.2 g.2.1.toNat<0 then(g,l) else trimF f (rnG g (delO g.2.1.toNat (leafV g.2.2 g.2.1.toNat))) (l.take (leafV g.2.2 g.2.1.toNat).toNat++l.drop ((leafV g.2.2 g.2.1.toNat).toNat+1))
theorem trimF_stop {g:GrD} (l:List Int) (h:leafV g.2.2 g.2.1.toNat<0): ∀f,trimF f g l=(g,l)
 | 0=>rfl
 | f+1=>by unfold trimF;rw[if_pos h]
theorem rnG_size (g:GrD) (o:List Int):(rnG g o).2.1=(o.length:Int):=rfl
theorem trimF_step {g:GrD} (l:List Int) {u:Nat} (hu:leafV g.2.2 g.2.1.toNat=(u:Int)) (hn:u<g.2.1.toNat):
  trimF g.2.1.toNat g l=trimF (rnG g (delO g.2.1.toNat u)).2.1.toNat (rnG g (delO g.2.1.toNat u)) (l.take u++l.drop (u+1)):=by
 rw[rnG_size,delO_len2,if_pos (by omega)]
 obtain⟨f,hf⟩: ∃f,g.2.1.toNat=f+1:=⟨g.2.1.toNat-1,by omega⟩
 have e:((g.2.1.toNat-1:Nat):Int).toNat=f:=by omega
 rw[e]
 have e2:trimF (f+1) g l=if leafV g.2.2 g.2.1.toNat<0 then(g,l) else trimF f (rnG g (delO g.2.1.toNat (leafV g.2.2 g.2.1.toNat))) (l.take (leafV g.2.2 g.2.1.toNat).toNat++l.drop ((leafV g.2.2 g.2.1.toNat).toNat+1)):=rfl
 rw[show trimF g.2.1.toNat g l=trimF (f+1) g l by rw[hf],e2,hu,if_neg (by omega)]
 simp
theorem trimF_le: ∀(f:Nat) (g:GrD) (l:List Int),grB g=true→(trimF f g l).1.2.1≤g.2.1:=by
 intro f
 induction f with
 | zero=>intro g l _;exact Int.le_refl _
 | succ f ih=>
   intro g l hg
   unfold trimF
   obtain⟨_,hsz,_,_⟩:=grB_parts hg
   rcases leafV_range g.2.2 g.2.1.toNat with h | ⟨h1,h2⟩
   ·rw[if_pos (by omega)]
    exact Int.le_refl _
   ·rw[if_neg (by omega)]
    have hd:=delO_len2 (leafV g.2.2 g.2.1.toNat) g.2.1.toNat
    rw[if_pos (by omega)] at hd
    have hok:=delO_ok (n:=g.2.1.toNat) (by omega) h1
    rw[show((g.2.1.toNat:Nat):Int)=g.2.1 by omega] at hok
    have:=ih (rnG g (delO g.2.1.toNat (leafV g.2.2 g.2.1.toNat))) (l.take (leafV g.2.2 g.2.1.toNat).toNat++l.drop ((leafV g.2.2 g.2.1.toNat).toNat+1)) (grB_rnG hg hok)
    rw[rnG_size,hd] at this
    omega
def trimG (g:GrD):GrD×List Int:=trimF g.2.1.toNat g ((List.range g.2.1.toNat).map fun v=>((v:Nat):Int))
theorem trimG_size {g:GrD} (hg:grB g=true):decide ((trimG g).1.2.1=g.2.1)=decide (leafV g.2.2 g.2.1.toNat<0):=by
 obtain⟨_,hsz,_,_⟩:=grB_parts hg
 unfold trimG
 rcases leafV_range g.2.2 g.2.1.toNat with h | ⟨h1,h2⟩
 ·rw[trimF_stop _ (by omega)]
  simp[h]
 ·obtain⟨u,hu⟩: ∃u:Nat,leafV g.2.2 g.2.1.toNat=(u:Int):=⟨(leafV g.2.2 g.2.1.toNat).toNat,by omega⟩
  rw[trimF_step _ hu (by omega)]
  have hok:=delO_ok (n:=g.2.1.toNat) (x:=(u:Int)) (by omega) (by omega)
  rw[show((g.2.1.toNat:Nat):Int)=g.2.1 by omega] at hok
  have hd:=delO_len2 (u:Int) g.2.1.toNat
  rw[if_pos (by omega)] at hd
  have:=trimF_le (rnG g (delO g.2.1.toNat u)).2.1.toNat (rnG g (delO g.2.1.toNat u)) (((List.range g.2.1.toNat).map fun v=>((v:Nat):Int)).take u++((List.range g.2.1.toNat).map fun v=>((v:Nat):Int)).drop (u+1)) (grB_rnG hg hok)
  rw[rnG_size g,hd] at this
  have e1:decide (leafV g.2.2 g.2.1.toNat<0)=false:=by rw[hu];simp
  rw[e1]
  rw[decide_eq_false_iff_not]
  rw[rnG_size,hd]
  omega
def slN:Value→Nat
 | .slice _ n _=>n
 | _=>0
def rng (n:Nat):List Int:=(List.range n).map fun v=>((v:Nat):Int)
theorem rng_succ (n:Nat):rng (n+1)=rng n++ [(n:Int)]:=by simp[rng,List.range_succ]
theorem rng_len (n:Nat):(rng n).length=n:=by simp[rng]
theorem joinL_get {g:GrD} (k:Nat) (h:k<g.2.1.toNat):(joinL g)[k]'(by simpa[joinL] using h)=hasB (reachL g.2.2 0) k:=by simp[joinL]
theorem joinL_len (g:GrD):(joinL g).length=g.2.1.toNat:=by simp[joinL]
set_option maxHeartbeats 2000000 in
theorem trimGraph_any (v:Value) (g:GrD) (w:World) (h:ArgG w v g) (hg:grB g=true):
  Calls Tryz.prog 128 #[v] w fun e w'=> ∃r l,e= .returned (.tuple #[r,l])∧OwG w' w.heap.size r (trimG g).1∧OwI w' w.heap.size l (trimG g).2∧Below w.heap.size w w':=by
 have HG:=hDD h
 have HGR:=hDD hg
 obtain⟨hr13,hsz40,hl120,_⟩:=grB_parts hg
 have HT:Hid (trimG g=trimF g.2.1.toNat g (rng g.2.1.toNat)):=hDD rfl
 generalize trimG g=R at*
 clear hg h
 obtain⟨r,n,es⟩:=g
 simp only at hr13 hsz40 hl120 HG HT
 obtain⟨N,rfl⟩: ∃N:Nat,n=(N:Int):=⟨n.toNat,by omega⟩
 simp only[Int.toNat_natCast] at HT
 have hN1:1≤N:=by omega
 have hN2:N≤40:=by omega
 clear hsz40
 obtain⟨A,cap,rfl⟩: ∃A cap,v= .agg #[.int .i64 r, .int .i64 N, .slice A es.length cap]:=by
  obtain⟨s,hv,_,_,ha⟩:=HG.out
  obtain⟨A,cap,rfl⟩:=ha.form
  exact⟨A,cap,hv⟩
 have bx:Below w.heap.size w ((w.alloc (Obj.cells #[Value.int IntKind.i64 r,Value.int IntKind.i64 N, .slice A es.length cap] 82)).alloc (Obj.cells #[Value.int IntKind.i64 0,Value.int IntKind.i64 0, .slice none 0 0] 82)):=(by repeat(first | exact Below.refl _ _ | (refine Below.setCell ?_ (by first | omega | (simp<;>omega)) _) | (refine bel_drewN ?_ _) | (refine Below.drew ?_) | (refine Below.alloc ?_ (by first | omega | (simp<;>omega)) _)))
 go_enter Tryz.func128,Tryz.ntmps128
 go_wp2_with fail
 obtain⟨W0,hW0⟩: ∃W,W=(w.alloc (Obj.cells #[Value.int IntKind.i64 r,Value.int IntKind.i64 N, .slice A es.length cap] 82)).alloc (Obj.cells #[Value.int IntKind.i64 0,Value.int IntKind.i64 0, .slice none 0 0] 82):=⟨_,rfl⟩
 rw[←hW0] at bx⊢
 have hsW:W0.heap.size=w.heap.size+1+1:=by rw[hW0];simp
 have B0:Hid (W0.cell? ⟨w.heap.size,0,none⟩=some (.int .i64 r)):=hDD (by rw[hW0];simp[go_sem])
 have B1:Hid (W0.cell? ⟨w.heap.size,1,none⟩=some (.int .i64 N)):=hDD (by rw[hW0];simp[go_sem])
 have B2:Hid (W0.cell? ⟨w.heap.size,2,none⟩=some (.slice A es.length cap)):=hDD (by rw[hW0];simp[go_sem])
 have R0:Hid (W0.cell? ⟨w.heap.size+1,0,none⟩=some (.int .i64 0)):=hDD (by rw[hW0];simp[go_sem])
 have R1:Hid (W0.cell? ⟨w.heap.size+1,1,none⟩=some (.int .i64 0)):=hDD (by rw[hW0];simp[go_sem])
 have R2:Hid (W0.cell? ⟨w.heap.size+1,2,none⟩=some (.slice none 0 0)):=hDD (by rw[hW0];simp[go_sem])
 have RF:Hid (∀j,W0.frozen? ⟨w.heap.size+1,j,none⟩=false):=hDD fun j=>by rw[hW0];simp[go_sem]
 clear hW0
 have BX:=hDD bx
 have HSW:=hDD hsW
 have hltw:w.heap.size<W0.heap.size:=by omega
 have hltw1:w.heap.size+1<W0.heap.size:=by omega
 refine(copyGraph_any _ (r,(N:Int),es) W0 (HG.out.below bx) (by simp only;omega)).mono ?_
 clear bx hsW
 rintro e w1 ⟨r1,rfl,o1,b1⟩
 obtain⟨s1,rfl,hi1,hi2,oe⟩:=o1
 simp only at hi1 hi2 oe⊢
 obtain⟨A1,cap1,rfl,hcap1,hm1,_⟩:=OwE.form oe
 have OE:=hDD oe
 have hlt1: ∀b,(Value.slice A1 es.length cap1).ownBlock=some b→b<w1.heap.size:=fun b hb=>(oe.1.lt b hb).2
 have q0:=(b1.cell (p:=⟨w.heap.size,0,none⟩) hltw).trans B0.out
 have q1:=(b1.cell (p:=⟨w.heap.size,1,none⟩) hltw).trans B1.out
 have q2:=(b1.cell (p:=⟨w.heap.size,2,none⟩) hltw).trans B2.out
 have RQ0:=hDD ((b1.cell (p:=⟨w.heap.size+1,0,none⟩) hltw1).trans R0.out)
 have RQ1:=hDD ((b1.cell (p:=⟨w.heap.size+1,1,none⟩) hltw1).trans R1.out)
 have RQ2:=hDD ((b1.cell (p:=⟨w.heap.size+1,2,none⟩) hltw1).trans R2.out)
 have RQF:Hid (∀j,w1.frozen? ⟨w.heap.size+1,j,none⟩=false):=hDD fun j=>(b1.frozen (p:=⟨w.heap.size+1,j,none⟩) hltw1).trans (RF.out j)
 have HB1:Hid (Below w.heap.size w w1):=hDD (BX.out.trans (b1.mono (by omega)))
 have s1:=b1.size
 have HLT1:=hDD hlt1
 clear oe hlt1 b1 B0 B1 B2 R0 R1 R2 RF
 have hw1:w.heap.size<w1.heap.size:=by omega
 have hw11:w.heap.size+1<w1.heap.size:=by omega
 go_wp2_with fail
 have bA:Below w1.heap.size w1 ((w1.alloc (Obj.cells #[Value.int IntKind.i64 r,Value.int IntKind.i64 N, .slice A1 es.length cap1] 82)).alloc (Obj.cells #[] 3)):=(by repeat(first | exact Below.refl _ _ | (refine Below.setCell ?_ (by first | omega | (simp<;>omega)) _) | (refine bel_drewN ?_ _) | (refine Below.drew ?_) | (refine Below.alloc ?_ (by first | omega | (simp<;>omega)) _)))
 obtain⟨W2,hW2⟩: ∃W,W=(w1.alloc (Obj.cells #[Value.int IntKind.i64 r,Value.int IntKind.i64 N, .slice A1 es.length cap1] 82)).alloc (Obj.cells #[] 3):=⟨_,rfl⟩
 have o0:OwI W2 (w1.heap.size+1) (.slice (some ⟨w1.heap.size+1,0,none⟩) 0 0) (rng 0):=by
  rw[hW2]
  exact OwI_litN _ [] (w1.heap.size+1) (by simp) (fun _ h=>by cases h) (by simp) (Nat.le_refl _)
 have G0:Hid (W2.cell? ⟨w1.heap.size,0,none⟩=some (.int .i64 r)):=hDD (by rw[hW2];simp[go_sem])
 have G1:Hid (W2.cell? ⟨w1.heap.size,1,none⟩=some (.int .i64 N)):=hDD (by rw[hW2];simp[go_sem])
 have G2:Hid (W2.cell? ⟨w1.heap.size,2,none⟩=some (.slice A1 es.length cap1)):=hDD (by rw[hW2];simp[go_sem])
 have GF:Hid (∀j,W2.frozen? ⟨w1.heap.size,j,none⟩=false):=hDD fun j=>by rw[hW2];simp[go_sem]
 have hs2:W2.heap.size=w1.heap.size+1+1:=by rw[hW2];simp
 rw[←hW2] at bA⊢
 clear hW2
 have hig:=implIsGraph_any _ (r,(N:Int),es) W2 ((HG.out.below HB1.out).below bA)
 rw[HGR.out] at hig
 have HIG:=hDD hig
 clear hig
 refine HIG.out.mono ?_
 rintro e w3 ⟨rfl,b3⟩
 have s3:=b3.size
 have hg03:w1.heap.size<W2.heap.size:=by omega
 have bA3:=bA.trans (b3.mono (by omega))
 have BA3:=hDD bA3
 have B3:=hDD b3
 have OE3:=hDD (OE.out.below bA3)
 have O03:=hDD (o0.below b3)
 have QN:=hDD ((bA3.cell (p:=⟨w.heap.size,1,none⟩) hw1).trans q1)
 have G03:=hDD ((b3.cell (p:=⟨w1.heap.size,0,none⟩) hg03).trans G0.out)
 have G13:=hDD ((b3.cell (p:=⟨w1.heap.size,1,none⟩) hg03).trans G1.out)
 have G23:=hDD ((b3.cell (p:=⟨w1.heap.size,2,none⟩) hg03).trans G2.out)
 have GF3:Hid (∀j,w3.frozen? ⟨w1.heap.size,j,none⟩=false):=hDD fun j=>(b3.frozen (p:=⟨w1.heap.size,j,none⟩) hg03).trans (GF.out j)
 clear bA b3 bA3 o0 q0 q1 q2 G0 G1 G2 GF HIG
 go_wp2
 go_loopw [5,6] (fun l i wr=> ∃k:Nat,k≤N∧i= .int .i64 k∧OwI wr (w1.heap.size+1) l (rng k)∧Below (w1.heap.size+1) w3 wr) (fun _ i _=>N-(intOf i).toNat)
 case atStart=>exact⟨0,Nat.zero_le _,rfl,O03.out,Below.refl _ _⟩
 case round=>
  obtain⟨k,hk,rfl,hown,hbel⟩:=hrel
  have HO:=hDD hown
  have HB:=hDD hbel
  have hs:=hbel.size
  have qn:=(hbel.cell (p:=⟨w.heap.size,1,none⟩) (by show w.heap.size<w1.heap.size+1;omega)).trans QN.out
  have hlk:=rng_len k
  obtain⟨Al,capl,rfl,_⟩:=OwI.form hown
  clear hown hbel
  by_cases hlt:k<N
  ·have HK:Hid (I64 (k:Int)):=hDD ⟨by omega,by omega⟩
   have HRS:=hDD (rng_succ k)
   go_wp2_with (at_builtin;refine push_int rfl (.tmp 26) (.tmp 28) rfl _ _ _ (OwI.alloc HO.out _) rfl _ _ rfl (cell_new1 _ _ _) HK.out (by first | omega | (simp<;>omega)) (by first | omega | (simp<;>omega)) ?_;intro v9 wv9 o9 g9 p9)
   go_roundw
   case rel=>exact⟨k+1,by omega,by go_num,by rw[HRS.out];exact o9,bel_push HB.out (by omega) HO.out.1 (Nat.le_refl _) g9⟩
   case measure=>simp[intOf];omega
  ·obtain rfl:k=N:=by omega
   have GE:Hid (OwE wr W0.heap.size (.slice A1 es.length cap1) es):=hDD (OE3.out.keep fun b hb=>HB.out.block b (by have:=HLT1.out b hb;omega))
   have GC0:=hDD ((HB.out.cell (p:=⟨w1.heap.size,0,none⟩) (by show w1.heap.size<w1.heap.size+1;omega)).trans G03.out)
   have GC1:=hDD ((HB.out.cell (p:=⟨w1.heap.size,1,none⟩) (by show w1.heap.size<w1.heap.size+1;omega)).trans G13.out)
   have GC2:=hDD ((HB.out.cell (p:=⟨w1.heap.size,2,none⟩) (by show w1.heap.size<w1.heap.size+1;omega)).trans G23.out)
   have GCF:Hid (∀j,wr.frozen? ⟨w1.heap.size,j,none⟩=false):=hDD fun j=>(HB.out.frozen (p:=⟨w1.heap.size,j,none⟩) (by show w1.heap.size<w1.heap.size+1;omega)).trans (GF3.out j)
   have BB:Hid (Below w1.heap.size w1 wr):=hDD (BA3.out.trans (HB.out.mono (by omega)))
   have hwlt:w1.heap.size<wr.heap.size:=by omega
   clear G03 G13 G23 GF3 O03 OE3 BA3 B3 QN
   go_wp2
   go_loopw [5] (fun l wr=> ∃(gg:GrD) (xs:List Int) (A':Option Addr) (cap':Nat),grB gg=true∧R=trimF gg.2.1.toNat gg xs∧xs.length=gg.2.1.toNat∧OwI wr (w1.heap.size+1) l xs∧wr.cell? ⟨w1.heap.size,0,none⟩=some (.int .i64 gg.1)∧wr.cell? ⟨w1.heap.size,1,none⟩=some (.int .i64 gg.2.1)∧wr.cell? ⟨w1.heap.size,2,none⟩=some (.slice A' gg.2.2.length cap')∧(∀j,wr.frozen? ⟨w1.heap.size,j,none⟩=false)∧OwE wr W0.heap.size (.slice A' gg.2.2.length cap') gg.2.2∧(∀b,(Value.slice A' gg.2.2.length cap').ownBlock=some b→l.ownBlock≠some b)∧Below w1.heap.size w1 wr∧w1.heap.size<wr.heap.size) (fun l _=>slN l)
   case atStart=>exact⟨(r,(k:Int),es),rng k,A1,cap1,HGR.out,HT.out,hlk,HO.out,GC0.out,GC1.out,GC2.out,GCF.out,GE.out,fun b hb he=>by have h1:=HLT1.out b hb;have h2:=HO.out.1.lt b he;omega,BB.out,hwlt⟩
   case round=>
    clear HT HO GC0 GC1 GC2 GCF GE BB HLT1
    obtain⟨gg,xs,A',cap',hgg,hR,hxl,hown,hc0,hc1,hc2,hcf,hoe,hne,hbel,hlw⟩:=hrel
    obtain⟨wq,rfl⟩: ∃wq:World,wq=wr:=⟨_,rfl⟩
    obtain⟨hr2,hsz2,hle2,_⟩:=grB_parts hgg
    obtain⟨r2,n2,es2⟩:=gg
    simp only at hR hxl hc0 hc1 hc2 hoe hne hsz2 hle2 hr2
    obtain⟨M,rfl⟩: ∃M:Nat,n2=(M:Int):=⟨n2.toNat,by omega⟩
    simp only[Int.toNat_natCast] at hxl hR
    have hM1:1≤M:=by omega
    have hM2:M≤40:=by omega
    clear hsz2
    have HGG:=hDD hgg
    have HR:=hDD hR
    have HO:=hDD hown
    have HOE:=hDD hoe
    have HNE:=hDD hne
    have HCF:=hDD hcf
    have HBEL:=hDD hbel
    have hs:=hbel.size
    obtain⟨Al,capl,rfl,hlc,hml,_,hf⟩:=OwI.form hown
    obtain⟨gl,rfl,hgl1,hgl2⟩:=hf (by omega)
    have hcapE:es2.length≤cap':=by obtain⟨_,_,e,h1,_⟩:=OwE.form hoe;injection e with _ _ e3;subst e3;exact h1
    have HA:Hid (∀w',Below wq.heap.size wq w'→ArgG w' (.agg #[.int .i64 r2, .int .i64 M, .slice A' es2.length cap']) (r2,(M:Int),es2)):=hDD fun w' hb=>⟨_,rfl,by show I64 r2;unfold I64;omega,by show I64 (M:Int);unfold I64;omega,(HOE.out.below hb).arg⟩
    clear hgg hR hown hoe hne hcf hbel hf
    go_wp2_with fail
    refine(joined_any _ (r2,(M:Int),es2) wq (HA.out _ (Below.refl _ _)) HGG.out).mono ?_
    rintro e wj ⟨rj,rfl,oj,bj⟩
    obtain⟨Aj,capj,rfl,hjc,_,_,hfj⟩:=owns_form oj
    rw[joinL_len] at hfj hjc⊢
    simp only[Int.toNat_natCast] at hfj hjc⊢
    obtain⟨gj,rfl,hgj1,hgj2⟩:=hfj (by omega)
    have sj:=bj.size
    have HJC:Hid (∀k:Nat,k<M→wj.cell? ⟨gj,k,none⟩=some (.bool (hasB (reachL es2 0) k))):=hDD fun k hk=>by
     have h1:=OwB.cellAt oj k (by rw[joinL_len];simpa using hk)
     rw[joinL_get k (by simpa using hk)] at h1
     exact h1
    have HBJ:=hDD bj
    have d0:=hDD ((bj.cell (p:=⟨w1.heap.size,0,none⟩) hlw).trans hc0)
    have d1:=hDD ((bj.cell (p:=⟨w1.heap.size,1,none⟩) hlw).trans hc1)
    have d2:=hDD ((bj.cell (p:=⟨w1.heap.size,2,none⟩) hlw).trans hc2)
    have dF:Hid (∀j,wj.frozen? ⟨w1.heap.size,j,none⟩=false):=hDD fun j=>(bj.frozen (p:=⟨w1.heap.size,j,none⟩) hlw).trans (HCF.out j)
    have hlj:w1.heap.size<wj.heap.size:=by omega
    clear oj bj hfj hc0 hc1 hc2 HCF
    obtain⟨U,hU⟩: ∃U,U=leafV es2 M:=⟨_,rfl⟩
    have HU:=hDD hU
    have HLB:Hid (∀k:Nat,leafB es2 k=(decide (degL es2 k<2)|| !hasB (reachL es2 0) k)):=hDD fun k=>rfl
    clear hU
    go_wp2
    go_loopw [8,9] (fun a i wg=> ∃k:Nat,i= .int .i64 k∧1≤k∧k≤M∧((a= .int .i64 0∧leafFrom es2 M (M-k) k=U)∨(∃u:Nat,a= .int .i64 u∧U=(u:Int)∧1≤u∧u<M∧k=u+1))∧Below wj.heap.size wj wg) (fun _ i _=>M+1-(intOf i).toNat)
    case atStart=>exact⟨1,rfl,Nat.le_refl _,hM1, .inl ⟨rfl,by rw[HU.out];rfl⟩,Below.refl _ _⟩
    case round=>
     obtain⟨k,rfl,hk1,hk,hcase,hbg⟩:=hrel
     have HBG:=hDD hbg
     have hsg:=hbg.size
     have e0:=(hbg.cell (p:=⟨w1.heap.size,0,none⟩) hlj).trans d0.out
     have e1:=(hbg.cell (p:=⟨w1.heap.size,1,none⟩) hlj).trans d1.out
     have e2:=(hbg.cell (p:=⟨w1.heap.size,2,none⟩) hlj).trans d2.out
     clear hbg
     rcases hcase with ⟨rfl,hlf⟩ | ⟨u,rfl,hUu,hu1,huM,rfl⟩
     ·have HLF:=hDD hlf
      clear hlf
      by_cases hlt:k<M
      ·have hj0:=(HBG.out.cell (p:=⟨gj,k,none⟩) hgj2).trans (HJC.out k hlt)
       have LB:=hDD (HLB.out k)
       have hki:(k:Int)<(M:Int):=by omega
       have hdle:degL es2 k≤240:=by have:=degL_le es2 k es2.length;rw[List.take_length] at this;omega
       go_wp2_with fail
       refine(implDegreeOf_any _ (r2,(M:Int),es2) k _ (HA.out _ (HBJ.out.trans (HBG.out.mono sj))) (by simp only;omega)).mono ?_
       rintro e w7 ⟨rfl,b7⟩
       have B7:=hDD b7
       have s7:=b7.size
       have hj7:=(b7.cell (p:=⟨gj,k,none⟩) (by show gj<wr.heap.size;omega)).trans hj0
       clear b7 hj0
       simp only
       generalize degL es2 k=d at*
       by_cases hd:d<2
       ·have hdi:(d:Int)<2:=by omega
        have F:=hDD (leafFrom_hit hlt (by rw[LB.out];simp[hd]))
        go_wp2
        go_roundw
        case rel=>exact⟨k+1,by go_num,by omega,by omega, .inr ⟨k,rfl,by rw[←HLF.out,F.out],hk1,hlt,rfl⟩,HBG.out.trans (B7.out.mono hsg)⟩
        case measure=>simp[intOf];omega
       ·have hdi: ¬(d:Int)<2:=by omega
        rcases h1:hasB (reachL es2 0) k with _ | _
        ·have F:=hDD (leafFrom_hit hlt (by rw[LB.out,h1];simp))
         rw[h1] at hj7
         go_wp2
         go_roundw
         case rel=>exact⟨k+1,by go_num,by omega,by omega, .inr ⟨k,rfl,by rw[←HLF.out,F.out],hk1,hlt,rfl⟩,HBG.out.trans (B7.out.mono hsg)⟩
         case measure=>simp[intOf];omega
        ·have F:=hDD (leafFrom_miss hlt (by rw[LB.out,h1];simp[hd]))
         rw[h1] at hj7
         go_wp2
         go_roundw
         case rel=>exact⟨k+1,by go_num,by omega,by omega, .inl ⟨rfl,by rw[←F.out,HLF.out]⟩,HBG.out.trans (B7.out.mono hsg)⟩
         case measure=>simp[intOf];omega
      ·obtain rfl:k=M:=by omega
       have hUn:U= -1:=by rw[←HLF.out,leafFrom_end]
       have HE:Hid (R=((r2,(k:Int),es2),xs)):=hDD (by rw[HR.out];exact trimF_stop _ (show leafV es2 ((k:Int)).toNat<0 by rw[Int.toNat_natCast,←HU.out,hUn];decide) _)
       have bb:Hid (Below w1.heap.size w1 wr):=hDD (HBEL.out.trans ((HBJ.out.trans (HBG.out.mono sj)).mono (by omega)))
       have rq0:=(bb.out.cell (p:=⟨w.heap.size+1,0,none⟩) hw11).trans RQ0.out
       have rq1:=(bb.out.cell (p:=⟨w.heap.size+1,1,none⟩) hw11).trans RQ1.out
       have rq2:=(bb.out.cell (p:=⟨w.heap.size+1,2,none⟩) hw11).trans RQ2.out
       have rf0:=(bb.out.frozen (p:=⟨w.heap.size+1,0,none⟩) hw11).trans (RQF.out 0)
       have rf1:=(bb.out.frozen (p:=⟨w.heap.size+1,1,none⟩) hw11).trans (RQF.out 1)
       have rf2:=(bb.out.frozen (p:=⟨w.heap.size+1,2,none⟩) hw11).trans (RQF.out 2)
       have ow:=HOE.out.below (HBJ.out.trans (HBG.out.mono sj))
       have ol:=HO.out.below (HBJ.out.trans (HBG.out.mono sj))
       have OW:Hid (OwE (((wr.setCell ⟨w.heap.size+1,0,none⟩ (.int .i64 r2)).setCell ⟨w.heap.size+1,1,none⟩ (.int .i64 k)).setCell ⟨w.heap.size+1,2,none⟩ (.slice A' es2.length cap')) W0.heap.size (.slice A' es2.length cap') es2):=hDD
        (((ow.far (p:=⟨w.heap.size+1,0,none⟩) (by show w.heap.size+1<_;omega) _).far (p:=⟨w.heap.size+1,1,none⟩) (by show w.heap.size+1<_;omega) _).far (p:=⟨w.heap.size+1,2,none⟩) (by show w.heap.size+1<_;omega) _)
       have OL:Hid (OwI (((wr.setCell ⟨w.heap.size+1,0,none⟩ (.int .i64 r2)).setCell ⟨w.heap.size+1,1,none⟩ (.int .i64 k)).setCell ⟨w.heap.size+1,2,none⟩ (.slice A' es2.length cap')) (w1.heap.size+1) (.slice (some ⟨gl,0,none⟩) xs.length capl) xs):=hDD
        (((ol.far (p:=⟨w.heap.size+1,0,none⟩) (by show w.heap.size+1<_;omega) _).far (p:=⟨w.heap.size+1,1,none⟩) (by show w.heap.size+1<_;omega) _).far (p:=⟨w.heap.size+1,2,none⟩) (by show w.heap.size+1<_;omega) _)
       have BBW:=hDD (HB1.out.trans (bb.out.mono (show w.heap.size≤w1.heap.size by omega)))
       clear ow ol
       go_wp2
       obtain⟨c0,c1,c2⟩:=set3_cells wr (w.heap.size+1) (.int .i64 r2) (.int .i64 k) (.slice A' es2.length cap') rq0 rq1 rq2
       have bw:Below w.heap.size w (((wr.setCell ⟨w.heap.size+1,0,none⟩ (.int .i64 r2)).setCell ⟨w.heap.size+1,1,none⟩ (.int .i64 k)).setCell ⟨w.heap.size+1,2,none⟩ (.slice A' es2.length cap')):=(by repeat(first | exact Below.refl _ _ | (refine Below.setCell ?_ (by first | omega | (simp<;>omega)) _) | (refine bel_drewN ?_ _) | (refine Below.drew ?_) | (refine Below.alloc ?_ (by first | omega | (simp<;>omega)) _) | (refine Below.trans ?_ (Below.mono (Hid.out BBW) (by first | omega | (simp<;>omega))))))
       generalize ((wr.setCell ⟨w.heap.size+1,0,none⟩ (.int .i64 r2)).setCell ⟨w.heap.size+1,1,none⟩ (.int .i64 k)).setCell ⟨w.heap.size+1,2,none⟩ (.slice A' es2.length cap')=wf at*
       refine bodyPost_ret (v:= .tuple #[.agg #[.int .i64 r2, .int .i64 k, .slice A' es2.length cap'], .slice (some ⟨gl,0,none⟩) xs.length capl]) (by simp[results,Tryz.results128,go_sem,c0,c1,c2,hxl]) rfl ⟨_,_,rfl,?_,?_,bw⟩
       ·rw[HE.out]
        refine⟨.slice A' es2.length cap',rfl,?_,?_,OW.out.mono (by omega)⟩
        ·show I64 r2
         unfold I64
         omega
        ·show I64 (k:Int)
         unfold I64
         omega
       ·rw[HE.out]
        exact OL.out.mono (by omega)
     ·obtain⟨wg,rfl⟩: ∃wg:World,wg=wr:=⟨_,rfl⟩
      have HUu:Hid (leafV es2 M=(u:Int)):=hDD (by rw[←HU.out,hUu])
      have hok:OrdOk (M:Int) (delO M u):=delO_ok hM1 (by omega)
      have HOK:=hDD hok
      have hdl:(delO M u).length=M-1:=by rw[delO_len2,if_pos (by omega)]
      have HRN:Hid (rnG (r2,(M:Int),es2) (delO M u)=(r2,((M-1:Nat):Int),srt cmpE (rnL es2 (delO M u)))):=hDD (by rw[←hdl];rfl)
      have HR2:Hid (R=trimF (M-1) (r2,((M-1:Nat):Int),srt cmpE (rnL es2 (delO M u))) (xs.take u++xs.drop (u+1))):=hDD (by
       have h1:=trimF_step (g:=(r2,(M:Int),es2)) (u:=u) xs (by simpa using HUu.out) (by simpa using huM)
       simp only[Int.toNat_natCast] at h1
       rw[HRN.out] at h1
       simp only[Int.toNat_natCast] at h1
       rw[HR.out,h1])
      have HGB:Hid (grB (r2,((M-1:Nat):Int),srt cmpE (rnL es2 (delO M u)))=true):=hDD (by rw[←HRN.out];exact grB_rnG HGG.out hok)
      have hw5:(wg.alloc (Obj.cells #[] 3)).heap.size=wg.heap.size+1:=by simp
      have o5:OwI (wg.alloc (Obj.cells #[] 3)) wg.heap.size (.slice (some ⟨wg.heap.size,0,none⟩) 0 0) (delO 0 u):=OwI_lit wg [] (fun _ h=>by cases h) (by simp) (Nat.le_refl _)
      have O5:=hDD o5
      have B5:Hid (Below wg.heap.size wg (wg.alloc (Obj.cells #[] 3))):=hDD (by repeat(first | exact Below.refl _ _ | (refine Below.setCell ?_ (by first | omega | (simp<;>omega)) _) | (refine bel_drewN ?_ _) | (refine Below.drew ?_) | (refine Below.alloc ?_ (by first | omega | (simp<;>omega)) _)))
      have HW5:=hDD hw5
      have E0:=hDD e0
      have E1:=hDD e1
      have E2:=hDD e2
      have EF:Hid (∀j,wg.frozen? ⟨w1.heap.size,j,none⟩=false):=hDD fun j=>(HBG.out.frozen (p:=⟨w1.heap.size,j,none⟩) hlj).trans (dF.out j)
      have hlg:w1.heap.size<wg.heap.size:=by omega
      have g0:((u:Int)==0)=false:=by rw[beq_eq_false_iff_ne];omega
      clear hok o5 hw5 hUu hdl
      obtain⟨kk,hkk⟩: ∃kk:Int,((u+1:Nat):Int)=kk:=⟨_,rfl⟩
      rw[hkk]
      have hqc:kk<(M:Int)∨ ¬kk<(M:Int):=by omega
      clear hk hk1 hkk
      rcases hqc with hq | hq
      all_goals
       go_wp2
       generalize wg.alloc (Obj.cells #[] 3)=W5 at O5 B5 HW5⊢
       go_loopw [10,11] (fun o i wo=> ∃k:Nat,k≤M∧i= .int .i64 k∧OwI wo wg.heap.size o (delO k u)∧Below wg.heap.size wg wo) (fun _ i _=>M-(intOf i).toNat)
       case atStart=>exact⟨0,Nat.zero_le _,rfl,O5.out,B5.out⟩
       case round=>
        obtain⟨k,hk,rfl,hown,hbo⟩:=hrel
        have HOO:=hDD hown
        have HBO:=hDD hbo
        have hso:=hbo.size
        have e1':=(hbo.cell (p:=⟨w1.heap.size,1,none⟩) hlg).trans E1.out
        have e0':=(hbo.cell (p:=⟨w1.heap.size,0,none⟩) hlg).trans E0.out
        have e2':=(hbo.cell (p:=⟨w1.heap.size,2,none⟩) hlg).trans E2.out
        obtain⟨Ao,capo,rfl,_⟩:=OwI.form hown
        clear hown hbo
        by_cases hlt:k<M
        ·by_cases hku:k=u
         ·subst hku
          have F:Hid (delO (k+1) (k:Int)=delO k (k:Int)):=hDD (by rw[delO_succ];simp)
          go_wp2
          go_roundw
          case rel=>exact⟨k+1,by omega,by go_num,by rw[F.out];exact HOO.out,HBO.out⟩
          case measure=>simp[intOf];omega
         ·have hne1: ¬(k:Int)=(u:Int):=by omega
          have F:Hid (delO (k+1) (u:Int)=delO k (u:Int)++ [(k:Int)]):=hDD (by rw[delO_succ,if_pos hne1])
          have HK:Hid (I64 (k:Int)):=hDD ⟨by omega,by omega⟩
          have hdk:(delO k (u:Int)).length≤40:=by rw[delO_len2];split<;>omega
          go_wp2_with (at_builtin;refine push_int rfl (.tmp 68) (.tmp 70) rfl _ _ _ (OwI.alloc HOO.out _) rfl _ _ rfl (cell_new1 _ _ _) HK.out (by first | omega | (simp<;>omega)) (by first | omega | (simp<;>omega)) ?_;intro v9 wv9 o9 g9 p9)
          go_roundw
          case rel=>exact⟨k+1,by omega,by go_num,by rw[F.out];exact o9,bel_push HBO.out (by omega) HOO.out.1 (Nat.le_refl _) g9⟩
          case measure=>simp[intOf];omega
        ·obtain rfl:k=M:=by omega
         go_wp2_with fail
         refine(part_any _ _ (r2,(k:Int),es2) (delO k u) _ (HA.out _ ((HBJ.out.trans (HBG.out.mono sj)).trans (HBO.out.mono (by omega)))) HOO.out.rd HGG.out HOK.out).mono ?_
         rintro e w6 ⟨r6,rfl,o6,b6⟩
         rw[HRN.out] at o6
         obtain⟨s6,rfl,_,_,oe6⟩:=o6
         simp only at oe6⊢
         generalize srt cmpE (rnL es2 (delO k (u:Int)))=es6 at*
         generalize hm:k-1=m at*
         have HM:=hDD hm
         clear hm
         have B6:=hDD b6
         have s6':=b6.size
         have OE6:=hDD oe6
         obtain⟨A6,cap6,rfl,hcap6,hm6,_⟩:=OwE.form oe6
         have hE6: ∀b,(Value.slice A6 es6.length cap6).ownBlock=some b→wr.heap.size≤b∧b<w6.heap.size:=fun b hb=>oe6.1.lt b hb
         have HE6:=hDD hE6
         have f0:=(b6.cell (p:=⟨w1.heap.size,0,none⟩) (by show w1.heap.size<wr.heap.size;omega)).trans e0'
         have f1:=(b6.cell (p:=⟨w1.heap.size,1,none⟩) (by show w1.heap.size<wr.heap.size;omega)).trans e1'
         have f2:=(b6.cell (p:=⟨w1.heap.size,2,none⟩) (by show w1.heap.size<wr.heap.size;omega)).trans e2'
         have FF:Hid (∀j,w6.frozen? ⟨w1.heap.size,j,none⟩=false):=hDD fun j=>(b6.frozen (p:=⟨w1.heap.size,j,none⟩) (by show w1.heap.size<wr.heap.size;omega)).trans ((HBO.out.frozen (p:=⟨w1.heap.size,j,none⟩) hlg).trans (EF.out j))
         have ff0:=FF.out 0
         have ff1:=FF.out 1
         have ff2:=FF.out 2
         clear oe6 b6 hE6 e0' e1' e2'
         go_wp2
         obtain⟨c0,c1,c2⟩:=set3_cells w6 w1.heap.size (.int .i64 r2) (.int .i64 m) (.slice A6 es6.length cap6) f0 f1 f2
         have hB6:Hid (Below wq.heap.size wq w6):=hDD ((HBJ.out.trans (HBG.out.mono sj)).trans (((HBO.out.trans (B6.out.mono (by omega)))).mono (by omega)))
         have ol7:OwI (((w6.setCell ⟨w1.heap.size,0,none⟩ (.int .i64 r2)).setCell ⟨w1.heap.size,1,none⟩ (.int .i64 m)).setCell ⟨w1.heap.size,2,none⟩ (.slice A6 es6.length cap6)) (w1.heap.size+1) (.slice (some ⟨gl,0,none⟩) xs.length capl) xs:=
          ((((HO.out.below hB6.out).far (p:=⟨w1.heap.size,0,none⟩) (by show w1.heap.size<_;omega) _).far (p:=⟨w1.heap.size,1,none⟩) (by show w1.heap.size<_;omega) _).far (p:=⟨w1.heap.size,2,none⟩) (by show w1.heap.size<_;omega) _)
         have oe7:OwE (((w6.setCell ⟨w1.heap.size,0,none⟩ (.int .i64 r2)).setCell ⟨w1.heap.size,1,none⟩ (.int .i64 m)).setCell ⟨w1.heap.size,2,none⟩ (.slice A6 es6.length cap6)) wr.heap.size (.slice A6 es6.length cap6) es6:=
          (((OE6.out.far (p:=⟨w1.heap.size,0,none⟩) (by show w1.heap.size<_;omega) _).far (p:=⟨w1.heap.size,1,none⟩) (by show w1.heap.size<_;omega) _).far (p:=⟨w1.heap.size,2,none⟩) (by show w1.heap.size<_;omega) _)
         have hb7:Below w1.heap.size w1 (((w6.setCell ⟨w1.heap.size,0,none⟩ (.int .i64 r2)).setCell ⟨w1.heap.size,1,none⟩ (.int .i64 m)).setCell ⟨w1.heap.size,2,none⟩ (.slice A6 es6.length cap6)):=
          (((HBEL.out.trans (hB6.out.mono (by omega))).setCell (p:=⟨w1.heap.size,0,none⟩) (by show w1.heap.size≤_;exact Nat.le_refl _) _).setCell (p:=⟨w1.heap.size,1,none⟩) (by show w1.heap.size≤_;exact Nat.le_refl _) _).setCell (p:=⟨w1.heap.size,2,none⟩) (by show w1.heap.size≤_;exact Nat.le_refl _) _
         have fz7: ∀j,(((w6.setCell ⟨w1.heap.size,0,none⟩ (.int .i64 r2)).setCell ⟨w1.heap.size,1,none⟩ (.int .i64 m)).setCell ⟨w1.heap.size,2,none⟩ (.slice A6 es6.length cap6)).frozen? ⟨w1.heap.size,j,none⟩=false:=fun j=>by
          rw[World.frozen?_setCell,World.frozen?_setCell,World.frozen?_setCell];exact FF.out j
         have sz7:(((w6.setCell ⟨w1.heap.size,0,none⟩ (.int .i64 r2)).setCell ⟨w1.heap.size,1,none⟩ (.int .i64 m)).setCell ⟨w1.heap.size,2,none⟩ (.slice A6 es6.length cap6)).heap.size=w6.heap.size:=by simp
         generalize ((w6.setCell ⟨w1.heap.size,0,none⟩ (.int .i64 r2)).setCell ⟨w1.heap.size,1,none⟩ (.int .i64 m)).setCell ⟨w1.heap.size,2,none⟩ (.slice A6 es6.length cap6)=w7 at*
         have OL7:=hDD ol7
         have OE7:=hDD oe7
         have HB7:=hDD hb7
         have FZ7:=hDD fz7
         have C0:=hDD c0
         have C1:=hDD c1
         have C2:=hDD c2
         have hx1:u≤xs.length:=by omega
         have hx2:u+1≤xs.length:=by omega
         have OC:=hDD (owI_cut ol7 hx1)
         have RC:=hDD (RdI.cut (k:=u+1) (A:=some ⟨gl,0,none⟩) (cap:=capl) ol7.rd rfl hx2)
         clear ol7 oe7 hb7 fz7 c0 c1 c2 f0 f1 f2 ff0 ff1 ff2 FF
         have z1:(0:Int)≤(u:Int):=by omega
         have z2:(u:Int)≤(capl:Int):=by omega
         have z3:(u:Int)+1≤(k:Int):=by omega
         have z4:(k:Int)≤(capl:Int):=by omega
         have z5:(0:Int)≤(u:Int)+1:=by omega
         have z6:(u:Int)+1≤(capl:Int):=by omega
         have zw:IntKind.i64.wrap ((u:Int)+1)=(u:Int)+1:=by rw[IntKind.wrap_i64];omega
         have HC:Hid (∀(v9:Value) (w9:World),OwI w9 (w1.heap.size+1) v9 (xs.take u++xs.drop (u+1))→w7.drew.grownBy w9 (Value.slice (some ⟨gl,0,none⟩) u capl).ownBlock→(v9.ownBlock=(Value.slice (some ⟨gl,0,none⟩) u capl).ownBlock∨v9.ownBlock=some w7.drew.heap.size)→
           (∃(gg:GrD) (xs:List Int) (A':Option Addr) (cap':Nat),grB gg=true∧R=trimF gg.2.1.toNat gg xs∧xs.length=gg.2.1.toNat∧OwI w9 (w1.heap.size+1) v9 xs∧w9.cell? ⟨w1.heap.size,0,none⟩=some (.int .i64 gg.1)∧w9.cell? ⟨w1.heap.size,1,none⟩=some (.int .i64 gg.2.1)∧w9.cell? ⟨w1.heap.size,2,none⟩=some (.slice A' gg.2.2.length cap')∧(∀j,w9.frozen? ⟨w1.heap.size,j,none⟩=false)∧OwE w9 W0.heap.size (.slice A' gg.2.2.length cap') gg.2.2∧(∀b,(Value.slice A' gg.2.2.length cap').ownBlock=some b→v9.ownBlock≠some b)∧Below w1.heap.size w1 w9∧w1.heap.size<w9.heap.size)∧slN v9<k):=hDD (by
          intro v9 w9 o9 g9 p9
          have g9b: ∀b,b<w7.heap.size→b≠gl→w9.heap[b]? =w7.heap[b]? :=fun b hb hne=>g9.block b hb fun e=>hne (by simpa[Value.ownBlock] using e)
          have hs9:w7.heap.size≤w9.heap.size:=g9.size
          have hln:(xs.take u++xs.drop (u+1)).length=m:=by
           have:=HM.out
           rw[List.length_append,List.length_take,List.length_drop]
           omega
          have hb9:Below w1.heap.size w1 w9:=(HB7.out.drew).grown g9 (by show w1.heap.size≤w7.heap.size;omega) fun x hx=>by simp[Value.ownBlock] at hx;omega
          have cc: ∀o,w9.cell? ⟨w1.heap.size,o,none⟩=w7.cell? ⟨w1.heap.size,o,none⟩:=fun o=>World.cell?_of_block (g9b w1.heap.size (by omega) (by omega))
          have cf: ∀o,w9.frozen? ⟨w1.heap.size,o,none⟩=w7.frozen? ⟨w1.heap.size,o,none⟩:=fun o=>World.frozen?_of_block (g9b w1.heap.size (by omega) (by omega))
          obtain⟨A9,cap9,hv9,_⟩:=OwI.form o9
          refine⟨⟨(r2,(m:Int),es6),xs.take u++xs.drop (u+1),A6,cap6,HGB.out,by rw[HR2.out];simp,by rw[hln];simp,o9,(cc 0).trans C0.out,(cc 1).trans C1.out,(cc 2).trans C2.out,fun j=>(cf j).trans (FZ7.out j),(OE7.out.keep fun b hb=>g9b b (by have:=HE6.out b hb;omega) (by have:=HE6.out b hb;omega)).mono (by omega),fun b hb he=> ?_,hb9,by omega⟩,?_⟩
          ·have h1:=HE6.out b hb
           rcases p9 with p9 | p9
           ·rw[p9] at he
            simp[Value.ownBlock] at he
            omega
           ·rw[p9] at he
            have h2:w7.heap.size=b:=by simpa using he
            omega
          ·rw[hv9,hln]
           show m<k
           have:=HM.out
           omega)
         by_cases hcu:capl=u+1
         ·have RC':Hid (RdI w7 (.slice (some ⟨gl,0,none⟩) (k-(u+1)) 0) (xs.drop (u+1))):=hDD (by
           have h1:=RC.out
           rw[if_pos hcu,hxl,show capl-(u+1)=0 by omega] at h1
           exact h1)
          clear RC
          subst hcu
          have y1:(u:Int)≤(u:Int)+1:=by omega
          have y2:(k:Int)≤(u:Int)+1:=by omega
          clear z2 z4 z6
          go_region_held3 (fun w'=>True) (trivial)
           (first | (refine step_append_ints rfl (.tmp 77) (.tmp 81) rfl (w1.heap.size+1) _ (xs.take u) (OwI.drew OC.out) (by rfl) _ (xs.drop (u+1)) ?_ (by rfl) (by simp only[List.length_take,List.length_drop];omega) (by show _≤w7.heap.size;omega) ?_;(exact RC'.out.drew);intro v9 w9 o9 g9 p9;have X9:=hDD (HC.out v9 w9 o9 g9 p9);clear o9 g9 p9))
          clear HC
          obtain⟨X1,X2⟩:=X9.out
          clear X9
          have HX1:=hDD X1
          clear X1
          go_wp2
          go_roundw
          case rel=>exact HX1.out
          case measure=>(show slN v9<xs.length;omega)
         ·have RC':Hid (RdI w7 (.slice (some ⟨gl,u+1,none⟩) (k-(u+1)) (capl-(u+1))) (xs.drop (u+1))):=hDD (by
           have h1:=RC.out
           rw[if_neg hcu,hxl] at h1
           simpa[Addr.add] using h1)
          go_region_held3 (fun w'=>True) (trivial)
           (first | (refine step_append_ints rfl (.tmp 77) (.tmp 81) rfl (w1.heap.size+1) _ (xs.take u) (OwI.drew OC.out) (by rfl) _ (xs.drop (u+1)) ?_ (by rfl) (by simp only[List.length_take,List.length_drop];omega) (by show _≤w7.heap.size;omega) ?_;(exact RC'.out.drew);intro v9 w9 o9 g9 p9;have X9:=hDD (HC.out v9 w9 o9 g9 p9);clear o9 g9 p9))
          clear HC
          obtain⟨X1,X2⟩:=X9.out
          clear X9
          have HX1:=hDD X1
          clear X1
          go_wp2
          go_roundw
          case rel=>exact HX1.out
          case measure=>(show slN v9<xs.length;omega)
end Go.Proofs.YtlgcflpaekbopaaGreat
namespace Go.Proofs.YtlgcflpaekbopaaGreat
set_option maxRecDepth 20000
set_option linter.unusedVariables false
set_option linter.unusedSimpArgs false
open Go.RowKit
set_option maxHeartbeats 1000000 in
theorem canonicalOrder_any (v:Value) (g:GrD) (w:World) (h:ArgG w v g) (hf:foldB g=true):
  Calls Tryz.prog 156 #[v] w fun e w'=> ∃r,e= .returned r∧OwI w' w.heap.size r (canO g)∧Below w.heap.size w w':=by
 have HG:=hDD h
 have HF:=hDD hf
 obtain⟨s,rfl,hi1,hi2,ha⟩:=h
 clear hf ha
 go_enter Tryz.func156,Tryz.ntmps156
 go_wp2_with fail
 have bx:Below w.heap.size w (w.alloc (Obj.cells #[Value.int IntKind.i64 g.1,Value.int IntKind.i64 g.2.1,s] 82)):=(by repeat(first | exact Below.refl _ _ | (refine Below.setCell ?_ (by first | omega | (simp<;>omega)) _) | (refine bel_drewN ?_ _) | (refine Below.drew ?_) | (refine Below.alloc ?_ (by first | omega | (simp<;>omega)) _)))
 have l0:(w.alloc (Obj.cells #[Value.int IntKind.i64 g.1,Value.int IntKind.i64 g.2.1,s] 82)).cell? ⟨w.heap.size,0,none⟩=some (.int .i64 g.1):=by simp[go_sem]
 have l1:(w.alloc (Obj.cells #[Value.int IntKind.i64 g.1,Value.int IntKind.i64 g.2.1,s] 82)).cell? ⟨w.heap.size,1,none⟩=some (.int .i64 g.2.1):=by simp[go_sem]
 have l2:(w.alloc (Obj.cells #[Value.int IntKind.i64 g.1,Value.int IntKind.i64 g.2.1,s] 82)).cell? ⟨w.heap.size,2,none⟩=some s:=by simp[go_sem]
 have sA:w.heap.size<(w.alloc (Obj.cells #[Value.int IntKind.i64 g.1,Value.int IntKind.i64 g.2.1,s] 82)).heap.size:=by simp
 generalize w.alloc (Obj.cells #[Value.int IntKind.i64 g.1,Value.int IntKind.i64 g.2.1,s] 82)=W at bx l0 l1 l2 sA⊢
 have hif:=implIsFolded_any _ g W (HG.out.below bx)
 rw[HF.out] at hif
 have HIF:=hDD hif
 have BX:=hDD bx
 clear hif bx
 refine HIF.out.mono ?_
 rintro e w1 ⟨rfl,b1⟩
 have q0:=(b1.cell (p:=⟨w.heap.size,0,none⟩) sA).trans l0
 have q1:=(b1.cell (p:=⟨w.heap.size,1,none⟩) sA).trans l1
 have q2:=(b1.cell (p:=⟨w.heap.size,2,none⟩) sA).trans l2
 have BB:Hid (Below w.heap.size w w1):=hDD (BX.out.trans (b1.mono BX.out.size))
 clear b1 HIF l0 l1 l2
 go_wp2_with fail
 refine(tree_any _ g w1 (HG.out.below BB.out) HF.out).mono ?_
 rintro e w2 ⟨r2,s2,rfl,o2,b2⟩
 have O2:=hDD (o2.mono (BB.out.size))
 have B2:=hDD (BB.out.trans (b2.mono BB.out.size))
 clear o2 b2 q0 q1 q2
 go_wp2
 exact bodyPost_ret (v:=r2) (by simp[results,Tryz.results156]) rfl ⟨_,rfl,O2.out,B2.out⟩
set_option maxHeartbeats 1000000 in
theorem canonicalGraph_any (v:Value) (g:GrD) (w:World) (h:ArgG w v g) (hf:foldB g=true):
  Calls Tryz.prog 129 #[v] w fun e w'=> ∃r,e= .returned r∧OwG w' w.heap.size r (canG g)∧Below w.heap.size w w':=by
 have HG:=hDD h
 have HF:=hDD hf
 obtain⟨hg,_⟩:=foldB_parts hf
 have HGR:=hDD hg
 have HOK:=hDD (canO_ok hg)
 have HCG:Hid (canG g=rnG g (canO g)):=hDD rfl
 generalize canG g=cg at*
 obtain⟨s,rfl,hi1,hi2,ha⟩:=h
 obtain⟨A,cap,rfl⟩:=ha.form
 clear hf hg ha
 go_enter Tryz.func129,Tryz.ntmps129
 go_wp2_with fail
 have bx:Below w.heap.size w ((w.alloc (Obj.cells #[Value.int IntKind.i64 g.1,Value.int IntKind.i64 g.2.1, .slice A g.2.2.length cap] 82)).alloc (Obj.cells #[Value.int IntKind.i64 0,Value.int IntKind.i64 0, .slice none 0 0] 82)):=(by repeat(first | exact Below.refl _ _ | (refine Below.setCell ?_ (by first | omega | (simp<;>omega)) _) | (refine bel_drewN ?_ _) | (refine Below.drew ?_) | (refine Below.alloc ?_ (by first | omega | (simp<;>omega)) _)))
 obtain⟨W0,hW0⟩: ∃W,W=(w.alloc (Obj.cells #[Value.int IntKind.i64 g.1,Value.int IntKind.i64 g.2.1, .slice A g.2.2.length cap] 82)).alloc (Obj.cells #[Value.int IntKind.i64 0,Value.int IntKind.i64 0, .slice none 0 0] 82):=⟨_,rfl⟩
 rw[←hW0] at bx⊢
 have hsW:W0.heap.size=w.heap.size+1+1:=by rw[hW0];simp
 have B0:W0.cell? ⟨w.heap.size,0,none⟩=some (.int .i64 g.1):=by rw[hW0];simp[go_sem]
 have B1:W0.cell? ⟨w.heap.size,1,none⟩=some (.int .i64 g.2.1):=by rw[hW0];simp[go_sem]
 have B2:W0.cell? ⟨w.heap.size,2,none⟩=some (.slice A g.2.2.length cap):=by rw[hW0];simp[go_sem]
 have R0:Hid (W0.cell? ⟨w.heap.size+1,0,none⟩=some (.int .i64 0)):=hDD (by rw[hW0];simp[go_sem])
 have R1:Hid (W0.cell? ⟨w.heap.size+1,1,none⟩=some (.int .i64 0)):=hDD (by rw[hW0];simp[go_sem])
 have R2:Hid (W0.cell? ⟨w.heap.size+1,2,none⟩=some (.slice none 0 0)):=hDD (by rw[hW0];simp[go_sem])
 have RF:Hid (∀j,W0.frozen? ⟨w.heap.size+1,j,none⟩=false):=hDD fun j=>by rw[hW0];simp[go_sem]
 clear hW0
 have HSW:=hDD hsW
 have hl0:w.heap.size<W0.heap.size:=by omega
 have hl1:w.heap.size+1<W0.heap.size:=by omega
 clear hsW
 have BX:=hDD bx
 have HA:Hid (∀w',Below W0.heap.size W0 w'→ArgG w' (.agg #[.int .i64 g.1, .int .i64 g.2.1, .slice A g.2.2.length cap]) g):=hDD fun w' hb=>HG.out.below (BX.out.trans (hb.mono (by omega)))
 have hif:=implIsFolded_any _ g W0 (HA.out _ (Below.refl _ _))
 rw[HF.out] at hif
 have HIF:=hDD hif
 clear hif bx
 refine HIF.out.mono ?_
 rintro e w1 ⟨rfl,b1⟩
 have q0:=(b1.cell (p:=⟨w.heap.size,0,none⟩) hl0).trans B0
 have q1:=(b1.cell (p:=⟨w.heap.size,1,none⟩) hl0).trans B1
 have q2:=(b1.cell (p:=⟨w.heap.size,2,none⟩) hl0).trans B2
 have BB:=hDD b1
 have C0:=hDD B0
 have C1:=hDD B1
 have C2:=hDD B2
 clear b1 HIF B0 B1 B2
 go_wp2_with fail
 go_region_held3 (fun w'=>w'.cell? ⟨w.heap.size,0,none⟩=some (.int .i64 g.1)∧w'.cell? ⟨w.heap.size,1,none⟩=some (.int .i64 g.2.1)∧w'.cell? ⟨w.heap.size,2,none⟩=some (.slice A g.2.2.length cap))
  (first | exact⟨k0,k1,k2⟩ | go_keep)
  (first
   | (go_at_call 156;refine(canonicalOrder_any _ g _ (HA.out _ BB.out.drew) HF.out).mono ?_;rintro e' w2 ⟨r2,rfl,o2,b2⟩;have O2:=hDD o2;have B2:=hDD (BB.out.drew.trans (b2.mono BB.out.size));have k0:=(B2.out.cell (p:=⟨w.heap.size,0,none⟩) hl0).trans C0.out;have k1:=(B2.out.cell (p:=⟨w.heap.size,1,none⟩) hl0).trans C1.out;have k2:=(B2.out.cell (p:=⟨w.heap.size,2,none⟩) hl0).trans C2.out;clear o2 b2 q0 q1 q2)
   | (go_at_call 155;refine(part_any _ _ g (canO g) _ (HA.out _ B2.out) O2.out.rd HGR.out HOK.out).mono ?_;rintro e' w3 ⟨r3,rfl,o3,b3⟩;have s2:=B2.out.size;have B3:=hDD (B2.out.trans (b3.mono s2));obtain⟨s3,rfl,i1,i2,oe3⟩:=o3;obtain⟨A3,cap3,rfl,_⟩:=OwE.form oe3;have OE3:=hDD (oe3.mono s2);have I1:=hDD i1;have I2:=hDD i2;have k0:=(B3.out.cell (p:=⟨w.heap.size,0,none⟩) hl0).trans C0.out;have k1:=(B3.out.cell (p:=⟨w.heap.size,1,none⟩) hl0).trans C1.out;have k2:=(B3.out.cell (p:=⟨w.heap.size,2,none⟩) hl0).trans C2.out;have rr0:=(B3.out.cell (p:=⟨w.heap.size+1,0,none⟩) hl1).trans R0.out;have rr1:=(B3.out.cell (p:=⟨w.heap.size+1,1,none⟩) hl1).trans R1.out;have rr2:=(B3.out.cell (p:=⟨w.heap.size+1,2,none⟩) hl1).trans R2.out;have rf0:=(B3.out.frozen (p:=⟨w.heap.size+1,0,none⟩) hl1).trans (RF.out 0);have rf1:=(B3.out.frozen (p:=⟨w.heap.size+1,1,none⟩) hl1).trans (RF.out 1);have rf2:=(B3.out.frozen (p:=⟨w.heap.size+1,2,none⟩) hl1).trans (RF.out 2);clear b3 oe3 i1 i2))
 obtain⟨c0,c1,c2⟩:=set3_cells w3 (w.heap.size+1) (.int .i64 (rnG g (canO g)).1) (.int .i64 (rnG g (canO g)).2.1) (.slice A3 (rnG g (canO g)).2.2.length cap3) rr0 rr1 rr2
 have HB3:Hid (Below w.heap.size w w3):=hDD (BX.out.trans (B3.out.mono BX.out.size))
 have bw:Below w.heap.size w (((w3.setCell ⟨w.heap.size+1,0,none⟩ (.int .i64 (rnG g (canO g)).1)).setCell ⟨w.heap.size+1,1,none⟩ (.int .i64 (rnG g (canO g)).2.1)).setCell ⟨w.heap.size+1,2,none⟩ (.slice A3 (rnG g (canO g)).2.2.length cap3)):=(by repeat(first | exact Below.refl _ _ | (refine Below.setCell ?_ (by first | omega | (simp<;>omega)) _) | (refine bel_drewN ?_ _) | (refine Below.drew ?_) | (refine Below.alloc ?_ (by first | omega | (simp<;>omega)) _) | (refine Below.trans ?_ (Below.mono (Hid.out HB3) (by first | omega | (simp<;>omega))))))
 have ow:OwE (((w3.setCell ⟨w.heap.size+1,0,none⟩ (.int .i64 (rnG g (canO g)).1)).setCell ⟨w.heap.size+1,1,none⟩ (.int .i64 (rnG g (canO g)).2.1)).setCell ⟨w.heap.size+1,2,none⟩ (.slice A3 (rnG g (canO g)).2.2.length cap3)) W0.heap.size (.slice A3 (rnG g (canO g)).2.2.length cap3) (rnG g (canO g)).2.2:=
  ((OE3.out.far (p:=⟨w.heap.size+1,0,none⟩) hl1 _).far (p:=⟨w.heap.size+1,1,none⟩) hl1 _).far (p:=⟨w.heap.size+1,2,none⟩) hl1 _
 generalize ((w3.setCell ⟨w.heap.size+1,0,none⟩ (.int .i64 (rnG g (canO g)).1)).setCell ⟨w.heap.size+1,1,none⟩ (.int .i64 (rnG g (canO g)).2.1)).setCell ⟨w.heap.size+1,2,none⟩ (.slice A3 (rnG g (canO g)).2.2.length cap3)=wf at*
 go_wp2
 refine bodyPost_ret (v:= .agg #[.int .i64 (rnG g (canO g)).1, .int .i64 (rnG g (canO g)).2.1, .slice A3 (rnG g (canO g)).2.2.length cap3]) (by simp[results,Tryz.results129,go_sem,c0,c1,c2]) rfl ⟨_,rfl,?_,bw⟩
 rw[HCG.out]
 exact⟨_,rfl,I1.out,I2.out,ow.mono (by omega)⟩
set_option maxHeartbeats 1000000 in
theorem implIsCore_any (v:Value) (g:GrD) (w:World) (h:ArgG w v g):
  Calls Tryz.prog 106 #[v] w fun e w'=>e= .returned (.bool (coreB g))∧Below w.heap.size w w':=by
 have HG:=hDD h
 obtain⟨s,rfl,hi1,hi2,ha⟩:=h
 obtain⟨A,cap,rfl⟩:=ha.form
 have HC:Hid (coreB g=(foldB g&&decide (leafV g.2.2 g.2.1.toNat<0)&&decide (canG g=g))):=hDD rfl
 generalize coreB g=cb at*
 clear ha
 go_enter Tryz.func106,Tryz.ntmps106
 go_wp2_with fail
 have bx:Below w.heap.size w (w.alloc (Obj.cells #[Value.int IntKind.i64 g.1,Value.int IntKind.i64 g.2.1, .slice A g.2.2.length cap] 82)):=(by repeat(first | exact Below.refl _ _ | (refine Below.setCell ?_ (by first | omega | (simp<;>omega)) _) | (refine bel_drewN ?_ _) | (refine Below.drew ?_) | (refine Below.alloc ?_ (by first | omega | (simp<;>omega)) _)))
 have l0:(w.alloc (Obj.cells #[Value.int IntKind.i64 g.1,Value.int IntKind.i64 g.2.1, .slice A g.2.2.length cap] 82)).cell? ⟨w.heap.size,0,none⟩=some (.int .i64 g.1):=by simp[go_sem]
 have l1:(w.alloc (Obj.cells #[Value.int IntKind.i64 g.1,Value.int IntKind.i64 g.2.1, .slice A g.2.2.length cap] 82)).cell? ⟨w.heap.size,1,none⟩=some (.int .i64 g.2.1):=by simp[go_sem]
 have l2:(w.alloc (Obj.cells #[Value.int IntKind.i64 g.1,Value.int IntKind.i64 g.2.1, .slice A g.2.2.length cap] 82)).cell? ⟨w.heap.size,2,none⟩=some (.slice A g.2.2.length cap):=by simp[go_sem]
 have sA:w.heap.size<(w.alloc (Obj.cells #[Value.int IntKind.i64 g.1,Value.int IntKind.i64 g.2.1, .slice A g.2.2.length cap] 82)).heap.size:=by simp
 generalize w.alloc (Obj.cells #[Value.int IntKind.i64 g.1,Value.int IntKind.i64 g.2.1, .slice A g.2.2.length cap] 82)=W at bx l0 l1 l2 sA⊢
 have BX:=hDD bx
 have HA:Hid (∀w',Below W.heap.size W w'→ArgG w' (.agg #[.int .i64 g.1, .int .i64 g.2.1, .slice A g.2.2.length cap]) g):=hDD fun w' hb=>HG.out.below (BX.out.trans (hb.mono (by omega)))
 clear bx
 refine(implIsFolded_any _ g W (HA.out _ (Below.refl _ _))).mono ?_
 rintro e w1 ⟨rfl,b1⟩
 have BW:=hDD b1
 have q0:=(b1.cell (p:=⟨w.heap.size,0,none⟩) sA).trans l0
 have q1:=(b1.cell (p:=⟨w.heap.size,1,none⟩) sA).trans l1
 have q2:=(b1.cell (p:=⟨w.heap.size,2,none⟩) sA).trans l2
 have L0:=hDD l0
 have L1:=hDD l1
 have L2:=hDD l2
 clear b1 l0 l1 l2
 rcases e1:foldB g with _ | _
 ·have HR:Hid (cb=false):=hDD (by rw[HC.out,e1];rfl)
  clear e1
  go_wp2
  exact bodyPost_ret (v:= .bool false) (by simp[results,Tryz.results106]) rfl ⟨by rw[HR.out],BX.out.trans (BW.out.mono (Nat.le_of_lt sA))⟩
 ·have HF:=hDD e1
  have hg:=(foldB_parts e1).1
  have HGR:=hDD hg
  have HTS:=hDD (trimG_size hg)
  go_wp2_with fail
  refine(trimGraph_any _ g w1 (HA.out _ BW.out) HGR.out).mono ?_
  rintro e w2 ⟨rt,lt,rfl,ot,ol,b2⟩
  have s1:=BW.out.size
  have B2:=hDD (BW.out.trans (b2.mono s1))
  have s2:=B2.out.size
  generalize trimG g=T at*
  obtain⟨⟨t0,t1,t2⟩,tl⟩:=T
  obtain⟨st,rfl,_,_,oe⟩:=ot
  obtain⟨At,capt,rfl,_⟩:=OwE.form oe
  simp only at HTS⊢
  have k0:=(B2.out.cell (p:=⟨w.heap.size,0,none⟩) sA).trans L0.out
  have k1:=(B2.out.cell (p:=⟨w.heap.size,1,none⟩) sA).trans L1.out
  have k2:=(B2.out.cell (p:=⟨w.heap.size,2,none⟩) sA).trans L2.out
  have hsA2:w.heap.size<w2.heap.size:=by omega
  clear b2 ol oe q0 q1 q2 hg e1
  go_wp2
  have b3:Below w2.heap.size w2 (w2.alloc (Obj.cells #[Value.int IntKind.i64 t0,Value.int IntKind.i64 t1, .slice At t2.length capt] 82)):=(Below.refl _ _).alloc (Nat.le_refl _) _
  have m1:(w2.alloc (Obj.cells #[Value.int IntKind.i64 t0,Value.int IntKind.i64 t1, .slice At t2.length capt] 82)).cell? ⟨w2.heap.size,1,none⟩=some (.int .i64 t1):=by simp[go_sem]
  have s3:w2.heap.size<(w2.alloc (Obj.cells #[Value.int IntKind.i64 t0,Value.int IntKind.i64 t1, .slice At t2.length capt] 82)).heap.size:=by simp
  generalize w2.alloc (Obj.cells #[Value.int IntKind.i64 t0,Value.int IntKind.i64 t1, .slice At t2.length capt] 82)=W3 at b3 m1 s3⊢
  have p0:=(b3.cell (p:=⟨w.heap.size,0,none⟩) hsA2).trans k0
  have p1:=(b3.cell (p:=⟨w.heap.size,1,none⟩) hsA2).trans k1
  have p2:=(b3.cell (p:=⟨w.heap.size,2,none⟩) hsA2).trans k2
  have B3:=hDD (B2.out.trans (b3.mono s2))
  have hsA3:w.heap.size<W3.heap.size:=by omega
  have P0:=hDD p0
  have P1:=hDD p1
  have P2:=hDD p2
  have M1:=hDD m1
  clear k0 k1 k2 b3
  rcases hq:(t1==g.2.1) with _ | _
  ·have HR:Hid (cb=false):=hDD (by
    have h1:=HTS.out
    have h2:decide (t1=g.2.1)=false:=by rw[decide_eq_false_iff_not];exact beq_eq_false_iff_ne.1 hq
    rw[h2] at h1
    rw[HC.out,←h1]
    simp)
   have f1:=BelW.cell p1 hsA3
   have f2:=BelW.cell m1 s3
   have f3:=BelW.cell p0 hsA3
   have f4:=BelW.cell p2 hsA3
   (refine wp_region_quiet_bel (by kernel_rfl) (by kernel_rfl) ?_;(repeat(go_big_quiet_step (fail)));refine wpQuiet_nil ?_;intro wq hw';obtain⟨pq,hw''⟩:=hw';have bq:=pq.h;rw[←hw''] at bq;clear hw'' pq)
   go_wp2
   exact bodyPost_ret (v:= .bool false) (by simp[results,Tryz.results106]) rfl ⟨by rw[HR.out],BX.out.trans ((B3.out.trans (bq.mono (by omega))).mono (Nat.le_of_lt sA))⟩
  ·have HR:Hid (cb=decide (canG g=g)):=hDD (by
    have h1:=HTS.out
    have h2:decide (t1=g.2.1)=true:=by rw[decide_eq_true_iff];exact eq_of_beq hq
    rw[h2] at h1
    rw[HC.out,←h1,HF.out]
    simp)
   go_region_held3 (fun w'=>w'.cell? ⟨w.heap.size,0,none⟩=some (.int .i64 g.1)∧w'.cell? ⟨w.heap.size,1,none⟩=some (.int .i64 g.2.1)∧w'.cell? ⟨w.heap.size,2,none⟩=some (.slice A g.2.2.length cap)∧w'.cell? ⟨w2.heap.size,1,none⟩=some (.int .i64 t1))
    (first | exact⟨k0,k1,k2,k3⟩ | go_keep)
    (first
     | (go_at_call 129;refine(canonicalGraph_any _ g _ (HA.out _ B3.out.drew) HF.out).mono ?_;rintro e' w4 ⟨r4,rfl,o4,b4⟩;have B4:=hDD ((Below.refl W3.heap.size W3).drew.trans b4);have O4:=hDD o4;have k0:=(B4.out.cell (p:=⟨w.heap.size,0,none⟩) hsA3).trans P0.out;have k1:=(B4.out.cell (p:=⟨w.heap.size,1,none⟩) hsA3).trans P1.out;have k2:=(B4.out.cell (p:=⟨w.heap.size,2,none⟩) hsA3).trans P2.out;have k3:=(B4.out.cell (p:=⟨w2.heap.size,1,none⟩) s3).trans M1.out;clear b4 o4)
     | (go_at_call 131;refine(implEqualGraphs_any _ _ (canG g) g _ O4.out.arg (HA.out _ (B3.out.trans (B4.out.mono B3.out.size)))).mono ?_;rintro e' w5 ⟨rfl,b5⟩;have B5:=hDD (B4.out.trans (b5.mono B4.out.size));have k0:=(B5.out.cell (p:=⟨w.heap.size,0,none⟩) hsA3).trans P0.out;have k1:=(B5.out.cell (p:=⟨w.heap.size,1,none⟩) hsA3).trans P1.out;have k2:=(B5.out.cell (p:=⟨w.heap.size,2,none⟩) hsA3).trans P2.out;have k3:=(B5.out.cell (p:=⟨w2.heap.size,1,none⟩) s3).trans M1.out;clear b5))
   go_wp2
   exact bodyPost_ret (v:= .bool (decide (canG g=g))) (by simp[results,Tryz.results106]) rfl ⟨by rw[HR.out],BX.out.trans ((B3.out.trans (B5.out.mono (by omega))).mono (Nat.le_of_lt sA))⟩
end Go.Proofs.YtlgcflpaekbopaaGreat
namespace Go.Proofs.YtlgcflpaekbopaaGreat
set_option maxRecDepth 20000
set_option linter.unusedVariables false
set_option linter.unusedSimpArgs false
open Go.RowKit
end Go.Proofs.YtlgcflpaekbopaaGreat
namespace Go.Proofs.YtlgcflpaekbopaaGreat
set_option maxRecDepth 20000
set_option linter.unusedVariables false
set_option linter.unusedSimpArgs false
open Go.RowKit
end Go.Proofs.YtlgcflpaekbopaaGreat
namespace Go.Proofs.YtlgcflpaekbopaaGreat
set_option maxRecDepth 20000
set_option linter.unusedVariables false
set_option linter.unusedSimpArgs false
open Go.RowKit
def invN (w:List Int):List Int:=(w.map fun x=> -x).reverse
def wst (es:List EdD) (u:Int) (wu:List Int) (tw:List (Int×List Int)) (x:Int):List (Int×List Int):=
 if 0≤nextV es u x then(if hasB (tw.map (·.1)) (nextV es u x) then tw else tw++ [(nextV es u x,wu++ [x])]) else tw
def wcF (es:List EdD) (ls:List Int):Nat→Nat→List (Int×List Int)→List (Int×List Int)
 | 0,_,tw=>tw
 | f+1,i,tw=>match tw[i]? with
   | none=>tw
   | some p=>wcF es ls f (i+1) (ls.foldl (wst es p.1 p.2) tw)
def wcO (g:GrD):List (Int×List Int):=wcF g.2.2 (lettersL g.1.toNat) 41 0 [(0,[])]
structure TwI (es:List EdD) (ls:List Int) (tw:List (Int×List Int)):Prop where
 root:tw[0]? =some (0,[])
 par: ∀p∈tw,p=(0,[])∨ ∃q∈tw,∃x∈ls,p.2=q.2++ [x]∧nextV es q.1 x=p.1∧0≤p.1
 len: ∀p∈tw,p.2.length<tw.length
def lkW (tw:List (Int×List Int)) (v:Int):List Int:=match tw.find? (fun p=>decide (p.1=v)) with
 | some p=>p.2
 | none=> []
def wdO (g:GrD) (v:Int):List Int:=lkW (wcO g) v
section
variable {g:GrD}
def NoB:List Int→Prop
 | []=>True
 | [_]=>True
 | a::b::l=>b≠ -a∧NoB (b::l)
end
def imgW (a b:GrD) (v:Int):Int:=walkF b.2.2 0 (wdO a v)
section
variable {a b:GrD}
end
end Go.Proofs.YtlgcflpaekbopaaGreat
namespace Go.Proofs.YtlgcflpaekbopaaGreat
set_option maxRecDepth 20000
set_option linter.unusedVariables false
set_option linter.unusedSimpArgs false
open Go.RowKit
def Lt3 (x:Int):Prop:= -3≤x∧x≤3∧x≠0
theorem Lt3.inv {l x:Int} (h:Lt3 l):invB l x=true↔x= -l:=by
 unfold invB
 have:=h.1;have:=h.2.2
 simp
 omega
def okR (es:List EdD) (v:Int):List Int→Prop
 | []=>True
 | [y]=>nextV es v y<0∧Lt3 y
 | y::z::r=>y≠ -z∧Lt3 y∧okR es v (z::r)
def okS (g:GrD) (s:Int×List Int):Prop:=(0≤s.1∧s.1<g.2.1)∧okR g.2.2 s.1 s.2
section
variable {g:GrD} (hg:grB g=true) (hf:Fol g.2.2)
include hg
include hf
omit hf
omit hg in
theorem red_lt3 {w:List Int} (hw: ∀y∈w,Lt3 y): ∀y∈redL [] w,Lt3 y:=fun y hy=>by
 have: ∀(xs acc:List Int),(∀y∈acc,Lt3 y)→(∀y∈xs,Lt3 y)→ ∀y∈redL acc xs,Lt3 y:=by
  intro xs
  induction xs with
  | nil=>exact fun acc ha _=>ha
  | cons x xs ih=>
    intro acc ha hx
    refine ih (red1 acc x) (fun z hz=> ?_) fun z hz=>hx z (by simp[hz])
    unfold red1 at hz
    split at hz
    ·exact ha z (List.dropLast_subset _ hz)
    ·rcases List.mem_append.1 hz with q | q
     ·exact ha z q
     ·exact hx z (by simp at q;simp[q])
 exact this w [] (fun z hz=>by cases hz) hw y hy
include hf
end
end Go.Proofs.YtlgcflpaekbopaaGreat
namespace Go.Proofs.YtlgcflpaekbopaaGreat
set_option maxRecDepth 20000
set_option linter.unusedVariables false
set_option linter.unusedSimpArgs false
open Go.RowKit
section
variable {g:GrD} (hg:grB g=true) (hf:Fol g.2.2) {w:List Int} (hw: ∀y∈w,Lt3 y) {s:Int×List Int} (hs:okS g s)
include hg hw
include hf
include hs
end
section
variable {g:GrD} (hg:grB g=true) (hf:Fol g.2.2)
include hg hf
end
theorem strip_inv {c:List Int}: ∀(n f:Nat),(∀i,i<f→invB (c.getD i 0) (c.getD (c.length-1-i) 0)=true)→ ∀i,i<stripGo c n f→invB (c.getD i 0) (c.getD (c.length-1-i) 0)=true
 | 0,_,h=>h
 | n+1,f,h=>by
   rw[strip_step]
   split
   ·rename_i q
    refine strip_inv n (f+1) fun i hi=> ?_
    rcases Nat.lt_or_ge i f with z | z
    ·exact h i z
    ·have:i=f:=by omega
     subst this
     exact q.2
   ·exact h
theorem invN_getD (l:List Int) (j:Nat) (h:j<l.length):(invN l).getD j 0= -(l.getD (l.length-1-j) 0):=by
 unfold invN
 have h1:j<((l.map fun x=> -x).reverse).length:=by simpa using h
 rw[List.getD_eq_getElem?_getD,List.getElem?_eq_getElem h1,List.getD_eq_getElem?_getD,List.getElem?_eq_getElem (by omega)]
 simp
theorem core_split {x:List Int} (h: ∀y∈x,Lt3 y):x=x.take (stripN x)++coreC x++invN (x.take (stripN x)):=by
 have hle:=stripN_le x
 have hin:=strip_inv (c:=x) x.length 0 (fun i hi=>by omega)
 refine list_ext_getD ?_ fun i hi=> ?_
 ·simp only[List.length_append,coreC_len]
  simp[invN]
  omega
 ·have l1:(x.take (stripN x)).length=stripN x:=by simp;omega
  have l2:=coreC_len x
  rcases Nat.lt_or_ge i (stripN x) with q | q
  ·rw[List.append_assoc,getD_app_l _ _ _ (by omega)]
   simp[q]
  ·rcases Nat.lt_or_ge i (x.length-stripN x) with q2 | q2
   ·rw[getD_app_l _ _ _ (by rw[List.length_append];omega),getD_app_r _ _ _ (by omega),coreC_getD _ _ (by omega),l1]
    congr 1;omega
   ·rw[getD_app_r _ _ _ (by rw[List.length_append];omega),List.length_append,l1,l2]
    have hj:x.length-1-i<stripN x:=by omega
    have hx:=hin (x.length-1-i) hj
    rw[show x.length-1-(x.length-1-i)=i by omega] at hx
    have h3:Lt3 (x.getD (x.length-1-i) 0):=h _ (by rw[List.getD_eq_getElem?_getD,List.getElem?_eq_getElem (by omega)];simp)
    rw[Lt3.inv h3] at hx
    rw[hx]
    rw[invN_getD _ _ (by omega),l1,show stripN x-1-(i-(stripN x+(x.length-2*stripN x)))=x.length-1-i by omega]
    congr 1
    rw[List.getD_eq_getElem?_getD,List.getD_eq_getElem?_getD,List.getElem?_take_of_lt (by omega)]
section
variable {es:List EdD} {c:List Int} {v:Int}
end
end Go.Proofs.YtlgcflpaekbopaaGreat
namespace Go.Proofs.YtlgcflpaekbopaaGreat
set_option maxRecDepth 20000
set_option linter.unusedVariables false
set_option linter.unusedSimpArgs false
open Go.RowKit
set_option maxHeartbeats 1000000 in
theorem specRotateAll_any (v:Value) (xs:List Int) (w:World) (h:RdI w v xs) (h0:0<xs.length) (hl:xs.length≤1073741824):
  Calls Tryz.prog 115 #[v, .int .i64 xs.length] w fun e w'=> ∃r,e= .returned r∧OwI w' w.heap.size r xs∧Below w.heap.size w w':=by
 have H:=hDD h
 obtain⟨A,cap,rfl,hcap,hm,_⟩:=h.arg
 unfold maxLen at hm
 clear h
 have hn0:(0:Int)<(xs.length:Int):=by omega
 have hkm:(xs.length:Int)%(xs.length:Int)=0:=Int.emod_self
 go_enter Tryz.func115,Tryz.ntmps115
 go_wp2
 go_loopw [5,6] (fun out i wr=> ∃m:Nat,m≤xs.length∧i= .int .i64 m∧OwI wr w.heap.size out (xs.take m)∧Below w.heap.size w wr)
  (fun _ i _=>xs.length-(intOf i).toNat)
 case atStart=>exact⟨0,Nat.zero_le _,rfl,OwI_lit _ [] I64s_nil (by simp) (Nat.le_refl _),(Below.refl _ _).alloc (Nat.le_refl _) _⟩
 case round=>
  obtain⟨m,hm',rfl,hown,hbel⟩:=hrel
  have hsz:=hbel.size
  have hal:(xs.take m).length≤m:=List.length_take_le _ _
  by_cases hlt:m<xs.length
  ·obtain⟨b,off,rfl,hbl,hc⟩:=(H.out.below hbel).at (by omega)
   have hcell:=hc _ hlt
   have hmI:(m:Int)<(xs.length:Int):=by omega
   have hm1:(m:Int)%(xs.length:Int)=(m:Int):=Int.emod_eq_of_lt (by omega) hmI
   have hm2:((m:Int)+(xs.length:Int))%(xs.length:Int)=(m:Int):=by rw[Int.add_emod_right];exact hm1
   have HX:=hDD (H.out.2 xs[m] (by simp))
   have HS:Hid (xs.take (m+1)=xs.take m++ [xs[m]]):=hDD (List.take_succ_eq_append_getElem hlt)
   generalize xs.take m=acc at hown HS hal
   have HO:=hDD hown
   obtain⟨A1,cap1,rfl,hcap1,hm1',_⟩:=hown.form
   clear hc hown
   generalize hxx:xs[m]=x at hcell HX HS
   clear hxx
   go_wp2_with (at_builtin;refine push_int rfl (.tmp 14) (.tmp 33) rfl _ _ _ (OwI.alloc HO.out _) rfl _ _ rfl (cell_new1 _ _ _) HX.out (by first | omega | (simp<;>omega)) (by first | omega | (simp<;>omega)) ?_;intro v1 wv1 o1 g1 p1)
   go_roundw
   case rel=>exact⟨m+1,by omega,by go_num,by rw[HS.out];exact o1,bel_push hbel hsz HO.out.1 (Nat.le_refl _) g1⟩
   case measure=>simp[intOf];omega
  ·obtain rfl:m=xs.length:=by omega
   rw[List.take_length] at hown
   go_wp2
   go_ret
   exact⟨_,rfl,hown,hbel⟩
theorem specRotLen_any (v:Value) (xs:List Int) (k:Nat) (w:World) (h:RdI w v xs) (hk0:0<k) (hk:k≤xs.length) (hl:xs.length≤1073741824):
  Calls Tryz.prog 115 #[v, .int .i64 k] w fun e w'=> ∃r ys,e= .returned r∧OwI w' w.heap.size r ys∧ys.length=xs.length∧ys=rotF xs k∧Below w.heap.size w w':=by
 rcases Nat.lt_or_ge k xs.length with q | q
 ·exact(specRotateWord_any v xs k w h q hl).mono fun e w' ⟨r,h1,h2,h3⟩=>⟨r,_,h1,h2,rotF_len xs k,rfl,h3⟩
 ·obtain rfl:k=xs.length:=by omega
  exact(specRotateAll_any v xs w h hk0 hl).mono fun e w' ⟨r,h1,h2,h3⟩=>⟨r,_,h1,h2,rfl,by simp[rotF],h3⟩
set_option maxRecDepth 100000 in
set_option maxHeartbeats 4000000 in
theorem specRootOf_any (v:Value) (xs:List Int) (w:World) (h:RdI w v xs) (hl:xs.length≤1000):
  Calls Tryz.prog 78 #[v] w fun e w'=> ∃(r:Value) (k:Int) (ys:List Int),e= .returned (.tuple #[r, .int .i64 k])∧OwI w' w.heap.size r ys∧ys.length≤3000∧(1<k→ ∃d m:Nat,k=m∧rotF (coreF xs) d=coreF xs∧(coreF xs).length=d*m)∧Below w.heap.size w w':=by
 have H:=hDD h
 clear h
 go_enter Tryz.func78,Tryz.ntmps78
 go_wp2_with fail
 refine(specCyclicCore_any _ xs w H.out (by omega)).mono ?_
 rintro e w1 ⟨cv,pv,rfl,oc,rp,b1⟩
 have hcl:=coreF_len xs
 have hpl:(prefF xs).length≤1000:=by
  have h1:=redL_len [] xs
  unfold prefF
  rw[List.length_take]
  simp only[List.length_nil] at h1
  omega
 have OC:=hDD oc
 have RP:=hDD rp
 have B1:=hDD b1
 obtain⟨Ac,cc,rfl,hcc,hmc,_⟩:=oc.form
 obtain⟨Ap,cp,rfl,_⟩:=rp.arg
 clear oc rp b1
 obtain⟨c,hcc0⟩: ∃c,coreF xs=c:=⟨_,rfl⟩
 have HCC:=hDD hcc0
 rw[hcc0] at OC hcl hcc
 simp only[hcc0]
 clear hcc0
 generalize prefF xs=p at*
 go_wp2
 go_loopw [6] (fun nv wr=> ∃k:Nat,1≤k∧k≤c.length+1∧nv= .int .i64 k∧Below w1.heap.size w1 wr) (fun nv _=>c.length+1-(intOf nv).toNat)
 case atStart=>exact⟨1,by omega,by omega,rfl,Below.refl _ _⟩
 case round=>
  obtain⟨k,hk1,hk2,rfl,hb⟩:=hrel
  have HB:=hDD hb
  have hsr:=hb.size
  clear hb
  by_cases hlt:k≤c.length
  ·have hkI:(k:Int)≤(c.length:Int):=by omega
   have hk0: ¬(k:Int)=0:=by omega
   have hkn: ¬k=0:=by omega
   have NEXT:k+1≤c.length+1:=by omega
   rcases e1:((c.length:Int)%(k:Int)==0) with _ | _
   ·have e1': ¬(c.length:Int)%(k:Int)=0:=by simpa using e1
    clear e1
    go_wp2
    go_roundw
    case rel=>exact⟨k+1,by omega,by omega,by go_num,HB.out⟩
    case measure=>(simp[intOf];omega)
   ·have e1':(c.length:Int)%(k:Int)=0:=by simpa using e1
    clear e1
    obtain⟨q,hq⟩: ∃q:Nat,c.length=k*q:=⟨c.length/k,(Nat.mul_div_cancel' (Nat.dvd_of_mod_eq_zero (by omega))).symm⟩
    have HQ:=hDD hq
    have hq1:(c.length:Int)/(k:Int)=(q:Int):=by rw[hq,Int.natCast_mul];exact Int.mul_ediv_cancel_left _ hk0
    have hq2:Int.tdiv (c.length:Int) (k:Int)=(q:Int):=by rw[Int.tdiv_eq_ediv_of_nonneg (by omega)];exact hq1
    have hqc:q≤c.length:=by rw[hq];exact Nat.le_mul_of_pos_left _ hk1
    have hq3:IntKind.i64.wrap (q:Int)=(q:Int):=by rw[IntKind.wrap_i64];omega
    have hq4:wrap64 (q:Int)=(q:Int):=IntWalk.wrap64_in _ ⟨by omega,by omega⟩
    clear hq
    have HRO:=hDD (specRotLen_any _ c k wr (OC.out.below HB.out).rd (by omega) hlt (by omega))
    go_wp2_with fail
    refine HRO.out.mono ?_
    rintro e w2 ⟨r2,ys,rfl,o2,hy2,hyr,b2⟩
    have HYE:Hid (decide (ys=c)=true→rotF c k=c):=hDD fun e=>by rw[←hyr];exact of_decide_eq_true e
    clear hyr
    have O2:=hDD o2
    have B2:=hDD (HB.out.trans (b2.mono hsr))
    obtain⟨A2,m2,c2,rfl⟩:=o2.any2
    have HEQ:=hDD (specEqualWords_any _ _ ys c w2 o2.arg (OC.out.below B2.out).arg)
    clear o2 b2 HRO hy2
    go_wp2_with fail
    refine HEQ.out.mono ?_
    rintro e w3 ⟨rfl,nd,rfl⟩
    obtain⟨w3,hw3⟩: ∃W,W=w2.drewN nd:=⟨_,rfl⟩
    rw[←hw3]
    have B3:Hid (Below w1.heap.size w1 w3):=hDD (by rw[hw3];exact bel_drewN B2.out _)
    clear hw3 HEQ
    generalize decide (ys=c)=o at*
    rcases o with _ | _
    ·go_wp2
     go_roundw
     case rel=>exact⟨k+1,by omega,by omega,by go_num,B3.out⟩
     case measure=>(simp[intOf];omega)
    ·have hkc:(k:Int)≤(cc:Int):=by omega
     have hkp:(0:Int)≤(k:Int):=by omega
     have HP:=hDD (RP.out.below B3.out)
     have HC:=hDD ((OC.out.below B3.out).rd.head (k:=k) rfl hlt)
     have hck:(c.take k).length≤1000:=by rw[List.length_take];omega
     generalize c.take k=ck at*
     go_wp2_with fail
     refine wp_region_gen [.val (.slice Ap p.length cp), .val (.slice Ac c.length cc), .val (.int .i64 k), .val (.slice Ac k cc),
       .mem (fun _ W v=> ∃ys A' c',v= .slice A' ys.length c'∧RdI W v ys∧ys.length≤2000),
       .val (.slice Ap p.length cp), .mem (fun _ W v=> ∃ys A' c',v= .slice A' ys.length c'∧RdI W v ys∧ys.length≤1000),
       .mem (fun _ W v=> ∃ys A' c',v= .slice A' ys.length c'∧OwI W w3.heap.size v ys∧ys.length≤3000),
       .val (.slice Ac c.length cc), .val (.int .i64 c.length), .val (.int .i64 k), .val (.int .i64 q), .pur (fun us v=>v=us 7), .val (.int .i64 q)]
      [none,none,none,none,some (fun W W'=>Below W.heap.size W W'),none,some (fun W W'=>Below W.heap.size W W'),some (fun W W'=>Below W.heap.size W W'),none,none,none,none,none,none]
      (fun W=>Below w3.heap.size w3 W) [(4,6),(4,7),(6,7)] (by kernel_rfl) (by kernel_rfl) (by rfl) (by rfl)
      (Below.refl _ _).drew
      ⟨fun _ _ h t=>h.trans (t.mono h.size),fun _ _ h t=>h.trans (t.mono h.size),fun _ _ h t=>h.trans (t.mono h.size),trivial⟩
      ⟨fun _ _ _ _ _ _ t h=>by obtain⟨ys,A',c',e,r,hl⟩:=h;exact⟨ys,A',c',e,r.below t,hl⟩,fun _ _ _ _ _ _ t h=>by obtain⟨ys,A',c',e,r,hl⟩:=h;exact⟨ys,A',c',e,r.below t,hl⟩,fun _ _ _ _ _ _ t h=>by obtain⟨ys,A',c',e,r,hl⟩:=h;exact⟨ys,A',c',e,r.below t,hl⟩,trivial⟩ (fun vs=> ?_)
     refine⟨fun W' K' Q0 hI hD hK=> ?_,?_⟩
     ·skip
      go_simp
      exact hK.out _ _ rfl rfl
     simp only[Act.put,List.setIfInBounds_toArray,List.set_cons_zero,List.set_cons_succ,Sg.pick,Nat.reduceAdd]
     refine⟨fun W' K' Q0 hI hD hK=> ?_,?_⟩
     ·skip
      go_simp
      exact hK.out _ _ rfl rfl
     simp only[Act.put,List.setIfInBounds_toArray,List.set_cons_zero,List.set_cons_succ,Sg.pick,Nat.reduceAdd]
     refine⟨fun W' K' Q0 hI hD hK=> ?_,?_⟩
     ·skip
      go_simp
      exact hK.out _ _ rfl rfl
     simp only[Act.put,List.setIfInBounds_toArray,List.set_cons_zero,List.set_cons_succ,Sg.pick,Nat.reduceAdd]
     refine⟨fun W' K' Q0 hI hD hK=> ?_,?_⟩
     ·skip
      go_simp
      exact hK.out _ _ rfl rfl
     simp only[Act.put,List.setIfInBounds_toArray,List.set_cons_zero,List.set_cons_succ,Sg.pick,Nat.reduceAdd]
     refine⟨fun W' K' Q0 hI hD hK=> ?_,?_⟩
     ·skip
      go_simp
      refine(specMultiplyWords_any _ _ p ck _ (HP.out.below hI.out) (HC.out.below hI.out) (by omega) (by omega)).mono ?_;rintro e w' ⟨r,rfl,o,b⟩;have hle:=redL_len [] (p++ck);obtain⟨A',c',rfl,_⟩:=o.form;exact hK.out _ _ b ⟨_,A',c',rfl,o.rd,by simp only[List.length_append,List.length_nil] at hle;omega⟩
     simp only[Act.put,List.setIfInBounds_toArray,List.set_cons_zero,List.set_cons_succ,Sg.pick,Nat.reduceAdd]
     refine⟨fun W' K' Q0 hI hD hK=> ?_,?_⟩
     ·skip
      go_simp
      exact hK.out _ _ rfl rfl
     simp only[Act.put,List.setIfInBounds_toArray,List.set_cons_zero,List.set_cons_succ,Sg.pick,Nat.reduceAdd]
     refine⟨fun W' K' Q0 hI hD hK=> ?_,?_⟩
     ·skip
      go_simp
      refine(specInvertWord_any _ p _ (HP.out.below hI.out) (by omega)).mono ?_;rintro e w' ⟨r,rfl,o,b⟩;obtain⟨A',c',rfl,_⟩:=o.form;exact hK.out _ _ b ⟨_,A',c',rfl,o.rd,by simp[invL,negL];omega⟩
     simp only[Act.put,List.setIfInBounds_toArray,List.set_cons_zero,List.set_cons_succ,Sg.pick,Nat.reduceAdd]
     refine⟨fun W' K' Q0 hI hD hK=> ?_,?_⟩
     ·obtain⟨y4,A4,c4,e4,r4,l4⟩:=(show ∃ys A' c',vs 4= .slice A' ys.length c'∧RdI W' (vs 4) ys∧ys.length≤2000 from hD.out 4 (by kernel_rfl))
      obtain⟨y6,A6,c6,e6,r6,l6⟩:=(show ∃ys A' c',vs 6= .slice A' ys.length c'∧RdI W' (vs 6) ys∧ys.length≤1000 from hD.out 6 (by kernel_rfl))
      rw[e4] at r4
      rw[e6] at r6
      rw[e4,e6] at hK⊢
      have HM7:=hDD (specMultiplyWords_any _ _ y4 y6 _ r4 r6 (by omega) (by omega))
      go_simp
      refine HM7.out.mono ?_;rintro e w' ⟨r,rfl,o,b⟩;have hle:=redL_len [] (y4++y6);obtain⟨A',c',rfl,_⟩:=o.form;exact hK.out _ _ b ⟨_,A',c',rfl,o.mono hI.out.size,by simp only[List.length_append,List.length_nil] at hle;omega⟩
     simp only[Act.put,List.setIfInBounds_toArray,List.set_cons_zero,List.set_cons_succ,Sg.pick,Nat.reduceAdd]
     refine⟨fun W' K' Q0 hI hD hK=> ?_,?_⟩
     ·skip
      go_simp
      exact hK.out _ _ rfl rfl
     simp only[Act.put,List.setIfInBounds_toArray,List.set_cons_zero,List.set_cons_succ,Sg.pick,Nat.reduceAdd]
     refine⟨fun W' K' Q0 hI hD hK=> ?_,?_⟩
     ·skip
      go_simp
      exact hK.out _ _ rfl rfl
     simp only[Act.put,List.setIfInBounds_toArray,List.set_cons_zero,List.set_cons_succ,Sg.pick,Nat.reduceAdd]
     refine⟨fun W' K' Q0 hI hD hK=> ?_,?_⟩
     ·skip
      go_simp
      exact hK.out _ _ rfl rfl
     simp only[Act.put,List.setIfInBounds_toArray,List.set_cons_zero,List.set_cons_succ,Sg.pick,Nat.reduceAdd]
     refine⟨fun W' K' Q0 hI hD hK=> ?_,?_⟩
     ·skip
      go_simp
      exact hK.out _ _ rfl rfl
     simp only[Act.put,List.setIfInBounds_toArray,List.set_cons_zero,List.set_cons_succ,Sg.pick,Nat.reduceAdd]
     refine⟨fun W' K' Q0 hI hD hK=> ?_,?_⟩
     ·obtain⟨y7,A7,c7,e7,_⟩:=(show ∃ys A' c',vs 7= .slice A' ys.length c'∧OwI W' w3.heap.size (vs 7) ys∧ys.length≤3000 from hD.out 7 (by kernel_rfl))
      rw[e7] at hK⊢
      go_simp
      exact hK.out _ _ rfl ((mask_at (by kernel_rfl)).trans e7).symm
     simp only[Act.put,List.setIfInBounds_toArray,List.set_cons_zero,List.set_cons_succ,Sg.pick,Nat.reduceAdd]
     refine⟨fun W' K' Q0 hI hD hK=> ?_,?_⟩
     ·skip
      go_simp
      exact hK.out _ _ rfl rfl
     simp only[Act.put,List.setIfInBounds_toArray,List.set_cons_zero,List.set_cons_succ,Sg.pick,Nat.reduceAdd]
     intro W9 hI9 hD9
     obtain⟨y7,A7,c7,e7,o7,l7⟩:=(show ∃ys A' c',vs 7= .slice A' ys.length c'∧OwI W9 w3.heap.size (vs 7) ys∧ys.length≤3000 from hD9.out 7 (by decide))
     have e12:=(show vs 12=maskV _ 12 vs 7 from hD9.out 12 (by decide))
     rw[mask_at (by kernel_rfl),e7] at e12
     rw[e7] at o7
     have O7:=hDD o7
     have I9:=hDD hI9.out
     have hs1:=B1.out.size
     have hs3:=B3.out.size
     rw[e12]
     clear hD9 hI9 o7 e7 e12
     go_wp2
     exact bodyPost_ret (v:= .tuple #[.slice A7 y7.length c7, .int .i64 q]) (by simp[results,Tryz.results78,go_sem]) rfl ⟨_,_,rfl,y7,O7.out.mono (by omega),l7,fun _=>⟨k,q,rfl,by rw[HCC.out];exact HYE.out (by trivial),by rw[HCC.out];exact HQ.out⟩,B1.out.trans ((B3.out.trans (I9.out.mono hs3)).mono hs1)⟩
  ·have hkI: ¬(k:Int)≤(c.length:Int):=by omega
   have O9:=hDD (OwI_lit (base:=w.heap.size) wr [] I64s_nil (by simp) (by have:=B1.out.size;omega))
   go_wp2
   exact bodyPost_ret (v:= .tuple #[.slice (some ⟨wr.heap.size,0,none⟩) 0 0, .int .i64 0]) (by simp[results,Tryz.results78,go_sem]) rfl ⟨_,_,rfl,[],by simpa using O9.out,by simp,fun h=>absurd h (by omega),((B1.out.trans (HB.out.mono B1.out.size))).alloc (by have:=B1.out.size;omega) _⟩
end Go.Proofs.YtlgcflpaekbopaaGreat
namespace Go.Proofs.YtlgcflpaekbopaaGreat
set_option maxRecDepth 20000
set_option linter.unusedVariables false
set_option linter.unusedSimpArgs false
open Go.RowKit
def freG (l:List Oper):Bool:=
 Region.noSelect l.toArray&&(List.range l.length).all fun i=>match l[i]? with
  | none=>true
  | some o=>(o.after.all fun e=> !Region.binds .any e||decide (e.on<i))&&
    ((List.range l.length).all fun k=>match l[k]? with
      | none=>true
      | some o'=>(decide (i=k)|| !(o.dst==o'.dst)||o.dst.isNone)&&
        (match o'.dst with
         | none=>true
         | some t=> !(o.looksAt l.toArray).contains t||reachB l l.length i k||reachB l l.length k i))
def ObwG (G:List Nat) (P:Program) (J:Nat→World→Prop) (l:List Oper) (L:List Sg) (T:List (Option (World→World→Prop))) (vs:Nat→Value) (Q:Exit→Act→World→Prop):List Oper→List Sg→Nat→Act→Prop
 | [],_,_,b=> ∀W',Hid (J l.length W')→Hid (∀j,j<l.length→(sgA L j).R (maskV l j vs) W' (vs j))→Q .normal b W'
 | _::_,[],_,_=>False
 | o::r,s::ss,k,b=>(match G.contains k with
   | true=>True
   | false=>(∀W K Q0,Hid (J k W)→Hid (∀j,reachB l l.length k j=true→(sgA L j).R (maskV l j vs) W (vs j))→Hid (∀v W',tnA T k W W'→s.R (maskV l k vs) W' v→K (b.put o.dst v) W')→o.wp P b W K Q0))∧ObwG G P J l L T vs Q r ss (k+1) (b.put o.dst (s.pick (vs k)))
def GOff (L:List Sg) (T:List (Option (World→World→Prop))):List Nat→Prop
 | []=>True
 | i::r=>(sgA L i= .val undef∧T.getD i none=none)∧GOff L T r
theorem GOff.at {L:List Sg} {T:List (Option (World→World→Prop))}: ∀ {G:List Nat},GOff L T G→ ∀i,G.contains i=true→sgA L i= .val undef∧T.getD i none=none
 | [],_,_,h=>by cases h
 | j::r,h,i,hi=>by
   simp only[List.contains_cons,Bool.or_eq_true,beq_iff_eq] at hi
   rcases hi with rfl | hi
   ·exact h.1
   ·exact GOff.at h.2 i hi
theorem actV_keep {S:Nat→Bool} {vs:Nat→Value} {d:Tmp}: ∀(r:List Oper) (k:Nat) (b:Act),(∀o∈r,o.dst≠some d)→(actV S vs r k b).tmps[d]? =b.tmps[d]?
 | [],_,_,_=>rfl
 | o::r,k,b,h=>by
   unfold actV
   rw[actV_keep r (k+1) _ fun o' ho'=>h o' (by simp[ho'])]
   split
   ·have:=h o (by simp)
    cases hd:o.dst with
    | none=>rfl
    | some e=>
      rw[hd] at this
      simp only[Act.put]
      rw[Array.getElem?_setIfInBounds_ne (fun q=>this (by rw[q]))]
   ·rfl
theorem actV_get {S:Nat→Bool} {vs:Nat→Value} {d:Tmp}: ∀(r:List Oper) (k:Nat) (b:Act) (i:Nat) (o:Oper),r[i]? =some o→o.dst=some d→S (k+i)=true→(∀j o2,r[j]? =some o2→j≠i→o2.dst≠some d)→d<b.tmps.size→(actV S vs r k b).tmps[d]? =some (vs (k+i))
 | [],_,_,_,_,h,_,_,_,_=>by simp at h
 | o'::r,k,b,0,o,h,hd,hS,hu,hz=>by
   obtain rfl:o'=o:=by simpa using h
   rw[Nat.add_zero] at hS⊢
   unfold actV
   rw[hS,actV_keep r (k+1) _ fun o2 ho2=>by
    obtain⟨j,hj⟩:=List.getElem?_of_mem ho2
    exact hu (j+1) o2 (by simpa using hj) (by omega)]
   simp only[if_true,hd,Act.put]
   rw[Array.getElem?_setIfInBounds_self_of_lt hz]
 | o'::r,k,b,i+1,o,h,hd,hS,hu,hz=>by
   unfold actV
   rw[actV_get r (k+1) _ i o (by simpa using h) hd (by rwa [show k+1+i=k+(i+1) by omega]) (fun j o2 hj hji=>hu (j+1) o2 (by simpa using hj) (by omega)) (by split<;>(try simp only[put_size])<;>exact hz)]
   rw[show k+1+i=k+(i+1) by omega]
section
variable {l:List Oper}
theorem freG_parts (h:freG l=true):Region.noSelect l.toArray=true∧ ∀i o,l[i]? =some o→(∀e∈o.after,Region.binds .any e=true→e.on<i)∧(∀k o',l[k]? =some o'→i≠k→ ∀d,o.dst=some d→o'.dst≠some d)∧
  ∀k o' t,l[k]? =some o'→o'.dst=some t→t∈o.looksAt l.toArray→reachB l l.length i k=true∨reachB l l.length k i=true:=by
 unfold freG at h
 rw[Bool.and_eq_true,List.all_eq_true] at h
 refine⟨h.1,fun i o ho=> ?_⟩
 have hi:i<l.length:=(List.getElem?_eq_some_iff.1 ho).1
 have h1:=h.2 i (List.mem_range.2 hi)
 rw[ho] at h1
 simp only[Bool.and_eq_true,List.all_eq_true,List.mem_range] at h1
 obtain⟨h3,h4⟩:=h1
 refine⟨fun e he hb=> ?_,fun k o' hk hik d hd hd'=> ?_,fun k o' t hk ht hl=> ?_⟩
 ·have:=Array.all_eq_true_iff_forall_mem.1 h3 e he
  rw[hb] at this
  simpa using this
 ·have h5:=h4 k ((List.getElem?_eq_some_iff.1 hk).1)
  rw[hk] at h5
  simp only[Bool.and_eq_true,Bool.or_eq_true,decide_eq_true_eq] at h5
  rcases h5.1 with (h6 | h6) | h6
  ·exact hik h6
  ·rw[hd,hd'] at h6;simp at h6
  ·rw[hd] at h6;simp at h6
 ·have h5:=h4 k ((List.getElem?_eq_some_iff.1 hk).1)
  rw[hk] at h5
  simp only[Bool.and_eq_true] at h5
  have h6:=h5.2
  rw[ht] at h6
  simp only[Bool.or_eq_true,Bool.not_eq_true'] at h6
  rcases h6 with (h6 | h6) | h6
  ·rw[List.contains_iff_mem.2 hl] at h6;cases h6
  ·exact .inl h6
  ·exact .inr h6
theorem reach_ltG (hB:freG l=true): ∀(f i j:Nat),reachB l f i j=true→j<i
 | 0,_,_,h=>by cases h
 | f+1,i,j,h=>by
   unfold reachB at h
   cases ho:l[i]? with
   | none=>rw[ho] at h;cases h
   | some o=>
     rw[ho] at h
     simp only[List.any_eq_true,Array.mem_toList_iff,Bool.and_eq_true,Bool.or_eq_true,beq_iff_eq] at h
     obtain⟨e,he,hb,h⟩:=h
     have h1:=((freG_parts hB).2 i o ho).1 e he hb
     rcases h with h | h
     ·omega
     ·have:=reach_ltG hB f e.on j h;omega
end
section
variable {P:Program} {I Hs:World→Prop} {D:List Nat} {J:Nat→World→Prop} {l:List Oper} {L:List Sg} {T:List (Option (World→World→Prop))} {w:World} {a:Act} {Q:Exit→Act→World→Prop} {G:List Nat}
theorem obwG_at {vs:Nat→Value} (hvs: ∀j,j<l.length→(sgA L j).pick (vs j)=vs j): ∀(r:List Oper) (ss:List Sg) (k:Nat) (b:Act),(∀j,r[j]? =l[k+j]?)→(∀j,ss.getD j (.val undef)=sgA L (k+j))→ObwG G P J l L T vs Q r ss k b→
  (∀i o,r[i]? =some o→G.contains (k+i)=false→ ∀W K Q0,Hid (J (k+i) W)→Hid (∀j,reachB l l.length (k+i) j=true→(sgA L j).R (maskV l j vs) W (vs j))→Hid (∀v W',tnA T (k+i) W W'→(sgA L (k+i)).R (maskV l (k+i) vs) W' v→K ((actV (fun j=>decide (j<k+i)) vs r k b).put o.dst v) W')→o.wp P (actV (fun j=>decide (j<k+i)) vs r k b) W K Q0)∧
  (∀W',Hid (J l.length W')→Hid (∀j,j<l.length→(sgA L j).R (maskV l j vs) W' (vs j))→Q .normal (actV (fun _=>true) vs r k b) W')
 | [],_,_,_,_,_,h=>⟨fun i o ho _=>by simp at ho,h⟩
 | _::_,[],_,_,_,_,h=>h.elim
 | o::r,s::ss,k,b,hr,hs,h=>by
   obtain⟨h1,h2⟩:=h
   have hs0:s=sgA L k:=by simpa using hs 0
   have hk:k<l.length:=by
    have:=hr 0
    rw[Nat.add_zero] at this
    exact(List.getElem?_eq_some_iff.1 this.symm).1
   rw[hs0,hvs k hk] at h2
   have hn:=obwG_at hvs r ss (k+1) _ (fun j=>by have:=hr (j+1);rw[show k+(j+1)=k+1+j by omega] at this;simpa using this) (fun j=>by have:=hs (j+1);rw[show k+(j+1)=k+1+j by omega] at this;simpa using this) h2
   refine⟨fun i o' ho' hG'=> ?_,?_⟩
   ·cases i with
    | zero=>
      obtain rfl:o=o':=by simpa using ho'
      have e:actV (fun j=>decide (j<k+0)) vs (o::r) k b=b:=by
       unfold actV
       rw[decide_eq_false (by omega)]
       have: ∀(r:List Oper) (k2:Nat) (b:Act),k≤k2→actV (fun j=>decide (j<k+0)) vs r k2 b=b:=by
        intro r
        induction r with
        | nil=>intros;rfl
        | cons o r ih=>
          intro k2 b hk2
          unfold actV
          rw[decide_eq_false (by omega)]
          exact ih (k2+1) b (by omega)
       exact this r (k+1) b (by omega)
      rw[Nat.add_zero] at hG'
      rw[e,Nat.add_zero,←hs0]
      rw[hG'] at h1
      exact h1
    | succ i=>
      have e:k+(i+1)=k+1+i:=by omega
      rw[e] at hG'
      have:=hn.1 i o' (by simpa using ho') hG'
      rw[e]
      unfold actV
      rw[decide_eq_true (by omega)]
      exact this
   ·exact hn.2
end
end Go.Proofs.YtlgcflpaekbopaaGreat
namespace Go.Proofs.YtlgcflpaekbopaaGreat
set_option maxRecDepth 20000
set_option linter.unusedVariables false
set_option linter.unusedSimpArgs false
open Go.RowKit
def gdB2 (l:List Oper) (L:List Sg) (G:List Nat):Bool:=(List.range l.length).all fun i=>match l[i]? with
 | none=>true
 | some o=>match o.guard with
   | none=> !G.contains i
   | some (j,want)=>reachB l l.length i j&&(match (l[j]?).bind (·.dst) with | some _=>true | none=>false)&&(match sgA L j with | .val (.bool b)=>(b==want)== !G.contains i | .val (.tuple _)=>G.contains i | _=>false)
section
variable {P:Program} {I Hs:World→Prop} {D:List Nat} {J:Nat→World→Prop} {l:List Oper} {L:List Sg} {T:List (Option (World→World→Prop))} {w:World} {a:Act} {Q:Exit→Act→World→Prop} {G:List Nat}
theorem gen_anyG2 (hB:freG l=true) (hgB:gdB2 l L G=true) (hGo:GOff L T G) (hsz: ∀(i:Nat) (o:Oper),l[i]? =some o→ ∀t,o.dst=some t→t<a.tmps.size)
  (hIT: ∀t,some t∈T→ ∀W W',I W→t W W'→I W') (hHT:ItD I Hs D T 0 T) (hst:Stb I L T (clG l L T)) (h: ∀vs,ObwG G P (JH I Hs l D) l L T vs Q l L 0 a): ∀(fuel:Nat) (listed:Array Bool) (vs:Nat→Value) (W:World),
  ((List.range l.length).filter fun j=> !listed.getD j false).length=fuel→Cl l.toArray listed→I W→((∀d∈D,listed.getD d false=false)→Hs W)→(∀j,j<l.length→(sgA L j).pick (vs j)=vs j)→(∀j,listed.getD j false=true→(sgA L j).R (maskV l j vs) W (vs j))→
  wpAny P .any l.toArray Q fuel listed (actV (fun j=>listed.getD j false) vs l 0 a) W:=by
 have hI: ∀k W W',I W→tnA T k W W'→I W':=fun k W W' hi ht=>by
  unfold tnA at ht
  cases e:T.getD k none with
  | none=>rw[e] at ht;rw[show W'=W from ht];exact hi
  | some t=>
    rw[e] at ht
    refine hIT t ?_ W W' hi ht
    rw[List.getD_eq_getElem?_getD] at e
    cases e2:T[k]? with
    | none=>rw[e2] at e;cases e
    | some q=>rw[e2] at e;simp only[Option.getD_some] at e;subst e;exact List.mem_of_getElem? e2
 have hH: ∀k W W',I W→k∉D→Hs W→tnA T k W W'→Hs W':=fun k W W' hi hk hs ht=>by
  unfold tnA at ht
  cases e:T.getD k none with
  | none=>rw[e] at ht;rw[show W'=W from ht];exact hs
  | some t=>
    rw[e] at ht
    rw[List.getD_eq_getElem?_getD] at e
    cases e2:T[k]? with
    | none=>rw[e2] at e;cases e
    | some q=>
      rw[e2] at e;simp only[Option.getD_some] at e;subst e
      rcases hHT.at k t e2 with h | h
      ·rw[Nat.zero_add] at h;exact absurd h hk
      ·exact h W W' hi hs ht
 have all: ∀(listed:Array Bool) (vs:Nat→Value) (W:World),Cl l.toArray listed→I W→((∀d∈D,listed.getD d false=false)→Hs W)→(∀j,j<l.length→(sgA L j).pick (vs j)=vs j)→(∀j,listed.getD j false=true→(sgA L j).R (maskV l j vs) W (vs j))→(∀j,j<l.length→listed.getD j false=true)→Q .normal (actV (fun j=>listed.getD j false) vs l 0 a) W:=fun listed vs W hc hb hd hp hr hl=>by
  have:=(obwG_at hp l L 0 a (fun j=>by rw[Nat.zero_add]) (fun j=>by rw[Nat.zero_add];rfl) (h vs)).2 W (hDD ⟨hb,fun ok=>hd fun d hd'=>by
   have h1:=List.all_eq_true.1 ok d hd'
   simp only[Bool.or_eq_true,beq_iff_eq] at h1
   rcases h1 with h1 | h1
   ·rw[Array.getD_eq_getD_getElem?,Array.getElem?_eq_none (by rw[hc.1,h1];simp)];rfl
   ·have h2:=reach_ltG hB _ _ _ h1
    rw[Array.getD_eq_getD_getElem?,Array.getElem?_eq_none (by rw[hc.1];simp;omega)];rfl⟩) (hDD fun j hj=>hr j (hl j hj))
  rwa [actV_congr (S':=fun _=>true) (vs':=vs) l 0 a fun j hj=>by rw[Nat.zero_add];exact⟨hl j hj,fun _=>rfl⟩]
 have none_ready: ∀(listed:Array Bool),Cl l.toArray listed→Region.ready .any l.toArray listed= []→ ∀j,j<l.length→listed.getD j false=true:=fun listed hc hr j=>by
  induction j using Nat.strongRecOn with
  | _ j ih=>
    intro hj
    by_cases q:listed.getD j false=true
    ·exact q
    ·exfalso
     have:j∈Region.ready .any l.toArray listed:=by
      rw[mem_ready]
      refine⟨by rw[getD_tf (by rw[hc.1];simpa using hj)];simpa using q,l[j],by simp[hj],fun e he hb=> ?_⟩
      have:=((freG_parts hB).2 j l[j] (List.getElem?_eq_getElem hj)).1 e he hb
      exact ih e.on this (by omega)
     rw[hr] at this
     cases this
 intro fuel
 induction fuel with
 | zero=>
   intro listed vs W hf hc hb hd hp hr
   have hl: ∀j,j<l.length→listed.getD j false=true:=fun j hj=>by
    have:=List.filter_eq_nil_iff.1 (List.eq_nil_of_length_eq_zero hf) j (List.mem_range.2 hj)
    simpa using this
   refine⟨?_,all listed vs W hc hb hd hp hr hl⟩
   cases hq:Region.ready .any l.toArray listed with
   | nil=>rfl
   | cons i r=>
     obtain⟨h1,o,ho,_⟩:=mem_ready.1 (show i∈Region.ready .any l.toArray listed by rw[hq];simp)
     have hi:i<l.length:=by simpa using (Array.getElem?_eq_some_iff.1 ho).1
     rw[getD_tf (by rw[hc.1];simpa using hi),hl i hi] at h1
     cases h1
 | succ fuel ih=>
   intro listed vs W hf hc hb hd hp hr
   refine⟨fun h0=>all listed vs W hc hb hd hp hr (none_ready listed hc h0),fun i hi=> ?_⟩
   obtain⟨h1,o,ho,hdeps⟩:=mem_ready.1 hi
   have ho':l[i]? =some o:=by simpa using ho
   have hil:i<l.length:=(List.getElem?_eq_some_iff.1 ho').1
   have his:i<listed.size:=by rw[hc.1];simpa using hil
   have hif:listed.getD i false=false:=by rw[←getD_tf his];exact h1
   obtain⟨_,hdst,hlook⟩:=(freG_parts hB).2 i o ho'
   have hsel:=fun (cs:Array SelectCase) (b:Bool)=>Region.noSelect_spec (freG_parts hB).1 i o cs b ho
   have hob0:=(obwG_at hp l L 0 a (fun j=>by rw[Nat.zero_add]) (fun j=>by rw[Nat.zero_add];rfl) (h vs)).1 i o ho'
   rw[Nat.zero_add] at hob0
   have hlst: ∀j,reachB l l.length i j=true→listed.getD j false=true:=fun j hj=>reach_listed hc l.length i j (fun o2 ho2 e he hb=>by rw[ho'] at ho2;injection ho2 with ho2;subst ho2;exact hdeps e he hb) hj
   have hno: ∀j,listed.getD j false=true→reachB l l.length j i=false:=fun j hj=>by
    cases q:reachB l l.length j i with
    | false=>rfl
    | true=>
      have:=reach_listed hc l.length j i (fun o2 ho2 e he hb=>hc.2 j o2 (by simpa using ho2) hj e he hb) q
      rw[hif] at this
      cases this
   have hwant:Region.wanted o (yielded l.toArray (actV (fun j=>listed.getD j false) vs l 0 a).tmps)= !G.contains i:=by
    have h1:=List.all_eq_true.1 hgB i (List.mem_range.2 hil)
    rw[ho'] at h1
    cases hq:o.guard with
    | none=>
      simp only[hq] at h1
      rw[wanted_none hq,h1]
    | some p=>
      obtain⟨j,want⟩:=p
      simp only[hq,Bool.and_eq_true] at h1
      obtain⟨⟨h2,h3⟩,h4⟩:=h1
      have hjl:=hlst j h2
      cases hlj:l[j]? with
      | none=>rw[hlj] at h3;cases h3
      | some oj=>
        cases hdj:oj.dst with
        | none=>rw[hlj] at h3;simp only[Option.bind_some,hdj] at h3;cases h3
        | some d=>
          have hrj:=hr j hjl
          have hjn:j<l.length:=(List.getElem?_eq_some_iff.1 hlj).1
          have hy:yielded l.toArray (actV (fun j=>listed.getD j false) vs l 0 a).tmps j=(match vs j with | .bool b=>some b | _=>none):=by
           have hg:=actV_get (S:=fun j=>listed.getD j false) (vs:=vs) (d:=d) l 0 a j oj hlj hdj (by rw[Nat.zero_add];exact hjl) (fun m o2 hm hmj=>((freG_parts hB).2 j oj hlj).2.1 m o2 hm (fun e=>hmj e.symm) d hdj) (hsz j oj hlj d hdj)
           rw[Nat.zero_add] at hg
           unfold yielded
           simp only[List.getElem?_toArray,hlj,Option.bind_some,hdj,hg]
           cases vs j<;>rfl
          cases hsj:sgA L j with
          | pur q=>rw[hsj] at h4;cases h4
          | mem q=>rw[hsj] at h4;cases h4
          | val c=>
            rw[hsj] at h4 hrj
            have hvj:vs j=c:=hrj
            cases c with
            | bool b=>
              unfold Region.wanted
              rw[hq]
              simp only[hy,hvj]
              simp only[beq_iff_eq] at h4
              rw[←h4]
              cases b<;>cases want<;>rfl
            | tuple _=>
              unfold Region.wanted
              rw[hq]
              simp only[hy,hvj]
              simp only at h4
              rw[h4]
              rfl
            | _=>cases h4
   have tail: ∀v W',tnA T i W W'→(sgA L i).R (maskV l i vs) W' v→wpAny P .any l.toArray Q fuel (listed.setIfInBounds i true) ((actV (fun j=>listed.getD j false) vs l 0 a).put o.dst v) W':=fun v W' hbv hv=>by
    have e:=actV_set (S:=fun j=>listed.getD j false) (vs:=vs) (v:=v) l 0 a i o ho' (by rw[Nat.zero_add];exact hif) fun j o2 hj hij d hd=>hdst j o2 hj hij d hd
    rw[Nat.zero_add] at e
    rw[e]
    rw[actV_congr (S':=fun j=>(listed.setIfInBounds i true).getD j false) (vs':=fun j=>if j=i then v else vs j) l 0 a fun j hj=>⟨by
     rw[Nat.zero_add]
     by_cases q:j=i
     ·subst q;simp[his]
     ·rw[decide_eq_false q,Bool.or_false,getD_set_ne false (fun e=>q e.symm)],fun _=>rfl⟩]
    have hset: ∀j,(listed.setIfInBounds i true).getD j false=true→j≠i→listed.getD j false=true:=fun j hj q=>by
     rwa [getD_set_ne false (fun e=>q e.symm)] at hj
    have hmask: ∀j,reachB l l.length j i=false→maskV l j (fun m=>if m=i then v else vs m)=maskV l j vs:=fun j hj=>by
     funext m
     unfold maskV
     by_cases q:m=i
     ·subst q;rw[if_neg (by simp[hj]),if_neg (by simp[hj])]
     ·simp only[if_neg q]
    have hii:reachB l l.length i i=false:=by
     cases q:reachB l l.length i i with
     | false=>rfl
     | true=>have:=reach_ltG hB _ _ _ q;omega
    have hI':I W':=hI i W W' hb hbv
    refine ih (listed.setIfInBounds i true) _ W' ?_ (hc.set hi) hI' (fun hd'=> ?_) (fun j hj=> ?_) (fun j hj=> ?_)
    ·have:=nlisted_set his hif l.length hil
     omega
    ·have hni:i∉D:=fun hm=>by have:=hd' i hm;simp[his] at this
     exact hH i W W' hb hni (hd fun d hdm=>by
      have hne:i≠d:=fun e=>hni (e▸hdm)
      have:=hd' d hdm
      rwa [getD_set_ne false hne] at this) hbv
    ·by_cases q:j=i
     ·subst q;simp only[if_true];exact Sg.pick_of _ _ hv
     ·simp only[if_neg q];exact hp j hj
    ·by_cases q:j=i
     ·subst q;simp only[if_true];rw[hmask _ hii];exact hv
     ·simp only[if_neg q]
      have hjl:=hset j hj q
      rw[hmask j (hno j hjl)]
      have hjn:j<l.length:=by
       by_cases q:j<l.length
       ·exact q
       ·rw[Array.getD_eq_getD_getElem?,Array.getElem?_eq_none (by rw[hc.1];simpa using q)] at hjl
        cases hjl
      have hold:=hr j hjl
      cases hs:sgA L j with
      | val c=>rw[hs] at hold;exact hold
      | pur p=>rw[hs] at hold;exact hold
      | mem p=>
        cases ht:T.getD i none with
        | none=>
          have:W'=W:=by unfold tnA at hbv;rw[ht] at hbv;exact hbv
          rw[this,←hs];exact hold
        | some t=>
          rw[←hs]
          refine hst.at (j,i) ?_ _ W W' _ hb hI' hbv hold
          unfold clG
          refine List.mem_flatMap.2 ⟨j,List.mem_range.2 hjn,List.mem_filterMap.2 ⟨i,List.mem_range.2 hil,?_⟩⟩
          rw[if_pos]
          simp only[hs,ht,Sg.isMem,Option.isSome_some,hno j hjl,Bool.not_false,Bool.and_true,Bool.true_and]
          simpa using q
   unfold wpOp
   simp only[ho]
   cases hGi:G.contains i with
   | true=>
     rw[hGi] at hwant
     rw[if_neg (by rw[hwant];decide)]
     obtain⟨hu,ht⟩:=hGo.at i hGi
     refine tail undef W ?_ ?_
     ·unfold tnA;rw[ht]
     ·rw[hu];rfl
   | false=>
   have hob:=hob0 hGi
   have hwp:=hob W (fun c W'=> ∃v,c=(actV (fun j=>decide (j<i)) vs l 0 a).put o.dst v∧(tnA T i W W'∧(sgA L i).R (maskV l i vs) W' v)) (fun e _ _=>e= .outgrown∧False) (hDD ⟨hb,fun ok=>hd fun d hd'=>by
    have h1:=List.all_eq_true.1 ok d hd'
    simp only[Bool.or_eq_true,beq_iff_eq] at h1
    rcases h1 with h1 | h1
    ·rw[h1];exact hif
    ·cases q:listed.getD d false with
     | false=>rfl
     | true=>have:=hno d q;rw[h1] at this;cases this⟩) (hDD fun j hj=>hr j (hlst j hj)) (hDD fun v W' hbv hv=>⟨v,rfl,hbv,hv⟩)
   rw[hGi] at hwant
   rw[if_pos (by rw[hwant];rfl)]
   refine .inl (wp_swap ?_ hwp (fun t ht=> ?_) fun v W' ⟨hbv,hv⟩=>tail v W' hbv hv)
   ·refine execOp_congr o (fun cs b e=>hsel cs b e) fun x hx=> ?_
    cases x with
    | tmp t=>
      refine actV_eval l 0 a a rfl rfl fun k o' hk hd=> ?_
      rw[Nat.zero_add]
      have ht:t∈o.looksAt l.toArray:=List.mem_append_left _ (List.mem_filterMap.2 ⟨.tmp t,by simpa using hx,rfl⟩)
      rcases hlook k o' t hk hd ht with q | q
      ·rw[hlst k q,decide_eq_true (reach_ltG hB _ _ _ q)]
      ·have hki:=reach_ltG hB _ _ _ q
       rw[decide_eq_false (by omega)]
       cases hkl:listed.getD k false with
       | false=>rfl
       | true=>
         exfalso
         have:=hno k hkl
         rw[q] at this
         cases this
    | const v=>rfl
    | global g=>rfl
    | func f=>rfl
   ·have: ∀(S:Nat→Bool) (r:List Oper) (k:Nat) (b:Act),(actV S vs r k b).tmps.size=b.tmps.size:=by
     intro S r
     induction r with
     | nil=>intros;rfl
     | cons o r ih=>intro k b;unfold actV;rw[ih];split;exact put_size _ _ _;rfl
    rw[this]
    exact hsz i o ho' t ht
theorem wp_region_genG2 {id:Nat} (G:List Nat) (L:List Sg) (T:List (Option (World→World→Prop))) (I Hs:World→Prop) (D:List Nat) (X:List (Nat×Nat)) (hm:P.follows .mixedOrders=true) (hB:freG l=true) (hgB:gdB2 l L G=true) (hGo:GOff L T G) (hX:clG l L T=X) (hsz:(l.all fun o=>match o.dst with | some t=>decide (t<a.tmps.size) | none=>true)=true)
  (hI0:I w.drew) (hH0:Hs w.drew) (hIT:Its I T) (hHT:ItD I Hs D T 0 T) (hst:Stb I L T X)
  (h: ∀vs,ObwG G P (JH I Hs l D) l L T vs Q l L 0 a):(Code.region id l.toArray true).wp P Q a w:=by
 refine wp_region_any hm ?_
 subst hX
 have hv: ∀j,j<l.length→(sgA L j).pick ((sgA L j).pick undef)=(sgA L j).pick undef:=fun j _=>by cases sgA L j<;>rfl
 have h0: ∀j,(Array.replicate l.toArray.size false).getD j false=false:=fun j=>by
  simp only[Array.getD_eq_getD_getElem?,Array.getElem?_replicate]
  split<;>rfl
 have:=gen_anyG2 (P:=P) (Q:=Q) (G:=G) hB hgB hGo (fun i o ho t ht=>by
  have:=List.all_eq_true.1 hsz o (List.mem_of_getElem? ho)
  rw[ht] at this
  simpa using this) hIT.at hHT hst h l.toArray.size (Array.replicate l.toArray.size false) (fun j=>(sgA L j).pick undef) w.drew (by
   have:(List.range l.length).filter (fun j=> !(Array.replicate l.toArray.size false).getD j false)=List.range l.length:=List.filter_eq_self.2 fun j _=>by rw[h0];rfl
   rw[this];simp) ⟨by simp,fun j o _ hj=>by rw[h0] at hj;cases hj⟩ hI0 (fun _=>hH0) hv (fun j hj=>by rw[h0] at hj;cases hj)
 have e:actV (fun j=>(Array.replicate l.toArray.size false).getD j false) (fun j=>(sgA L j).pick undef) l 0 a=a:=by
  have: ∀(r:List Oper) (k:Nat) (b:Act),actV (fun j=>(Array.replicate l.toArray.size false).getD j false) (fun j=>(sgA L j).pick undef) r k b=b:=by
   intro r
   induction r with
   | nil=>intros;rfl
   | cons o r ih=>intro k b;unfold actV;rw[h0];exact ih _ _
  exact this l 0 a
 rw[e] at this
 exact this
end
end Go.Proofs.YtlgcflpaekbopaaGreat
namespace Go.Proofs.YtlgcflpaekbopaaGreat
set_option maxRecDepth 20000
set_option linter.unusedVariables false
set_option linter.unusedSimpArgs false
open Go.RowKit
def ArgM (w:World) (v:Value) (d:MoD):Prop:= ∃s,v= .agg #[.int .i64 d.1,s]∧I64 d.1∧RdII w s d.2
theorem ArgM.below {w w':World} {v:Value} {d:MoD} (h:ArgM w v d) (hb:Below w.heap.size w w'):ArgM w' v d:=by
 obtain⟨s,e,i,r⟩:=h
 exact⟨s,e,i,r.below hb⟩
def morB (m:MoD):Bool:=m.2.all (wordB m.1)&&inB m.1 1 3&&decide ((m.2.length:Int)=m.1)
theorem morB_parts {m:MoD} (h:morB m=true):(∀x∈m.2,wordB m.1 x=true)∧inB m.1 1 3=true∧(m.2.length:Int)=m.1:=by
 unfold morB at h
 simp only[Bool.and_eq_true,List.all_eq_true,decide_eq_true_eq] at h
 exact⟨h.1.1,h.1.2,h.2⟩
structure MBx (w:World) (p:Nat) (x y:Value):Prop where
 c0:w.cell? ⟨p,0,none⟩=some x
 c1:w.cell? ⟨p,1,none⟩=some y
 fz: ∀j,w.frozen? ⟨p,j,none⟩=false
 lt:p<w.heap.size
theorem MBx.below {w w':World} {p:Nat} {x y:Value} (h:MBx w p x y) (hb:Below w.heap.size w w'):MBx w' p x y:=
 ⟨(hb.cell (p:=⟨p,0,none⟩) h.lt).trans h.c0,(hb.cell (p:=⟨p,1,none⟩) h.lt).trans h.c1,fun j=>(hb.frozen (p:=⟨p,j,none⟩) h.lt).trans (h.fz j),Nat.lt_of_lt_of_le h.lt hb.size⟩
theorem MBx.belowAt {w w':World} {p n:Nat} {x y:Value} (h:MBx w p x y) (hb:Below n w w') (hn:p<n):MBx w' p x y:=
 ⟨(hb.cell (p:=⟨p,0,none⟩) hn).trans h.c0,(hb.cell (p:=⟨p,1,none⟩) hn).trans h.c1,fun j=>(hb.frozen (p:=⟨p,j,none⟩) hn).trans (h.fz j),Nat.lt_of_lt_of_le h.lt hb.size⟩
theorem MBx.new {w W:World} {x y:Value} {t:TypeId} (hW:W=w.alloc (.cells #[x,y] t)):MBx W w.heap.size x y∧Below w.heap.size w W∧W.heap.size=w.heap.size+1:=by
 refine⟨⟨by rw[hW];simp[go_sem],by rw[hW];simp[go_sem],fun j=>by rw[hW];simp[go_sem],by rw[hW];simp⟩,by rw[hW];exact(Below.refl _ _).alloc (Nat.le_refl _) _,by rw[hW];simp⟩
set_option maxHeartbeats 2000000 in
theorem specEqualWordLists_any (v u:Value) (L M:List (List Int)) (w:World) (h:RdII w v L) (h':RdII w u M):
  Calls Tryz.prog 55 #[v,u] w fun e w'=>e= .returned (.bool (decide (L=M)))∧Below w.heap.size w w':=by
 have HL:=hDD h
 have HM:=hDD h'
 obtain⟨A,c,rfl,hc,hm,_⟩:=h.form
 obtain⟨A',c',rfl,hc',hm',_⟩:=h'.form
 unfold maxLen at hm hm'
 clear h h'
 by_cases hne:L.length=M.length
 ·have hd:((L.length:Int) != (M.length:Int))=false:=by simp[hne]
  have HNE:=hDD hne
  clear hne
  go_enter Tryz.func55,Tryz.ntmps55
  go_wp2
  go_loopw [5] (fun i wr=> ∃k:Nat,k≤L.length∧i= .int .i64 k∧L.take k=M.take k∧Below w.heap.size w wr) (fun i _=>L.length-(intOf i).toNat)
  case atStart=>exact⟨0,Nat.zero_le _,rfl,by simp,Below.refl _ _⟩
  case round=>
   obtain⟨k,hk,rfl,heq,hb⟩:=hrel
   have HEQ:=hDD heq
   have HB:=hDD hb
   have hsb:=hb.size
   clear heq hb
   by_cases hlt:k<L.length
   ·have hltI:(k:Int)<(L.length:Int):=by omega
    have hlt':k<M.length:=by have:=HNE.out;omega
    obtain⟨b1,o1,A1,c1,rfl,q1,y1,-,-,r1⟩:=(HL.out.below HB.out).at hlt
    obtain⟨b2,o2,A2,c2,rfl,q2,y2,-,-,r2⟩:=(HM.out.below HB.out).at hlt'
    have R1:=hDD r1
    have R2:=hDD r2
    have HX:Hid (decide (L[k]=M[k])=true→L.take (k+1)=M.take (k+1)):=hDD fun e=>take_eq_succ HEQ.out hlt hlt' (of_decide_eq_true e)
    have HY:Hid (decide (L[k]=M[k])=false→decide (L=M)=false):=hDD fun e=>decide_eq_false fun q=>by subst q;simp at e
    have HE:=hDD (fun W (h1:RdI W (.slice A1 L[k].length c1) L[k]) (h2:RdI W (.slice A2 M[k].length c2) M[k])=>specEqualWords_any _ _ L[k] M[k] W h1.arg h2.arg)
    have hwk:IntKind.i64.wrap ((k:Int)+1)=((k+1:Nat):Int):=by rw[IntKind.wrap_i64];omega
    clear r1 r2 HEQ HNE HL HM
    generalize L[k]=x at*
    generalize M[k]=y at*
    generalize decide (x=y)=b at*
    cases b
    all_goals
     go_wp2_with fail
    ·skip
     refine wp_region_genG2 [] [.val (.slice (some ⟨b1,o1,none⟩) L.length c), .val (.int .i64 k), .val (.pointer (some ⟨b1,o1+k,none⟩)), .val (.slice A1 x.length c1), .val (.slice (some ⟨b2,o2,none⟩) M.length c'), .val (.int .i64 k), .val (.pointer (some ⟨b2,o2+k,none⟩)), .val (.slice A2 y.length c2), .val (.bool false), .val (.bool true)]
      [none,none,none,none,none,none,none,none,some (fun W W'=>Below W.heap.size W W'),none]
      (fun W=>Below wr.heap.size wr W) (fun _=>True) [] [] (by kernel_rfl) (by kernel_rfl) (by kernel_rfl)
      trivial (by rfl) (by rfl) (Below.refl _ _).drew trivial
      ⟨fun _ _ h t=>h.trans (t.mono h.size),trivial⟩ (itD_nil _ 0)
      trivial (fun vs=> ?_)
     refine⟨fun W' K' Q0 hI hD hK=> ?_,?_⟩
     ·skip
      go_simp
      exact hK.out _ _ rfl rfl
     simp only[Act.put,List.setIfInBounds_toArray,List.set_cons_zero,List.set_cons_succ,Sg.pick,Nat.reduceAdd]
     refine⟨fun W' K' Q0 hI hD hK=> ?_,?_⟩
     ·skip
      go_simp
      exact hK.out _ _ rfl rfl
     simp only[Act.put,List.setIfInBounds_toArray,List.set_cons_zero,List.set_cons_succ,Sg.pick,Nat.reduceAdd]
     refine⟨fun W' K' Q0 hI hD hK=> ?_,?_⟩
     ·skip
      go_simp
      exact hK.out _ _ rfl rfl
     simp only[Act.put,List.setIfInBounds_toArray,List.set_cons_zero,List.set_cons_succ,Sg.pick,Nat.reduceAdd]
     refine⟨fun W' K' Q0 hI hD hK=> ?_,?_⟩
     ·have z0:=(hI.out.1.cell (p:=⟨b1,o1+k,none⟩) q1).trans y1
      go_simp
      exact hK.out _ _ rfl rfl
     simp only[Act.put,List.setIfInBounds_toArray,List.set_cons_zero,List.set_cons_succ,Sg.pick,Nat.reduceAdd]
     refine⟨fun W' K' Q0 hI hD hK=> ?_,?_⟩
     ·skip
      go_simp
      exact hK.out _ _ rfl rfl
     simp only[Act.put,List.setIfInBounds_toArray,List.set_cons_zero,List.set_cons_succ,Sg.pick,Nat.reduceAdd]
     refine⟨fun W' K' Q0 hI hD hK=> ?_,?_⟩
     ·skip
      go_simp
      exact hK.out _ _ rfl rfl
     simp only[Act.put,List.setIfInBounds_toArray,List.set_cons_zero,List.set_cons_succ,Sg.pick,Nat.reduceAdd]
     refine⟨fun W' K' Q0 hI hD hK=> ?_,?_⟩
     ·skip
      go_simp
      exact hK.out _ _ rfl rfl
     simp only[Act.put,List.setIfInBounds_toArray,List.set_cons_zero,List.set_cons_succ,Sg.pick,Nat.reduceAdd]
     refine⟨fun W' K' Q0 hI hD hK=> ?_,?_⟩
     ·have z0:=(hI.out.1.cell (p:=⟨b2,o2+k,none⟩) q2).trans y2
      go_simp
      exact hK.out _ _ rfl rfl
     simp only[Act.put,List.setIfInBounds_toArray,List.set_cons_zero,List.set_cons_succ,Sg.pick,Nat.reduceAdd]
     refine⟨fun W' K' Q0 hI hD hK=> ?_,?_⟩
     ·skip
      go_simp
      refine(HE.out _ (R1.out.below hI.out.1) (R2.out.below hI.out.1)).mono ?_;rintro e w' ⟨rfl,nd,rfl⟩;exact hK.out _ _ (bel_drewN (Below.refl _ _) _) rfl
     simp only[Act.put,List.setIfInBounds_toArray,List.set_cons_zero,List.set_cons_succ,Sg.pick,Nat.reduceAdd]
     refine⟨fun W' K' Q0 hI hD hK=> ?_,?_⟩
     ·skip
      go_simp
      exact hK.out _ _ rfl rfl
     simp only[Act.put,List.setIfInBounds_toArray,List.set_cons_zero,List.set_cons_succ,Sg.pick,Nat.reduceAdd]
     intro W9 hI9 hD9
     have I9:=hDD hI9.out.1
     clear hI9 hD9
     go_wp2
     go_ret
     exact⟨ret_bool (HY.out (by trivial)).symm,HB.out.trans (I9.out.mono hsb)⟩
    ·skip
     refine wp_region_genG2 [] [.val (.slice (some ⟨b1,o1,none⟩) L.length c), .val (.int .i64 k), .val (.pointer (some ⟨b1,o1+k,none⟩)), .val (.slice A1 x.length c1), .val (.slice (some ⟨b2,o2,none⟩) M.length c'), .val (.int .i64 k), .val (.pointer (some ⟨b2,o2+k,none⟩)), .val (.slice A2 y.length c2), .val (.bool true), .val (.bool false)]
      [none,none,none,none,none,none,none,none,some (fun W W'=>Below W.heap.size W W'),none]
      (fun W=>Below wr.heap.size wr W) (fun _=>True) [] [] (by kernel_rfl) (by kernel_rfl) (by kernel_rfl)
      trivial (by rfl) (by rfl) (Below.refl _ _).drew trivial
      ⟨fun _ _ h t=>h.trans (t.mono h.size),trivial⟩ (itD_nil _ 0)
      trivial (fun vs=> ?_)
     refine⟨fun W' K' Q0 hI hD hK=> ?_,?_⟩
     ·skip
      go_simp
      exact hK.out _ _ rfl rfl
     simp only[Act.put,List.setIfInBounds_toArray,List.set_cons_zero,List.set_cons_succ,Sg.pick,Nat.reduceAdd]
     refine⟨fun W' K' Q0 hI hD hK=> ?_,?_⟩
     ·skip
      go_simp
      exact hK.out _ _ rfl rfl
     simp only[Act.put,List.setIfInBounds_toArray,List.set_cons_zero,List.set_cons_succ,Sg.pick,Nat.reduceAdd]
     refine⟨fun W' K' Q0 hI hD hK=> ?_,?_⟩
     ·skip
      go_simp
      exact hK.out _ _ rfl rfl
     simp only[Act.put,List.setIfInBounds_toArray,List.set_cons_zero,List.set_cons_succ,Sg.pick,Nat.reduceAdd]
     refine⟨fun W' K' Q0 hI hD hK=> ?_,?_⟩
     ·have z0:=(hI.out.1.cell (p:=⟨b1,o1+k,none⟩) q1).trans y1
      go_simp
      exact hK.out _ _ rfl rfl
     simp only[Act.put,List.setIfInBounds_toArray,List.set_cons_zero,List.set_cons_succ,Sg.pick,Nat.reduceAdd]
     refine⟨fun W' K' Q0 hI hD hK=> ?_,?_⟩
     ·skip
      go_simp
      exact hK.out _ _ rfl rfl
     simp only[Act.put,List.setIfInBounds_toArray,List.set_cons_zero,List.set_cons_succ,Sg.pick,Nat.reduceAdd]
     refine⟨fun W' K' Q0 hI hD hK=> ?_,?_⟩
     ·skip
      go_simp
      exact hK.out _ _ rfl rfl
     simp only[Act.put,List.setIfInBounds_toArray,List.set_cons_zero,List.set_cons_succ,Sg.pick,Nat.reduceAdd]
     refine⟨fun W' K' Q0 hI hD hK=> ?_,?_⟩
     ·skip
      go_simp
      exact hK.out _ _ rfl rfl
     simp only[Act.put,List.setIfInBounds_toArray,List.set_cons_zero,List.set_cons_succ,Sg.pick,Nat.reduceAdd]
     refine⟨fun W' K' Q0 hI hD hK=> ?_,?_⟩
     ·have z0:=(hI.out.1.cell (p:=⟨b2,o2+k,none⟩) q2).trans y2
      go_simp
      exact hK.out _ _ rfl rfl
     simp only[Act.put,List.setIfInBounds_toArray,List.set_cons_zero,List.set_cons_succ,Sg.pick,Nat.reduceAdd]
     refine⟨fun W' K' Q0 hI hD hK=> ?_,?_⟩
     ·skip
      go_simp
      refine(HE.out _ (R1.out.below hI.out.1) (R2.out.below hI.out.1)).mono ?_;rintro e w' ⟨rfl,nd,rfl⟩;exact hK.out _ _ (bel_drewN (Below.refl _ _) _) rfl
     simp only[Act.put,List.setIfInBounds_toArray,List.set_cons_zero,List.set_cons_succ,Sg.pick,Nat.reduceAdd]
     refine⟨fun W' K' Q0 hI hD hK=> ?_,?_⟩
     ·skip
      go_simp
      exact hK.out _ _ rfl rfl
     simp only[Act.put,List.setIfInBounds_toArray,List.set_cons_zero,List.set_cons_succ,Sg.pick,Nat.reduceAdd]
     intro W9 hI9 hD9
     have I9:=hDD hI9.out.1
     clear hI9 hD9
     replace HB:=hDD (HB.out.trans (I9.out.mono hsb))
     go_wp2
     go_roundw
     case rel=>exact⟨k+1,by omega,by go_num,HX.out (by trivial),HB.out⟩
     case measure=>(simp[intOf];omega)
   ·obtain rfl:k=L.length:=by omega
    have hltI: ¬(L.length:Int)<(L.length:Int):=by omega
    go_wp2
    go_ret
    refine⟨ret_bool ?_,HB.out⟩
    have h1:=HEQ.out
    rw[List.take_length,HNE.out,List.take_length] at h1
    simp[h1]
 ·have hd:((L.length:Int) != (M.length:Int))=true:=by simp;omega
  go_enter Tryz.func55,Tryz.ntmps55
  go_wp2
  go_ret
  exact⟨ret_bool (by symm;rw[decide_eq_false_iff_not];rintro rfl;exact hne rfl),Below.refl _ _⟩
set_option maxHeartbeats 2000000 in
theorem specEqualMorphisms_any (v u:Value) (d d':MoD) (w:World) (h:ArgM w v d) (h':ArgM w u d'):
  Calls Tryz.prog 9 #[v,u] w fun e w'=>e= .returned (.bool (decide (d=d')))∧Below w.heap.size w w':=by
 obtain⟨s,rfl,-,ha⟩:=h
 obtain⟨s',rfl,-,ha'⟩:=h'
 obtain⟨x,L⟩:=d
 obtain⟨y,M⟩:=d'
 have HL:=hDD ha
 have HM:=hDD ha'
 obtain⟨A,c,rfl,_⟩:=ha.form
 obtain⟨A',c',rfl,_⟩:=ha'.form
 clear ha ha'
 simp only at HL HM
 rcases e1:(x==y) with _ | _
 ·have F:Hid (decide ((x,L)=(y,M))=false):=hDD (by simp at e1;simp[e1])
  go_enter Tryz.func9,Tryz.ntmps9
  go_wp2
  go_ret
  exact⟨ret_bool (by simpa using F.out.symm),(by repeat(first | exact Below.refl _ _ | (refine Below.setCell ?_ (by first | omega | (simp<;>omega)) _) | (refine bel_drewN ?_ _) | (refine Below.drew ?_) | (refine Below.alloc ?_ (by first | omega | (simp<;>omega)) _)))⟩
 ·have F:Hid (decide ((x,L)=(y,M))=decide (L=M)):=hDD (by simp at e1;simp[e1])
  go_enter Tryz.func9,Tryz.ntmps9
  go_wp2_with fail
  have hb:Below w.heap.size w ((w.alloc (Obj.cells #[Value.int IntKind.i64 x, .slice A L.length c] 31)).alloc (Obj.cells #[Value.int IntKind.i64 y, .slice A' M.length c'] 31)):=(by repeat(first | exact Below.refl _ _ | (refine Below.setCell ?_ (by first | omega | (simp<;>omega)) _) | (refine bel_drewN ?_ _) | (refine Below.drew ?_) | (refine Below.alloc ?_ (by first | omega | (simp<;>omega)) _)))
  have HB:=hDD hb
  have hbs:=hb.size
  refine(specEqualWordLists_any _ _ L M _ (HL.out.below hb) (HM.out.below hb)).mono ?_
  rintro e w1 ⟨rfl,b1⟩
  have B1:=hDD (HB.out.trans (b1.mono hbs))
  clear hb b1
  generalize decide (L=M)=b at*
  go_wp2
  go_ret
  exact⟨ret_bool F.out.symm,B1.out⟩
def idL (n:Nat):List (List Int):=(List.range n).map fun (i:Nat)=> [(i:Int)+1]
theorem idL_succ (k:Nat):idL (k+1)=idL k++ [[(k:Int)+1]]:=by simp[idL,List.range_succ]
theorem idL_len (k:Nat):(idL k).length=k:=by simp[idL]
set_option maxHeartbeats 2000000 in
theorem specIdentityMorphism_any (n:Nat) (w:World) (h1:1≤n) (h3:n≤3):
  Calls Tryz.prog 14 #[.int .i64 n] w fun e w'=> ∃s,e= .returned (.tuple #[.agg #[.int .i64 n,s], .bool true])∧OwII w.heap.size w'.heap.size s (idL n) w'∧Below w.heap.size w w':=by
 have hin:inB (n:Int) 1 3=true:=inB_iff.2 ⟨by omega,by omega⟩
 have HIN:=hDD (fun W=>l1In_any n 1 3 W)
 rw[hin] at HIN
 clear hin
 go_enter Tryz.func14,Tryz.ntmps14
 go_wp2_with fail
 refine(HIN.out _).mono ?_
 rintro e w1 ⟨rfl,rfl⟩
 go_wp2_with fail
 obtain⟨w1,hw1⟩: ∃W,W=w.alloc (Obj.cells #[Value.int IntKind.i64 0,Value.slice none 0 0] 31):=⟨_,rfl⟩
 rw[←hw1]
 obtain⟨x1,b1,s1⟩:=MBx.new hw1
 have X1:=hDD x1
 have BB1:=hDD b1
 have HS1:=hDD s1
 clear x1 b1 s1 hw1
 go_loopw [5] (fun i wr=> ∃k:Nat,k≤n∧i= .int .i64 (k+1)∧ ∃s:Value,wr.cell? ⟨w.heap.size+1,0,none⟩=some (.int .i64 n)∧wr.cell? ⟨w.heap.size+1,1,none⟩=some s∧(∀o,wr.frozen? ⟨w.heap.size+1,o,none⟩=false)∧OwII (w.heap.size+2) wr.heap.size s (idL k) wr∧Below (w.heap.size+1) w1 wr∧w.heap.size+1<wr.heap.size)
  (fun i _=>n+1-(intOf i).toNat)
 case atStart=>
  refine⟨0,Nat.zero_le _,rfl, .slice none 0 0,by simp[go_sem,HS1.out],by simp[go_sem,HS1.out],by simp[go_sem,HS1.out],OwII_none _ _ _,(Below.refl _ _).alloc (by have:=HS1.out;omega) _,by have:=HS1.out;simp;omega⟩
 case round=>
  obtain⟨k,hk,rfl,s,h0,h1',hf,hs,hb5,hg5⟩:=hrel
  have hlen:=idL_len k
  have HB5:=hDD hb5
  have HO5:=hDD hs
  obtain⟨A5,cap5,rfl,_⟩:=hs.len
  clear hs hb5
  by_cases hlt:k<n
  ·have hltI:(k:Int)+1≤(n:Int):=by omega
   have HI2:I64s [(k:Int)+1]:=fun y hy=>by rw[List.mem_singleton.1 hy];exact⟨by omega,by omega⟩
   have HIM:=hDD (idL_succ k)
   have hlk:(idL k).length≤3:=by omega
   clear hlen
   generalize idL k=acc at HO5 HIM hlk h1'
   have O1:Hid (OwI (wr.alloc (Obj.cells #[Value.int IntKind.i64 ((k:Int)+1)] 3)) wr.heap.size (.slice (some ⟨wr.heap.size,0,none⟩) 1 1) [(k:Int)+1]):=hDD (OwI_lit wr [(k:Int)+1] HI2 (by simp) (Nat.le_refl _))
   have B1:Hid (Below wr.heap.size wr (wr.alloc (Obj.cells #[Value.int IntKind.i64 ((k:Int)+1)] 3))):=hDD ((Below.refl _ _).alloc (Nat.le_refl _) _)
   go_wp2_with (at_builtin;refine push_ints rfl (.tmp 18) (.tmp 21) rfl (w0:=wr) HO5.out (by omega) (B1.out.alloc (by simp) _) rfl _ _ _ rfl (O1.out.alloc _) (Nat.le_refl _) (by simp[go_sem]) rfl (by omega) ?_;intro vz wz oz gz;obtain⟨Az,cz,rfl,_⟩:=OwnL.len oz;obtain⟨hcz,hfz⟩:=cell_grown_alloc gz (b:=w.heap.size+1) (by simp;omega) (fun h=>by have:=(HO5.out.lt h).1;omega);have hzz:=gz.size;simp at hzz;have hzz2:w.heap.size+1<wz.heap.size:=(by omega);have OZ:=hDD oz;have GZ:=hDD gz;clear oz gz)
   go_roundw
   case rel=>
    have q0:=(hcz 0).trans ((B1.out.cell (p:=⟨w.heap.size+1,0,none⟩) hg5).trans h0)
    have q1:=(hcz 1).trans ((B1.out.cell (p:=⟨w.heap.size+1,1,none⟩) hg5).trans h1')
    have qf:=fun o=>(hfz o).trans ((B1.out.frozen (p:=⟨w.heap.size+1,o,none⟩) hg5).trans (hf o))
    refine⟨k+1,by omega,by go_num, .slice Az (acc.length+1) cz,by simp[go_sem,q0],by simp[go_sem,q1],by simp[go_sem,qf],?_,?_,by simp;omega⟩
    ·rw[HIM.out]
     have h9:=OZ.out
     simp only[List.length_append,List.length_singleton] at h9
     have h:=h9.keep EI.stable (w':=wz.setCell ⟨w.heap.size+1,1,none⟩ (.slice Az (acc.length+1) cz)) fun b hb _=>by rw[setCell_block _ _ _ b (by show b≠w.heap.size+1;omega)]
     exact h.widen (Nat.le_refl _) (by simp)
    ·exact(((HB5.out.trans (B1.out.mono (by omega))).alloc (by simp;omega) _).grown GZ.out (by simp;omega) (fun j hj=>Nat.le_of_lt (HO5.out.lt hj).1)).setCell (Nat.le_refl _) _
   case measure=>simp[intOf];omega
  ·obtain rfl:k=n:=by omega
   have hltI: ¬(k:Int)+1≤(k:Int):=by omega
   have X:=X1.out.belowAt HB5.out (by omega)
   have e0:=X.c0
   have e1:=X.c1
   have ef:=X.fz
   have hlt2:=X.lt
   have HBW:=hDD (BB1.out.trans (HB5.out.mono (by omega)))
   go_wp2
   refine bodyPost_ret (v:= .tuple #[.agg #[.int .i64 k, .slice A5 k cap5], .bool true]) (by simp[results,Tryz.results14,go_sem,hlt2,e0,e1]) rfl ⟨_,rfl,?_,?_⟩
   ·have h0:=HO5.out
    rw[hlen] at h0
    have h:OwII (w.heap.size+2) wr.heap.size (.slice A5 k cap5) (idL k) ((wr.setCell ⟨w.heap.size,0,none⟩ (.int .i64 k)).setCell ⟨w.heap.size,1,none⟩ (.slice A5 k cap5)):=
     h0.keep EI.stable fun b hb _=>by rw[setCell_block _ _ _ b (by show b≠w.heap.size;omega),setCell_block _ _ _ b (by show b≠w.heap.size;omega)]
    exact h.widen (by omega) (by simp)
   ·exact(HBW.out.setCell (Nat.le_refl _) _).setCell (Nat.le_refl _) _
theorem mor_take {r:Int} {L:List (List Int)} {k:Nat} (h:k<L.length) (h1:(L.take k).all (wordB r)=true) (h2:wordB r L[k]=true):(L.take (k+1)).all (wordB r)=true:=by
 rw[List.take_succ_eq_append_getElem h,List.all_append,h1,Bool.true_and]
 simp[h2]
theorem mor_bad {r:Int} {L:List (List Int)} {k:Nat} (h:k<L.length) (h2:wordB r L[k]=false):L.all (wordB r)=false:=by
 rw[Bool.eq_false_iff]
 intro q
 rw[List.all_eq_true] at q
 rw[q _ (List.getElem_mem h)] at h2
 cases h2
set_option maxHeartbeats 2000000 in
theorem specIsMorphism_any (v:Value) (d:MoD) (w:World) (h:ArgM w v d) (hl: ∀x∈d.2,x.length≤1073741824):
  Calls Tryz.prog 69 #[v] w fun e w'=>e= .returned (.bool (morB d))∧Below w.heap.size w w':=by
 obtain⟨s,rfl,-,ha⟩:=h
 obtain⟨r,L⟩:=d
 have HL:=hDD ha
 obtain⟨A,c,rfl,hc,hm,_⟩:=ha.form
 unfold maxLen at hm
 have HLN:=hDD hl
 simp only at HL HLN
 clear ha hl
 go_enter Tryz.func69,Tryz.ntmps69
 go_wp2_with fail
 obtain⟨w1,hw1⟩: ∃W,W=w.alloc (Obj.cells #[Value.int IntKind.i64 r,Value.slice A L.length c] 31):=⟨_,rfl⟩
 rw[←hw1]
 obtain⟨x1,b1,s1⟩:=MBx.new hw1
 have X:=hDD x1
 replace HL:=hDD (HL.out.below b1)
 have BW:=hDD b1
 clear x1 b1 hw1
 go_loopw [3] (fun i wr=> ∃k:Nat,k≤L.length∧i= .int .i64 k∧(L.take k).all (wordB r)=true∧Below w1.heap.size w1 wr) (fun i _=>L.length-(intOf i).toNat)
 case atStart=>exact⟨0,Nat.zero_le _,rfl,by simp,Below.refl _ _⟩
 case round=>
  obtain⟨k,hk,rfl,hall,hb⟩:=hrel
  have HA:=hDD hall
  have BB:=hDD (BW.out.trans (hb.mono (by omega)))
  have HB:=hDD hb
  have hsb:=hb.size
  replace X:=hDD (X.out.below hb)
  replace HL:=hDD (HL.out.below hb)
  clear hall hb
  have u0:=X.out.c0
  have u1:=X.out.c1
  by_cases hlt:k<L.length
  ·have hltI:(k:Int)<(L.length:Int):=by omega
   obtain⟨b2,o1,A1,c1,rfl,q1,y1,-,-,r1⟩:=HL.out.at hlt
   have R1:=hDD r1
   have HT:=hDD (fun h=>mor_take (r:=r) hlt HA.out h)
   have HF:=hDD (fun h=>mor_bad (r:=r) hlt h)
   have HW:=hDD (fun W (h1:RdI W (.slice A1 L[k].length c1) L[k])=>specIsWord_any r _ L[k] W h1.arg (HLN.out _ (List.getElem_mem hlt)))
   have hwk:IntKind.i64.wrap ((k:Int)+1)=((k+1:Nat):Int):=by rw[IntKind.wrap_i64];omega
   clear r1 HA HLN
   generalize L[k]=x at*
   generalize wordB r x=b at*
   cases b
   all_goals
    go_wp2_with fail
   ·skip
    refine wp_region_genG2 [] [.val (.pointer (some ⟨w.heap.size,0,none⟩)), .val (.int .i64 r), .val (.pointer (some ⟨w.heap.size,1,none⟩)), .val (.slice (some ⟨b2,o1,none⟩) L.length c), .val (.int .i64 k), .val (.pointer (some ⟨b2,o1+k,none⟩)), .val (.slice A1 x.length c1), .val (.bool false), .val (.bool true)]
     [none,none,none,none,none,none,none,some (fun W W'=>Below W.heap.size W W'),none]
     (fun W=>Below wr.heap.size wr W) (fun _=>True) [] [] (by kernel_rfl) (by kernel_rfl) (by kernel_rfl)
     trivial (by rfl) (by rfl) (Below.refl _ _).drew trivial
     ⟨fun _ _ h t=>h.trans (t.mono h.size),trivial⟩ (itD_nil _ 0)
     trivial (fun vs=> ?_)
    refine⟨fun W' K' Q0 hI hD hK=> ?_,?_⟩
    ·skip
     go_simp
     exact hK.out _ _ rfl rfl
    simp only[Act.put,List.setIfInBounds_toArray,List.set_cons_zero,List.set_cons_succ,Sg.pick,Nat.reduceAdd]
    refine⟨fun W' K' Q0 hI hD hK=> ?_,?_⟩
    ·have z0:=(X.out.below hI.out.1).c0
     have z1:=(X.out.below hI.out.1).c1
     go_simp
     exact hK.out _ _ rfl rfl
    simp only[Act.put,List.setIfInBounds_toArray,List.set_cons_zero,List.set_cons_succ,Sg.pick,Nat.reduceAdd]
    refine⟨fun W' K' Q0 hI hD hK=> ?_,?_⟩
    ·skip
     go_simp
     exact hK.out _ _ rfl rfl
    simp only[Act.put,List.setIfInBounds_toArray,List.set_cons_zero,List.set_cons_succ,Sg.pick,Nat.reduceAdd]
    refine⟨fun W' K' Q0 hI hD hK=> ?_,?_⟩
    ·have z0:=(X.out.below hI.out.1).c0
     have z1:=(X.out.below hI.out.1).c1
     go_simp
     exact hK.out _ _ rfl rfl
    simp only[Act.put,List.setIfInBounds_toArray,List.set_cons_zero,List.set_cons_succ,Sg.pick,Nat.reduceAdd]
    refine⟨fun W' K' Q0 hI hD hK=> ?_,?_⟩
    ·skip
     go_simp
     exact hK.out _ _ rfl rfl
    simp only[Act.put,List.setIfInBounds_toArray,List.set_cons_zero,List.set_cons_succ,Sg.pick,Nat.reduceAdd]
    refine⟨fun W' K' Q0 hI hD hK=> ?_,?_⟩
    ·skip
     go_simp
     exact hK.out _ _ rfl rfl
    simp only[Act.put,List.setIfInBounds_toArray,List.set_cons_zero,List.set_cons_succ,Sg.pick,Nat.reduceAdd]
    refine⟨fun W' K' Q0 hI hD hK=> ?_,?_⟩
    ·have z0:=(hI.out.1.cell (p:=⟨b2,o1+k,none⟩) q1).trans y1
     go_simp
     exact hK.out _ _ rfl rfl
    simp only[Act.put,List.setIfInBounds_toArray,List.set_cons_zero,List.set_cons_succ,Sg.pick,Nat.reduceAdd]
    refine⟨fun W' K' Q0 hI hD hK=> ?_,?_⟩
    ·skip
     go_simp
     refine(HW.out _ (R1.out.below hI.out.1)).mono ?_;rintro e w' ⟨rfl,nd,rfl⟩;exact hK.out _ _ (bel_drewN (Below.refl _ _) _) rfl
    simp only[Act.put,List.setIfInBounds_toArray,List.set_cons_zero,List.set_cons_succ,Sg.pick,Nat.reduceAdd]
    refine⟨fun W' K' Q0 hI hD hK=> ?_,?_⟩
    ·skip
     go_simp
     exact hK.out _ _ rfl rfl
    simp only[Act.put,List.setIfInBounds_toArray,List.set_cons_zero,List.set_cons_succ,Sg.pick,Nat.reduceAdd]
    intro W9 hI9 hD9
    have I9:=hDD hI9.out.1
    clear hI9 hD9
    go_wp2
    go_ret
    exact⟨ret_bool (by unfold morB;rw[HF.out (by trivial)];rfl),BB.out.trans (I9.out.mono BB.out.size)⟩
   ·skip
    refine wp_region_genG2 [] [.val (.pointer (some ⟨w.heap.size,0,none⟩)), .val (.int .i64 r), .val (.pointer (some ⟨w.heap.size,1,none⟩)), .val (.slice (some ⟨b2,o1,none⟩) L.length c), .val (.int .i64 k), .val (.pointer (some ⟨b2,o1+k,none⟩)), .val (.slice A1 x.length c1), .val (.bool true), .val (.bool false)]
     [none,none,none,none,none,none,none,some (fun W W'=>Below W.heap.size W W'),none]
     (fun W=>Below wr.heap.size wr W) (fun _=>True) [] [] (by kernel_rfl) (by kernel_rfl) (by kernel_rfl)
     trivial (by rfl) (by rfl) (Below.refl _ _).drew trivial
     ⟨fun _ _ h t=>h.trans (t.mono h.size),trivial⟩ (itD_nil _ 0)
     trivial (fun vs=> ?_)
    refine⟨fun W' K' Q0 hI hD hK=> ?_,?_⟩
    ·skip
     go_simp
     exact hK.out _ _ rfl rfl
    simp only[Act.put,List.setIfInBounds_toArray,List.set_cons_zero,List.set_cons_succ,Sg.pick,Nat.reduceAdd]
    refine⟨fun W' K' Q0 hI hD hK=> ?_,?_⟩
    ·have z0:=(X.out.below hI.out.1).c0
     have z1:=(X.out.below hI.out.1).c1
     go_simp
     exact hK.out _ _ rfl rfl
    simp only[Act.put,List.setIfInBounds_toArray,List.set_cons_zero,List.set_cons_succ,Sg.pick,Nat.reduceAdd]
    refine⟨fun W' K' Q0 hI hD hK=> ?_,?_⟩
    ·skip
     go_simp
     exact hK.out _ _ rfl rfl
    simp only[Act.put,List.setIfInBounds_toArray,List.set_cons_zero,List.set_cons_succ,Sg.pick,Nat.reduceAdd]
    refine⟨fun W' K' Q0 hI hD hK=> ?_,?_⟩
    ·have z0:=(X.out.below hI.out.1).c0
     have z1:=(X.out.below hI.out.1).c1
     go_simp
     exact hK.out _ _ rfl rfl
    simp only[Act.put,List.setIfInBounds_toArray,List.set_cons_zero,List.set_cons_succ,Sg.pick,Nat.reduceAdd]
    refine⟨fun W' K' Q0 hI hD hK=> ?_,?_⟩
    ·skip
     go_simp
     exact hK.out _ _ rfl rfl
    simp only[Act.put,List.setIfInBounds_toArray,List.set_cons_zero,List.set_cons_succ,Sg.pick,Nat.reduceAdd]
    refine⟨fun W' K' Q0 hI hD hK=> ?_,?_⟩
    ·skip
     go_simp
     exact hK.out _ _ rfl rfl
    simp only[Act.put,List.setIfInBounds_toArray,List.set_cons_zero,List.set_cons_succ,Sg.pick,Nat.reduceAdd]
    refine⟨fun W' K' Q0 hI hD hK=> ?_,?_⟩
    ·have z0:=(hI.out.1.cell (p:=⟨b2,o1+k,none⟩) q1).trans y1
     go_simp
     exact hK.out _ _ rfl rfl
    simp only[Act.put,List.setIfInBounds_toArray,List.set_cons_zero,List.set_cons_succ,Sg.pick,Nat.reduceAdd]
    refine⟨fun W' K' Q0 hI hD hK=> ?_,?_⟩
    ·skip
     go_simp
     refine(HW.out _ (R1.out.below hI.out.1)).mono ?_;rintro e w' ⟨rfl,nd,rfl⟩;exact hK.out _ _ (bel_drewN (Below.refl _ _) _) rfl
    simp only[Act.put,List.setIfInBounds_toArray,List.set_cons_zero,List.set_cons_succ,Sg.pick,Nat.reduceAdd]
    refine⟨fun W' K' Q0 hI hD hK=> ?_,?_⟩
    ·skip
     go_simp
     exact hK.out _ _ rfl rfl
    simp only[Act.put,List.setIfInBounds_toArray,List.set_cons_zero,List.set_cons_succ,Sg.pick,Nat.reduceAdd]
    intro W9 hI9 hD9
    have I9:=hDD hI9.out.1
    clear hI9 hD9
    replace HB:=hDD (HB.out.trans (I9.out.mono hsb))
    go_wp2
    go_roundw
    case rel=>exact⟨k+1,by omega,by go_num,HT.out (by trivial),HB.out⟩
    case measure=>(simp[intOf];omega)
  ·obtain rfl:k=L.length:=by omega
   have hltI: ¬(L.length:Int)<(L.length:Int):=by omega
   have hall:=HA.out
   rw[List.take_length] at hall
   have F:Hid (morB (r,L)=(inB r 1 3&&decide ((L.length:Int)=r))):=hDD (by unfold morB;rw[hall];rfl)
   have HIN:=hDD (fun W=>l1In_any r 1 3 W)
   have hdb:((L.length:Int)==r)=decide ((L.length:Int)=r):=by rw[Bool.eq_iff_iff];simp
   clear hall HA
   rcases e1:inB r 1 3 with _ | _
   ·rw[e1] at HIN F
    clear e1 hdb
    go_wp2_with fail
    refine(HIN.out _).mono ?_
    rintro e w2 ⟨rfl,rfl⟩
    go_wp2
    go_ret
    exact⟨ret_bool (by rw[F.out];rfl),BB.out⟩
   ·rw[e1,Bool.true_and] at F
    rw[e1] at HIN
    clear e1
    rcases e2:((L.length:Int)==r) with _ | _
    all_goals
     rw[←hdb,e2] at F
     clear hdb
     go_wp2_with fail
     refine(HIN.out _).mono ?_
     rintro e w2 ⟨rfl,rfl⟩
     go_wp2
     go_ret
     exact⟨ret_bool (by rw[F.out]),BB.out⟩
set_option maxHeartbeats 2000000 in
theorem implIsMorphism_any (v:Value) (d:MoD) (w:World) (h:ArgM w v d) (hl: ∀x∈d.2,x.length≤1073741824):
  Calls Tryz.prog 65 #[v] w fun e w'=>e= .returned (.bool (morB d))∧Below w.heap.size w w':=by
 obtain⟨s,rfl,-,ha⟩:=h
 obtain⟨r,L⟩:=d
 have HL:=hDD ha
 obtain⟨A,c,rfl,hc,hm,_⟩:=ha.form
 unfold maxLen at hm
 have HLN:=hDD hl
 simp only at HL HLN
 clear ha hl
 have HIN:=hDD (fun W=>within_any r 1 3 W)
 have hdb:((L.length:Int) != r)= !decide ((L.length:Int)=r):=by rw[Bool.eq_iff_iff];simp
 rcases e1:inB r 1 3 with _ | _
 ·rw[e1] at HIN
  have F:Hid (morB (r,L)=false):=hDD (by unfold morB;simp[e1])
  clear e1 hdb
  go_enter Tryz.func65,Tryz.ntmps65
  go_wp2_with fail
  refine(HIN.out _).mono ?_
  rintro e w2 ⟨rfl,rfl⟩
  go_wp2
  go_ret
  exact⟨ret_bool F.out.symm,(by repeat(first | exact Below.refl _ _ | (refine Below.setCell ?_ (by first | omega | (simp<;>omega)) _) | (refine bel_drewN ?_ _) | (refine Below.drew ?_) | (refine Below.alloc ?_ (by first | omega | (simp<;>omega)) _)))⟩
 rw[e1] at HIN
 rcases e2:((L.length:Int) != r) with _ | _
 ·have F:Hid (morB (r,L)=L.all (wordB r)):=hDD (by
   have:decide ((L.length:Int)=r)=true:=by rw[hdb] at e2;simpa using e2
   unfold morB
   simp[e1,this])
  clear e1 hdb
  go_enter Tryz.func65,Tryz.ntmps65
  go_wp2_with fail
  refine(HIN.out _).mono ?_
  rintro e w2 ⟨rfl,rfl⟩
  clear HIN
  go_wp2_with fail
  obtain⟨w1,hw1⟩: ∃W,W=w.alloc (Obj.cells #[Value.int IntKind.i64 r,Value.slice A L.length c] 31):=⟨_,rfl⟩
  rw[←hw1]
  obtain⟨x1,b1,s1⟩:=MBx.new hw1
  have X:=hDD x1
  replace HL:=hDD (HL.out.below b1)
  have BW:=hDD b1
  clear x1 b1 hw1 e2
  go_loopw [20] (fun i wr=> ∃k:Nat,k≤L.length∧i= .int .i64 k∧(L.take k).all (wordB r)=true∧Below w1.heap.size w1 wr) (fun i _=>L.length-(intOf i).toNat)
  case atStart=>exact⟨0,Nat.zero_le _,rfl,by simp,Below.refl _ _⟩
  case round=>
   obtain⟨k,hk,rfl,hall,hb⟩:=hrel
   have HA:=hDD hall
   have BB:=hDD (BW.out.trans (hb.mono (by omega)))
   have HB:=hDD hb
   have hsb:=hb.size
   replace X:=hDD (X.out.below hb)
   replace HL:=hDD (HL.out.below hb)
   clear hall hb
   have u0:=X.out.c0
   have u1:=X.out.c1
   by_cases hlt:k<L.length
   ·have hltI:(k:Int)<(L.length:Int):=by omega
    obtain⟨b2,o1,A1,c1,rfl,q1,y1,-,-,r1⟩:=HL.out.at hlt
    have R1:=hDD r1
    have HT:=hDD (fun h=>mor_take (r:=r) hlt HA.out h)
    have HF:=hDD (fun h=>mor_bad (r:=r) hlt h)
    have HW:=hDD (fun W (h1:RdI W (.slice A1 L[k].length c1) L[k])=>implIsWord_any r _ L[k] W h1.arg (HLN.out _ (List.getElem_mem hlt)))
    have hwk:IntKind.i64.wrap ((k:Int)+1)=((k+1:Nat):Int):=by rw[IntKind.wrap_i64];omega
    clear r1 HA HLN
    generalize L[k]=x at*
    generalize wordB r x=b at*
    cases b
    ·go_wp2_with fail
     refine(HW.out _ R1.out).mono ?_
     rintro e w2 ⟨rfl,rfl⟩
     go_wp2
     go_ret
     exact⟨ret_bool (by rw[F.out,HF.out (by trivial)]),BB.out⟩
    ·go_wp2_with fail
     refine(HW.out _ R1.out).mono ?_
     rintro e w2 ⟨rfl,rfl⟩
     go_wp2
     go_roundw
     case rel=>exact⟨k+1,by omega,by go_num,HT.out (by trivial),HB.out⟩
     case measure=>(simp[intOf];omega)
   ·obtain rfl:k=L.length:=by omega
    have hltI: ¬(L.length:Int)<(L.length:Int):=by omega
    have hall:=HA.out
    rw[List.take_length] at hall
    replace F:Hid (morB (r,L)=true):=hDD (by rw[F.out,hall])
    clear hall HA
    go_wp2
    go_ret
    exact⟨ret_bool F.out.symm,BB.out⟩
 ·have F:Hid (morB (r,L)=false):=hDD (by
   have:decide ((L.length:Int)=r)=false:=by rw[hdb] at e2;simpa using e2
   unfold morB
   simp[this])
  clear e1 hdb
  go_enter Tryz.func65,Tryz.ntmps65
  go_wp2_with fail
  refine(HIN.out _).mono ?_
  rintro e w2 ⟨rfl,rfl⟩
  go_wp2
  go_ret
  exact⟨ret_bool F.out.symm,(by repeat(first | exact Below.refl _ _ | (refine Below.setCell ?_ (by first | omega | (simp<;>omega)) _) | (refine bel_drewN ?_ _) | (refine Below.drew ?_) | (refine Below.alloc ?_ (by first | omega | (simp<;>omega)) _)))⟩
end Go.Proofs.YtlgcflpaekbopaaGreat
