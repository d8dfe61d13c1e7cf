/- Parts of the proof: IsWord, UpW, Whole, LoW, Cpy, UpI, Word, Prod, Subst, Eqn, Sol, SolU, Mark, Put, IIL, SolM, Fmt, EqP, Parts, Sing, Par, ParS, CycP, EqnM, DrawW, Wh, AllWh, IsWh, WhP, WhS, Mor, MorS, MorL, EqW. -/
import Derived.Test.YtlgcflpaekbopaaGreatW01
import Derived.Deep.RegionHeld3
import Derived.Outline
import Derived.Deep.RegionLaw
namespace Go.Proofs.YtlgcflpaekbopaaGreat
set_option maxRecDepth 20000
set_option linter.unusedVariables false
set_option linter.unusedSimpArgs false
open Go.RowKit
def okAt (r:Int) (xs:List Int) (i:Nat):Bool:=letB r (xs.getD i 0)&& !(decide (0<i)&&invB (xs.getD (i-1) 0) (xs.getD i 0))
def wordB (r:Int) (xs:List Int):Bool:=inB r 1 3&&decide (xs.length≤24)&&(List.range xs.length).all (okAt r xs)
theorem wordB_true {r:Int} {xs:List Int} (h1:inB r 1 3=true) (h2:xs.length≤24) (h: ∀i,i<xs.length→okAt r xs i=true):wordB r xs=true:=by
 unfold wordB
 rw[h1]
 simp[h2]
 exact h
theorem wordB_false {r:Int} {xs:List Int} (i:Nat) (hi:i<xs.length) (h:inB r 1 3=true→okAt r xs i=false):wordB r xs=false:=by
 unfold wordB
 rcases h1:inB r 1 3 with _ | _
 ·rfl
 ·have h2:=h h1
  simp
  intro _
  exact⟨i,hi,h2⟩
theorem wordB_rank {r:Int} {xs:List Int} (h:wordB r xs=true):1≤r∧r≤3:=by
 unfold wordB at h
 simp only[Bool.and_eq_true] at h
 exact inB_iff.1 h.1.1
theorem wordB_len {r:Int} {xs:List Int} (h:wordB r xs=true):xs.length≤24:=by
 unfold wordB at h
 simp only[Bool.and_eq_true,decide_eq_true_eq] at h
 exact h.1.2
theorem wordB_ok {r:Int} {xs:List Int} (h:wordB r xs=true) (i:Nat) (hi:i<xs.length):okAt r xs i=true:=by
 unfold wordB at h
 simp only[Bool.and_eq_true,List.all_eq_true,List.mem_range] at h
 exact h.2 i hi
theorem wordB_get {r:Int} {xs:List Int} (h:wordB r xs=true) (i:Nat) (hi:i<xs.length):xs[i]≠0∧ -r≤xs[i]∧xs[i]≤r:=by
 have h1:=wordB_ok h i hi
 unfold okAt at h1
 simp only[Bool.and_eq_true] at h1
 have h2:=h1.1
 rw[letB_iff (inB_iff.2 (wordB_rank h))] at h2
 simpa[List.getD,hi] using h2
theorem okAt_zero {r:Int} {xs:List Int} (h:0<xs.length):okAt r xs 0=letB r xs[0]:=by
 simp[okAt,List.getD,h]
theorem okAt_pos {r:Int} {xs:List Int} {k:Nat} (h0:0<k) (h:k<xs.length):okAt r xs k=(letB r xs[k]&& !invB xs[k-1] xs[k]):=by
 have:k-1<xs.length:=by omega
 simp[okAt,List.getD,h,h0,this]
theorem invB_small {a b:Int} (ha:a≠0) (h1: -3≤a) (h2:a≤3):invB a b=(b==wrap64 (-a)):=by
 have:wrap64 (-a)= -a:=IntWalk.wrap64_in _ ⟨by omega,by omega⟩
 rw[this]
 unfold invB
 rw[Bool.eq_iff_iff]
 simp
 omega
set_option maxHeartbeats 2000000 in
theorem specIsWord_any (r:Int) (v:Value) (xs:List Int) (w:World) (h:ArgI w v xs) (hl:xs.length≤1073741824):
  Calls Tryz.prog 25 #[.int .i64 r,v] w fun e w'=>e= .returned (.bool (wordB r xs))∧ ∃n,w'=w.drewN n:=by
 obtain⟨A,cap,rfl,hcap,hm,hr,hb⟩:=h
 have HR:=hDD hr
 have HB:=hDD hb
 clear hr hb
 go_enter Tryz.func25,Tryz.ntmps25
 go_wp2
 go_loopw [5] (fun i wr=> ∃k:Nat,k≤xs.length∧i= .int .i64 k∧(inB r 1 3=true→ ∀j,j<k→okAt r xs j=true)∧ ∃n,wr=w.drewN n) (fun i _=>xs.length-(intOf i).toNat)
 case atStart=>exact⟨0,Nat.zero_le _,rfl,fun _ j hj=>absurd hj (by omega),0,rfl⟩
 case round=>
  obtain⟨k,hk,rfl,hok,n,rfl⟩:=hrel
  have HOK:=hDD hok
  clear hok
  by_cases hlt:k<xs.length
  ·obtain⟨b,off,rfl,hc⟩:=HB.out (by omega)
   have hcell:=hc k hlt
   by_cases h0:0<k
   ·have hcell2:=hc (k-1) (by omega)
    have HZ:=hDD (okAt_pos (r:=r) h0 hlt)
    have HP:Hid (inB r 1 3=true→xs[k-1]≠0∧ -3≤xs[k-1]∧xs[k-1]≤3):=fun hr3=>by
     have h1:=HOK.out hr3 (k-1) (by omega)
     unfold okAt at h1
     simp only[Bool.and_eq_true] at h1
     have h2:=h1.1
     rw[letB_iff hr3] at h2
     have h3:=inB_iff.1 hr3
     have h4:xs.getD (k-1) 0=xs[k-1]:=by simp[List.getD,show k-1<xs.length by omega]
     rw[h4] at h2
     omega
    have hd0:decide ((0:Int)<(k:Int))=true:=by simp;omega
    clear hc
    generalize xs[k-1]=y at hcell2 HZ HP
    generalize hx:xs[k]=x at hcell HZ
    clear hx
    have key:Hid (∀(b:Bool),(letB r x&& !(x==wrap64 (-y)))=b→inB r 1 3=true→okAt r xs k=b):=fun b hb hr3=>by
     rw[HZ.out,invB_small (HP.out hr3).1 (HP.out hr3).2.1 (HP.out hr3).2.2];exact hb
    rcases e1:(x==0) with _ | _
    ·have e1':(x != 0)=true:=by simpa using e1
     rcases e2:inB x (wrap64 (-r)) r with _ | _
     ·have F:=hDD (key.out false (by unfold letB;rw[e1',e2];rfl))
      clear e1'
      go_wp2
      go_quiet ((go_at_call 64;first | exact quiet_left (l1In_any _ _ _ _) | exact quiet_add_left (l1In_any _ _ _ _)))
      go_wp2
      go_ret
      exact⟨ret_bool (wordB_false k hlt F.out).symm,_,World.drewN_drewN _ _ _⟩
     ·rcases e3:(x==wrap64 (-y)) with _ | _
      ·have F:=hDD (key.out true (by unfold letB;rw[e1',e2,e3];rfl))
       clear e1'
       go_wp2
       go_quiet ((go_at_call 64;first | exact quiet_left (l1In_any _ _ _ _) | exact quiet_add_left (l1In_any _ _ _ _)))
       go_wp2
       go_roundw
       case rel=>exact⟨k+1,by omega,by go_num,fun hr3 j hj=>by
        rcases Nat.lt_or_eq_of_le (Nat.le_of_lt_succ hj) with hj | rfl
        ·exact HOK.out hr3 j hj
        ·exact F.out hr3,_,rfl⟩
       case measure=>simp[intOf];omega
      ·have F:=hDD (key.out false (by rw[e3];simp))
       clear e1'
       go_wp2
       go_quiet ((go_at_call 64;first | exact quiet_left (l1In_any _ _ _ _) | exact quiet_add_left (l1In_any _ _ _ _)))
       go_wp2
       go_ret
       exact⟨ret_bool (wordB_false k hlt F.out).symm,_,World.drewN_drewN _ _ _⟩
    ·have e1':(x != 0)=false:=by simpa using e1
     have F:=hDD (key.out false (by unfold letB;rw[e1'];rfl))
     clear e1'
     go_wp2
     go_quiet (fail)
     go_wp2
     go_ret
     exact⟨ret_bool (wordB_false k hlt F.out).symm,_,World.drewN_drewN _ _ _⟩
   ·obtain rfl:k=0:=by omega
    rw[Nat.add_zero] at hcell
    have HZ:=hDD (okAt_zero (r:=r) hlt)
    clear hc
    generalize hx:xs[0]=x at hcell HZ
    clear hx
    rcases e1:(x==0) with _ | _
    ·have e1':(x != 0)=true:=by simpa using e1
     rcases e2:inB x (wrap64 (-r)) r with _ | _
     ·have F:Hid (okAt r xs 0=false):=hDD (by rw[HZ.out];unfold letB;rw[e2,Bool.and_false])
      clear e1'
      go_wp2
      go_quiet ((go_at_call 64;first | exact quiet_left (l1In_any _ _ _ _) | exact quiet_add_left (l1In_any _ _ _ _)))
      go_wp2
      go_ret
      exact⟨ret_bool (wordB_false 0 hlt fun _=>F.out).symm,_,World.drewN_drewN _ _ _⟩
     ·have F:Hid (okAt r xs 0=true):=hDD (by rw[HZ.out];unfold letB;rw[e1',e2];rfl)
      clear e1'
      go_wp2
      go_quiet ((go_at_call 64;first | exact quiet_left (l1In_any _ _ _ _) | exact quiet_add_left (l1In_any _ _ _ _)))
      go_wp2
      go_roundw
      case rel=>exact⟨1,by omega,by go_num,fun hr3 j hj=>by
       obtain rfl:j=0:=by omega
       exact F.out,_,rfl⟩
      case measure=>simp[intOf];omega
    ·have e1':(x != 0)=false:=by simpa using e1
     have F:Hid (okAt r xs 0=false):=hDD (by rw[HZ.out];unfold letB;rw[e1'];rfl)
     clear e1'
     go_wp2
     go_quiet (fail)
     go_wp2
     go_ret
     exact⟨ret_bool (wordB_false 0 hlt fun _=>F.out).symm,_,World.drewN_drewN _ _ _⟩
  ·obtain rfl:k=xs.length:=by omega
   rcases e1:inB r 1 3 with _ | _
   ·have F:Hid (wordB r xs=false):=hDD (by unfold wordB;rw[e1];rfl)
    go_wp2_with (go_at_call 64;refine(l1In_any _ _ _ _).mono ?_;rintro e w' ⟨rfl,rfl⟩)
    go_ret
    exact⟨ret_bool F.out.symm,n,rfl⟩
   ·by_cases h24:xs.length≤24
    ·have F:=hDD (wordB_true e1 h24 (HOK.out e1))
     go_wp2_with (go_at_call 64;refine(l1In_any _ _ _ _).mono ?_;rintro e w' ⟨rfl,rfl⟩)
     go_ret
     exact⟨ret_bool (by rw[F.out];simp;omega),n,rfl⟩
    ·have F:Hid (wordB r xs=false):=hDD (by unfold wordB;rw[decide_eq_false h24];simp)
     go_wp2_with (go_at_call 64;refine(l1In_any _ _ _ _).mono ?_;rintro e w' ⟨rfl,rfl⟩)
     go_ret
     exact⟨ret_bool (by rw[F.out];simp;omega),n,rfl⟩
set_option maxHeartbeats 2000000 in
theorem implIsWord_any (r:Int) (v:Value) (xs:List Int) (w:World) (h:ArgI w v xs) (hl:xs.length≤1073741824):
  Calls Tryz.prog 72 #[.int .i64 r,v] w fun e w'=>e= .returned (.bool (wordB r xs))∧w=w':=by
 obtain⟨A,cap,rfl,hcap,hm,hr,hb⟩:=h
 have HR:=hDD hr
 have HB:=hDD hb
 clear hr hb
 rcases e1:inB r 1 3 with _ | _
 ·have F:Hid (wordB r xs=false):=hDD (by unfold wordB;rw[e1];rfl)
  go_enter Tryz.func72,Tryz.ntmps72
  go_wp2_with (go_at_call 56;refine(within_any _ _ _ _).mono ?_;rintro e w' ⟨rfl,rfl⟩)
  go_ret
  exact⟨ret_bool F.out.symm,rfl⟩
 ·by_cases h24:xs.length≤24
  ·go_enter Tryz.func72,Tryz.ntmps72
   go_wp2_with (go_at_call 56;refine(within_any _ _ _ _).mono ?_;rintro e w' ⟨rfl,rfl⟩)
   go_loop [17] (fun i=> ∃k:Nat,k≤xs.length∧i= .int .i64 k∧(∀j,j<k→okAt r xs j=true)) (fun i=>xs.length-(intOf i).toNat)
   case atStart=>exact⟨0,Nat.zero_le _,rfl,fun j hj=>absurd hj (by omega)⟩
   case round=>
    obtain⟨k,hk,rfl,hok⟩:=hrel
    have HOK:=hDD hok
    clear hok
    by_cases hlt:k<xs.length
    ·obtain⟨b,off,rfl,hc⟩:=HB.out (by omega)
     have hcell:=hc k hlt
     have step: ∀(F:okAt r xs k=true),∀j,j<k+1→okAt r xs j=true:=fun F j hj=>by
      rcases Nat.lt_or_eq_of_le (Nat.le_of_lt_succ hj) with hj | rfl
      ·exact HOK.out j hj
      ·exact F
     have ST:=hDD step
     clear step
     by_cases h0:0<k
     ·have hcell2:=hc (k-1) (by omega)
      have HZ:=hDD (okAt_pos (r:=r) h0 hlt)
      have HY:=hDD (HR.out xs[k-1] (by simp))
      clear hc
      generalize xs[k-1]=y at hcell2 HZ HY
      generalize hx:xs[k]=x at hcell HZ
      clear hx
      rcases e2:letB r x with _ | _
      ·have F:Hid (okAt r xs k=false):=hDD (by rw[HZ.out,e2];rfl)
       go_wp2_with (go_at_call 57;refine(isLetter_any _ _ _).mono ?_;rintro e w' ⟨rfl,rfl⟩)
       go_ret
       exact⟨ret_bool (wordB_false k hlt fun _=>F.out).symm,rfl⟩
      ·rcases e3:invB y x with _ | _
       ·have F:Hid (okAt r xs k=true):=hDD (by rw[HZ.out,e2,e3];rfl)
        go_wp2_with (first | (go_at_call 57;refine(isLetter_any _ _ _).mono ?_;rintro e w' ⟨rfl,rfl⟩) | (go_at_call 111;refine(areInverse_any _ _ _ HY.out).mono ?_;rintro e w' ⟨rfl,rfl⟩))
        go_round
        case rel=>exact⟨k+1,by omega,by go_num,ST.out F.out⟩
        case measure=>simp[intOf];omega
       ·have F:Hid (okAt r xs k=false):=hDD (by rw[HZ.out,e2,e3];rfl)
        go_wp2_with (first | (go_at_call 57;refine(isLetter_any _ _ _).mono ?_;rintro e w' ⟨rfl,rfl⟩) | (go_at_call 111;refine(areInverse_any _ _ _ HY.out).mono ?_;rintro e w' ⟨rfl,rfl⟩))
        go_ret
        exact⟨ret_bool (wordB_false k hlt fun _=>F.out).symm,rfl⟩
     ·obtain rfl:k=0:=by omega
      rw[Nat.add_zero] at hcell
      have HZ:=hDD (okAt_zero (r:=r) hlt)
      clear hc
      generalize hx:xs[0]=x at hcell HZ
      clear hx
      rcases e2:letB r x with _ | _
      ·have F:Hid (okAt r xs 0=false):=hDD (by rw[HZ.out,e2])
       go_wp2_with (go_at_call 57;refine(isLetter_any _ _ _).mono ?_;rintro e w' ⟨rfl,rfl⟩)
       go_ret
       exact⟨ret_bool (wordB_false 0 hlt fun _=>F.out).symm,rfl⟩
      ·have F:Hid (okAt r xs 0=true):=hDD (by rw[HZ.out,e2])
       go_wp2_with (go_at_call 57;refine(isLetter_any _ _ _).mono ?_;rintro e w' ⟨rfl,rfl⟩)
       go_round
       case rel=>exact⟨1,by omega,by go_num,ST.out F.out⟩
       case measure=>simp[intOf];omega
    ·obtain rfl:k=xs.length:=by omega
     have F:=hDD (wordB_true e1 h24 HOK.out)
     go_wp2
     go_ret
     exact⟨ret_bool F.out.symm,rfl⟩
  ·have F:Hid (wordB r xs=false):=hDD (by unfold wordB;rw[decide_eq_false h24];simp)
   go_enter Tryz.func72,Tryz.ntmps72
   go_wp2_with (go_at_call 56;refine(within_any _ _ _ _).mono ?_;rintro e w' ⟨rfl,rfl⟩)
   go_ret
   exact⟨ret_bool F.out.symm,rfl⟩
end Go.Proofs.YtlgcflpaekbopaaGreat
namespace Go.Proofs.YtlgcflpaekbopaaGreat
set_option maxRecDepth 20000
set_option linter.unusedVariables false
set_option linter.unusedSimpArgs false
open Go.RowKit
end Go.Proofs.YtlgcflpaekbopaaGreat
namespace Go.Proofs.YtlgcflpaekbopaaGreat
set_option maxRecDepth 20000
set_option linter.unusedVariables false
set_option linter.unusedSimpArgs false
open Go.RowKit
def Ow3 (lo:Nat) (w:World) (v1:Value) (L1:List (List Int)) (v2:Value) (L2:List (List Int)) (v3:Value) (L3:List (List Int)):Prop:=
 ∃F1 F2 F3,OwLf EI 24 1 w v1 L1 F1∧OwLf EI 24 1 w v2 L2 F2∧OwLf EI 24 1 w v3 L3 F3∧(F1++(F2++F3)).Nodup∧ ∀b∈F1++(F2++F3),lo≤b∧b<w.heap.size
section
variable {lo:Nat} {w w' w0:World} {v1 v2 v3:Value} {L1 L2 L3:List (List Int)}
end
end Go.Proofs.YtlgcflpaekbopaaGreat
namespace Go.Proofs.YtlgcflpaekbopaaGreat
set_option maxRecDepth 20000
set_option linter.unusedVariables false
set_option linter.unusedSimpArgs false
open Go.RowKit
structure LwI (lo gl rk cl:Nat) (ls:List Int) (W wr:World) (out:Value) (L1:List (List Int)) (next:Value) (L2:List (List Int)) (layer:Value) (L3:List (List Int)):Prop where
 o:Ow3 lo wr out L1 next L2 layer L3
 l:OwI wr 0 (.slice (some ⟨gl,0,none⟩) (2*rk) cl) ls
 b:Below lo W wr
 g:gl<wr.heap.size
 a1:out.ownBlock≠some gl
 a2:next.ownBlock≠some gl
 lo_le:lo≤wr.heap.size
section
variable {lo gl rk cl:Nat} {ls:List Int} {W wr w' w0:World} {out next layer v':Value} {L1 L2 L3 L':List (List Int)}
end
end Go.Proofs.YtlgcflpaekbopaaGreat
namespace Go.Proofs.YtlgcflpaekbopaaGreat
set_option maxRecDepth 20000
set_option linter.unusedVariables false
set_option linter.unusedSimpArgs false
open Go.RowKit
set_option maxHeartbeats 400000 in
theorem copyInts_any (v:Value) (xs:List Int) (w:World) (h:RdI w v xs) (hl:xs.length≤1073741824):
  Calls Tryz.prog 63 #[v] w fun e w'=> ∃r,e= .returned r∧OwI w' w.heap.size r xs∧Below w.heap.size w w':=by
 have H:=hDD h
 obtain⟨A,cap,rfl,_⟩:=h.arg
 clear h
 go_enter Tryz.func63,Tryz.ntmps63
 go_wp2_with (at_builtin;refine append_ints rfl (.tmp 3) (.tmp 4) rfl w.heap.size _ [] (OwI_lit _ [] I64s_nil (by simp) (Nat.le_refl _)) rfl _ _ (H.out.alloc _) rfl (by simp;omega) (by simp) ?_;intro v1 w1 o1 g1 p1)
 go_ret
 exact⟨_,rfl,by simpa using o1,((Below.refl _ _).alloc (Nat.le_refl _) _).grown g1 (by simp) (fun k hk=>by simp[Value.ownBlock] at hk;omega)⟩
end Go.Proofs.YtlgcflpaekbopaaGreat
namespace Go.Proofs.YtlgcflpaekbopaaGreat
set_option maxRecDepth 20000
set_option linter.unusedVariables false
set_option linter.unusedSimpArgs false
open Go.RowKit
section
variable {α:Type} {E:El α} {t:TypeId} {width:Nat} {w w' w1 w2:World} {vs vo vo':Value} {ds:List α} {lo hi:Nat} {p:α→Bool} {k:Nat}
end
def SegI (N g off:Nat) (w:World) (hs:List Value) (L:List (List Int)):Prop:=
 hs.length=L.length∧ ∀i (h:i<hs.length) (h':i<L.length),w.cell? ⟨g,off+i,none⟩=some hs[i]∧RdI w hs[i] L[i]∧ ∀b,hs[i].ownBlock=some b→b<N∧b≠g
structure Up2 (lo N g off:Nat) (W wr:World) (hs:List Value) (LK:List (List Int)) (v:Value) (L:List (List Int)):Prop where
 o:OwII lo wr.heap.size v L wr
 s:SegI N g off wr hs LK
 b:Below lo W wr
 v:v.ownBlock=some g∨ ∃b,v.ownBlock=some b∧N≤b∧b≠g
 n:off+hs.length≤L.length
 hN:N≤wr.heap.size
 hlo:lo≤N
 hg:g<N
section
variable {lo N g off:Nat} {W wr w0 w':World} {hs:List Value} {LK L:List (List Int)} {v v':Value} {d:List Int}
end
end Go.Proofs.YtlgcflpaekbopaaGreat
namespace Go.Proofs.YtlgcflpaekbopaaGreat
set_option maxRecDepth 20000
set_option linter.unusedVariables false
set_option linter.unusedSimpArgs false
open Go.RowKit
def negL (xs:List Int):List Int:=xs.map fun x=>wrap64 (-x)
def invL (xs:List Int):List Int:=(negL xs).reverse
theorem I64_wrap (x:Int):I64 (wrap64 x):=by
 unfold I64 wrap64;omega
theorem invL_step (xs:List Int) (k:Nat) (hk:k<xs.length):(invL xs).take (k+1)=(invL xs).take k++ [wrap64 (-xs[xs.length-1-k])]:=by
 have h:k<(invL xs).length:=by simpa[invL,negL] using hk
 rw[List.take_succ_eq_append_getElem h]
 congr 2
 simp[invL,negL]
set_option maxHeartbeats 400000 in
theorem specInvertWord_any (v:Value) (xs:List Int) (w:World) (h:RdI w v xs) (hl:xs.length≤1073741824):
  Calls Tryz.prog 107 #[v] w fun e w'=> ∃r,e= .returned r∧OwI w' w.heap.size r (invL xs)∧Below w.heap.size w w':=by
 have H:=hDD h
 obtain⟨A,cap,rfl,hcap,hm,hr,hb⟩:=h.arg
 clear h hb
 go_enter Tryz.func107,Tryz.ntmps107
 go_wp2
 go_loopw [3,4] (fun out i wr=> ∃k:Nat,k≤xs.length∧i= .int .i64 ((xs.length:Int)-1-(k:Int))∧OwI wr w.heap.size out ((invL xs).take k)∧Below w.heap.size w wr)
  (fun _ i _=>(intOf i+1).toNat)
 case atStart=>exact⟨0,Nat.zero_le _,by simp,OwI_lit _ [] I64s_nil (by simp) (Nat.le_refl _),(Below.refl _ _).alloc (Nat.le_refl _) _⟩
 case round=>
  obtain⟨k,hk,rfl,hown,hbel⟩:=hrel
  have hsz:=hbel.size
  have hkl:((invL xs).take k).length≤k:=List.length_take_le _ _
  by_cases hlt:k<xs.length
  ·obtain⟨b,off,rfl,hbl,hc⟩:=(H.out.below hbel).at (by omega)
   have hcell:=hc (xs.length-1-k) (by omega)
   have HS:=hDD (invL_step xs k hlt)
   have HO:=hDD hown
   clear hc hown
   go_wp2_with (at_builtin;refine push_int rfl (.tmp 13) (.tmp 19) rfl _ _ _ (OwI.alloc HO.out _) rfl _ _ rfl (cell_new1 _ _ _) (I64_wrap _) (by first | omega | (simp<;>omega)) (by first | omega | (simp<;>omega)) ?_;intro v1 wv1 o1 g1 p1)
   go_roundw
   case rel=>exact⟨k+1,by omega,by go_num,by rw[HS.out];exact o1,bel_push hbel hsz HO.out.1 (Nat.le_refl _) g1⟩
   case measure=>simp[intOf];omega
  ·obtain rfl:k=xs.length:=by omega
   go_wp2
   go_ret
   exact⟨_,rfl,by rw[List.take_of_length_le (by simp[invL,negL])] at hown;exact hown,hbel⟩
set_option maxHeartbeats 400000 in
theorem implInvertWord_any (v:Value) (xs:List Int) (w:World) (h:RdI w v xs) (hl:xs.length≤1073741824):
  Calls Tryz.prog 102 #[v] w fun e w'=> ∃r,e= .returned r∧OwI w' w.heap.size r (invL xs)∧Below w.heap.size w w':=by
 have H:=hDD h
 obtain⟨A,cap,rfl,hcap,hm,hr,hb⟩:=h.arg
 clear h hb
 go_enter Tryz.func102,Tryz.ntmps102
 obtain⟨i0,hi0,hz0,hz1,hz2⟩:=info_parts int_info
 go_wp2_with (at_make;refine wpList_make_own _ rfl _ _ 24 rfl w.heap.size 3 i0 (.int .i64 0) 1 Tryz.underlying24 hi0 hz0 hz1 _ _ _ xs.length rfl rfl rfl (by rw[hz2];omega) (by unfold maxLen;omega) (Nat.le_refl _) ?_)
 intro w0 hown0 hgrow0
 go_wp2
 go_loopw [3,4] (fun out i wr=> ∃k:Nat,k≤xs.length∧i= .int .i64 ((xs.length:Int)-1-(k:Int))∧OwI wr w.heap.size out ((invL xs).take k)∧Below w.heap.size w wr)
  (fun _ i _=>(intOf i+1).toNat)
 case atStart=>exact⟨0,Nat.zero_le _,by simp,⟨hown0,I64s_nil⟩,(Below.refl _ _).grown hgrow0 (Nat.le_refl _) (fun k h=>by cases h)⟩
 case round=>
  obtain⟨k,hk,rfl,hown,hbel⟩:=hrel
  have hsz:=hbel.size
  have hkl:((invL xs).take k).length≤k:=List.length_take_le _ _
  by_cases hlt:k<xs.length
  ·obtain⟨b,off,rfl,hbl,hc⟩:=(H.out.below hbel).at (by omega)
   have hcell:=hc (xs.length-1-k) (by omega)
   have HS:=hDD (invL_step xs k hlt)
   have HO:=hDD hown
   clear hc hown
   go_wp2_with (at_builtin;refine push_int rfl (.tmp 15) (.tmp 21) rfl _ _ _ (OwI.alloc HO.out _) rfl _ _ rfl (cell_new1 _ _ _) (I64_wrap _) (by first | omega | (simp<;>omega)) (by first | omega | (simp<;>omega)) ?_;intro v1 wv1 o1 g1 p1)
   go_roundw
   case rel=>exact⟨k+1,by omega,by go_num,by rw[HS.out];exact o1,bel_push hbel hsz HO.out.1 (Nat.le_refl _) g1⟩
   case measure=>simp[intOf];omega
  ·obtain rfl:k=xs.length:=by omega
   go_wp2
   go_ret
   exact⟨_,rfl,by rw[List.take_of_length_le (by simp[invL,negL])] at hown;exact hown,hbel⟩
def red1 (acc:List Int) (x:Int):List Int:=if 0<acc.length∧invB (acc.getLastD 0) x=true then acc.dropLast else acc++ [x]
def redL (acc xs:List Int):List Int:=xs.foldl red1 acc
theorem red1_len (acc:List Int) (x:Int):(red1 acc x).length≤acc.length+1:=by
 unfold red1;split<;>simp;omega
theorem redL_len (acc xs:List Int):(redL acc xs).length≤acc.length+xs.length:=by
 unfold redL
 induction xs generalizing acc with
 | nil=>simp
 | cons x xs ih=>have:=ih (red1 acc x);have:=red1_len acc x;simp only[List.foldl_cons,List.length_cons];omega
theorem redL_succ (acc xs:List Int) (k:Nat) (h:k<xs.length):redL acc (xs.take (k+1))=red1 (redL acc (xs.take k)) xs[k]:=by
 unfold redL
 rw[List.take_succ_eq_append_getElem h,List.foldl_append]
 rfl
theorem red1_I64 {acc:List Int} {x:Int} (h:I64s acc) (hx:I64 x):I64s (red1 acc x):=by
 unfold red1
 split
 ·exact fun y hy=>h y (List.dropLast_subset _ hy)
 ·intro y hy
  rcases List.mem_append.1 hy with hy | hy
  ·exact h y hy
  ·simp at hy;subst hy;exact hx
theorem redL_I64 {acc xs:List Int} (h:I64s acc) (hx:I64s xs):I64s (redL acc xs):=by
 unfold redL
 induction xs generalizing acc with
 | nil=>exact h
 | cons x xs ih=>exact ih (red1_I64 h (hx x (by simp))) fun y hy=>hx y (by simp[hy])
theorem last_get {acc:List Int} (h:0<acc.length):acc.getLastD 0=acc[acc.length-1]:=by
 cases acc with
 | nil=>simp at h
 | cons a l=>simp[List.getLastD,List.getLast_eq_getElem]
theorem red1_cut {acc:List Int} {x:Int} (h:0<acc.length) (hi:invB acc[acc.length-1] x=true):red1 acc x=acc.take (acc.length-1):=by
 rw[←last_get h] at hi
 rw[red1,if_pos ⟨h,hi⟩,List.dropLast_eq_take]
theorem red1_push {acc:List Int} {x:Int} (h:0<acc.length) (hi:invB acc[acc.length-1] x=false):red1 acc x=acc++ [x]:=by
 rw[←last_get h] at hi
 rw[red1,if_neg]
 intro hh
 rw[hi] at hh
 exact absurd hh.2 (by simp)
theorem invB_spec {l x:Int} (hl:I64 l) (hx:I64 x):invB l x=(x != 0&&l==wrap64 (-x)&&l != x):=by
 have hl1:=hl.1
 have hl2:=hl.2
 unfold invB
 by_cases h:x= -9223372036854775808
 ·subst h
  have:wrap64 (- -9223372036854775808)= -9223372036854775808:=by decide+kernel
  rw[this,Bool.eq_iff_iff]
  simp
  omega
 ·rw[I64.neg hx h,Bool.eq_iff_iff]
  have hx1:=hx.1
  simp
  constructor
  ·rintro⟨⟨h1,h2⟩,h3⟩
   exact⟨⟨fun hh=>h1 (by omega),by rw[h3,Int.neg_neg]⟩,fun hh=>h1 (by omega)⟩
  ·rintro⟨⟨h1,h2⟩,h3⟩
   exact⟨⟨fun hh=>h1 (by omega),fun hh=>by have:=hx.2;omega⟩,by rw[h2,Int.neg_neg]⟩
set_option maxHeartbeats 1000000 in
theorem specReduceLetters_any (v:Value) (xs:List Int) (w:World) (h:RdI w v xs) (hl:xs.length≤1073741824):
  Calls Tryz.prog 108 #[v] w fun e w'=> ∃r,e= .returned r∧OwI w' w.heap.size r (redL [] xs)∧Below w.heap.size w w':=by
 have H:=hDD h
 obtain⟨A,cap,rfl,hcap,hm,hr,hb⟩:=h.arg
 have HR:=hDD hr
 clear h hb hr
 go_enter Tryz.func108,Tryz.ntmps108
 go_wp2
 go_loopw [3,4] (fun out i wr=> ∃k:Nat,k≤xs.length∧i= .int .i64 k∧OwI wr w.heap.size out (redL [] (xs.take k))∧Below w.heap.size w wr)
  (fun _ i _=>xs.length-(intOf i).toNat)
 case atStart=>exact⟨0,Nat.zero_le _,rfl,OwI_lit _ [] I64s_nil (by simp) (Nat.le_refl _),(Below.refl _ _).alloc (Nat.le_refl _) _⟩
 case round=>
  obtain⟨k,hk,rfl,hown,hbel⟩:=hrel
  have hsz:=hbel.size
  have hkl:(redL [] (xs.take k)).length≤k:=by have:=redL_len [] (xs.take k);have:=List.length_take_le k xs;simp at*;omega
  by_cases hlt:k<xs.length
  ·obtain⟨b,off,rfl,hbl,hc⟩:=(H.out.below hbel).at (by omega)
   have hcell:=hc k hlt
   have HS:=hDD (redL_succ [] xs k hlt)
   have HX:=hDD (HR.out xs[k] (by simp))
   generalize hg:redL [] (xs.take k)=acc at hown hkl HS
   clear hg hc
   generalize hxk:xs[k]=x at hcell HS HX
   clear hxk
   have HO:=hDD hown
   obtain⟨A1,cap1,rfl,hcap1,hm1,_,hform⟩:=hown.form
   by_cases h0:0<acc.length
   ·obtain⟨g,rfl,hg1,hg2⟩:=hform h0
    obtain⟨b1,off1,hA1,_,hc1⟩:=hown.rd.at h0
    obtain⟨rfl,rfl⟩:g=b1∧0=off1:=by simpa using hA1
    have hlast:=hc1 (acc.length-1) (by omega)
    rw[Nat.zero_add] at hlast
    have HLI:=hDD (hown.2 acc[acc.length-1] (by simp))
    have HC:=hDD (red1_cut (x:=x) h0)
    have HP:=hDD (red1_push (x:=x) h0)
    generalize acc[acc.length-1]=last at hlast HLI HC HP
    have HT:=hDD (invB_spec HLI.out HX.out)
    have hd0:decide ((0:Int)<(acc.length:Int))=true:=by simp;omega
    clear hc1 hform hown hA1
    have push: ∀(hf:invB last x=false),red1 acc x=acc++ [x]:=fun hf=>HP.out hf
    have PU:=hDD push
    clear push
    by_cases e1:x=0
    ·subst e1
     have PF:=hDD (PU.out (by rw[HT.out];simp))
     go_wp2
     go_quiet (fail)
     go_wp2_with (at_builtin;refine push_int rfl (.tmp 53) (.tmp 58) rfl _ _ _ (OwI.alloc (OwI.drewN HO.out _) _) rfl _ _ rfl (cell_new1 _ _ _) HX.out (by first | omega | (simp<;>omega)) (by first | omega | (simp<;>omega)) ?_;intro v1 wv1 o1 g1 p1)
     go_roundw
     case rel=>exact⟨k+1,by omega,by go_num,by rw[HS.out,PF.out];exact o1,bel_push (bel_drewN hbel _) hsz (OwI.drewN HO.out _).1 (Nat.le_refl _) g1⟩
     case measure=>simp[intOf];omega
    ·have e1':(x != 0)=true:=by simp[e1]
     by_cases e2:last=wrap64 (-x)
     ·have e2':(last==wrap64 (-x))=true:=by simp[e2]
      have E2:=hDD e2
      clear e2
      by_cases e3:last=x
      ·have e3':(last != x)=false:=by simp[e3]
       have PF:=hDD (PU.out (by rw[HT.out,e3'];simp))
       have E3:=hDD e3
       clear e3 e1
       go_wp2
       go_quiet (fail)
       go_wp2_with (at_builtin;refine push_int rfl (.tmp 53) (.tmp 58) rfl _ _ _ (OwI.alloc (OwI.drewN HO.out _) _) rfl _ _ rfl (cell_new1 _ _ _) HX.out (by first | omega | (simp<;>omega)) (by first | omega | (simp<;>omega)) ?_;intro v1 wv1 o1 g1 p1)
       go_roundw
       case rel=>exact⟨k+1,by omega,by go_num,by rw[HS.out,PF.out];exact o1,bel_push (bel_drewN hbel _) hsz (OwI.drewN HO.out _).1 (Nat.le_refl _) g1⟩
       case measure=>simp[intOf];omega
      ·have e3':(last != x)=true:=by simp[e3]
       have PF:=hDD (HC.out (by rw[HT.out,e1',e2',e3'];rfl))
       clear e3 e1
       go_wp2
       go_quiet (fail)
       go_wp2
       go_roundw
       case rel=>exact⟨k+1,by omega,by go_num,by rw[HS.out,PF.out];exact owI_cut (OwI.drewN HO.out _) (by omega),bel_drewN hbel _⟩
       case measure=>simp[intOf];omega
     ·have e2':(last==wrap64 (-x))=false:=by simp[e2]
      have PF:=hDD (PU.out (by rw[HT.out,e2'];simp))
      clear e2 e1
      go_wp2
      go_quiet (fail)
      go_wp2_with (at_builtin;refine push_int rfl (.tmp 53) (.tmp 58) rfl _ _ _ (OwI.alloc (OwI.drewN HO.out _) _) rfl _ _ rfl (cell_new1 _ _ _) HX.out (by first | omega | (simp<;>omega)) (by first | omega | (simp<;>omega)) ?_;intro v1 wv1 o1 g1 p1)
      go_roundw
      case rel=>exact⟨k+1,by omega,by go_num,by rw[HS.out,PF.out];exact o1,bel_push (bel_drewN hbel _) hsz (OwI.drewN HO.out _).1 (Nat.le_refl _) g1⟩
      case measure=>simp[intOf];omega
   ·obtain rfl:acc= []:=List.eq_nil_of_length_eq_zero (by omega)
    clear hform hown
    go_wp2
    go_quiet (fail)
    go_wp2_with (at_builtin;refine push_int rfl (.tmp 53) (.tmp 58) rfl _ _ _ (OwI.alloc (OwI.drewN HO.out _) _) rfl _ _ rfl (cell_new1 _ _ _) HX.out (by first | omega | (simp<;>omega)) (by first | omega | (simp<;>omega)) ?_;intro v1 wv1 o1 g1 p1)
    go_roundw
    case rel=>exact⟨k+1,by omega,by go_num,by rw[HS.out];exact o1,bel_push (bel_drewN hbel _) hsz (OwI.drewN HO.out _).1 (Nat.le_refl _) g1⟩
    case measure=>simp[intOf];omega
  ·obtain rfl:k=xs.length:=by omega
   rw[List.take_length] at hown hkl
   have HO:=hDD hown
   obtain⟨A1,cap1,rfl,hcap1,hm1,_,hform⟩:=hown.form
   clear hown hform
   go_wp2_with (at_builtin;refine append_ints rfl (.tmp 60) (.tmp 61) rfl w.heap.size _ [] (OwI_lit _ [] I64s_nil (by simp) hsz) rfl _ _ (HO.out.alloc _).rd rfl (by first | omega | (simp<;>omega)) (by first | omega | (simp<;>omega)) ?_;intro v1 w1 o1 g1 p1)
   go_ret
   exact⟨_,rfl,by simpa using o1,(hbel.alloc hsz _).grown g1 (by simp;omega) (fun k hk=>by simp[Value.ownBlock] at hk;omega)⟩
end Go.Proofs.YtlgcflpaekbopaaGreat
namespace Go.Proofs.YtlgcflpaekbopaaGreat
set_option maxRecDepth 20000
set_option linter.unusedVariables false
set_option linter.unusedSimpArgs false
open Go.RowKit
set_option maxHeartbeats 1000000 in
theorem specMultiplyWords_any (u v:Value) (xs ys:List Int) (w:World) (h:RdI w u xs) (h':RdI w v ys) (hl:xs.length≤536870912) (hl':ys.length≤536870912):
  Calls Tryz.prog 117 #[u,v] w fun e w'=> ∃r,e= .returned r∧OwI w' w.heap.size r (redL [] (xs++ys))∧Below w.heap.size w w':=by
 have H:=hDD h
 have H':=hDD h'
 clear h h'
 go_enter Tryz.func117,Tryz.ntmps117
 go_wp2_with (first
  | (at_builtin;refine append_ints rfl (.tmp 5) (.tmp 6) rfl w.heap.size _ [] (OwI_lit w [] I64s_nil (by simp) (Nat.le_refl _)) rfl _ _ (H.out.alloc _) rfl (by simp only[List.length_nil];omega) (by simp) ?_;intro v1 w1 o1 g1 p1;have O1:=hDD o1;have hb1:Hid (Below w.heap.size w w1):=hDD (((Below.refl _ _).alloc (Nat.le_refl _) _).grown g1 (by simp) (fun k hk=>by simp[Value.ownBlock] at hk;omega));clear o1 g1 p1)
  | (at_builtin;have hs1:=hb1.out.size;refine append_ints rfl (.tmp 7) (.tmp 8) rfl w.heap.size _ _ O1.out rfl _ _ (H'.out.below hb1.out) rfl (by simp only[List.length_append,List.length_nil];omega) hs1 ?_;intro v2 w2 o2 g2 p2;have O2:=hDD o2;have hb2:Hid (Below w.heap.size w w2):=hDD (hb1.out.grown g2 hs1 (fun k hk=>(O1.out.1.lt k hk).1));clear o2 g2 p2))
 have hs2:=hb2.out.size
 refine(specReduceLetters_any _ _ _ O2.out.rd (by simp only[List.length_append,List.length_nil];omega)).mono ?_
 rintro e w3 ⟨r3,rfl,o3,b3⟩
 have O3:=hDD o3
 have B3:=hDD b3
 clear o3 b3
 go_wp2
 go_ret
 exact⟨_,rfl,by have:=O3.out.mono hs2;simpa using this,hb2.out.trans (B3.out.mono hs2)⟩
def redLL (L:List (List Int)):List Int:=redL [] L.flatten
def lenLL (L:List (List Int)):Nat:=(L.map List.length).sum
theorem redLL_succ (L:List (List Int)) (k:Nat) (h:k<L.length):redLL (L.take (k+1))=redL (redLL (L.take k)) L[k]:=by
 unfold redLL redL
 rw[List.take_succ_eq_append_getElem h,List.flatten_append,List.foldl_append]
 simp
theorem lenLL_take (L:List (List Int)) (k:Nat) (h:k<L.length):lenLL (L.take k)+L[k].length≤lenLL L:=by
 unfold lenLL
 have:L=L.take k++L[k]::L.drop (k+1):=by rw[←List.drop_eq_getElem_cons h,List.take_append_drop]
 have e:=congrArg (fun l=>(l.map List.length).sum) this
 simp only[List.map_append,List.map_cons,List.sum_append,List.sum_cons] at e
 omega
theorem redLL_len (L:List (List Int)):(redLL L).length≤lenLL L:=by
 have:=redL_len [] L.flatten
 simp only[redLL,lenLL,List.length_flatten,List.length_nil] at*
 omega
set_option maxHeartbeats 1000000 in
theorem product_any (v:Value) (L:List (List Int)) (w:World) (h:RdII w v L) (hl:lenLL L≤1073741824) (hn:L.length≤1073741824):
  Calls Tryz.prog 103 #[v] w fun e w'=> ∃r,e= .returned r∧OwI w' w.heap.size r (redLL L)∧Below w.heap.size w w':=by
 have H:=hDD h
 obtain⟨A,cap,rfl,hcap,hm,hA⟩:=h.form
 have HA:=hDD hA
 clear h hA
 unfold maxLen at hm
 go_enter Tryz.func103,Tryz.ntmps103
 go_wp2
 go_loopw [3,11] (fun out i wr=> ∃k:Nat,k≤L.length∧i= .int .i64 k∧OwI wr w.heap.size out (redLL (L.take k))∧Below w.heap.size w wr)
  (fun _ i _=>L.length-(intOf i).toNat)
 case atStart=>exact⟨0,Nat.zero_le _,rfl,OwI_lit _ [] I64s_nil (by simp) (Nat.le_refl _),(Below.refl _ _).alloc (Nat.le_refl _) _⟩
 case round=>
  obtain⟨k,hk,rfl,hown,hbel⟩:=hrel
  have hsz:=hbel.size
  by_cases hlt:k<L.length
  ·have hll:=lenLL_take L k hlt
   have hkl:=redLL_len (L.take k)
   obtain⟨b,off,A1,cap1,rfl,hbl,hcell0,hc1,hm1,hrd⟩:=H.out.at hlt
   have hcell:=(hbel.cell hbl).trans hcell0
   clear hcell0
   have HS:=hDD (redLL_succ L k hlt)
   generalize redLL (L.take k)=acc0 at hown hkl HS
   have HR:=hDD hrd
   clear hrd
   generalize L[k]=ys at hcell hc1 HR hll HS
   have HO:=hDD hown
   have HB:=hDD hbel
   clear hown hbel
   unfold maxLen at hm1
   obtain⟨wo,rfl⟩: ∃wo:World,wo=wr:=⟨_,rfl⟩
   go_wp2
   go_loopw [3,17] (fun out j wi=> ∃m:Nat,m≤ys.length∧j= .int .i64 m∧OwI wi w.heap.size out (redL acc0 (ys.take m))∧Below w.heap.size w wi)
    (fun _ j _=>ys.length-(intOf j).toNat)
   case atStart=>exact⟨0,Nat.zero_le _,rfl,HO.out,HB.out⟩
   case round=>
    obtain⟨m,hm',rfl,hown,hbel⟩:=hrel
    have hsz':=hbel.size
    have hal:(redL acc0 (ys.take m)).length≤acc0.length+m:=by have:=redL_len acc0 (ys.take m);have:=List.length_take_le m ys;omega
    by_cases hlt':m<ys.length
    ·obtain⟨b',off',rfl,hbl',hc'⟩:=(HR.out.below hbel).at (by omega)
     have hcell':=hc' m hlt'
     have HS':=hDD (redL_succ acc0 ys m hlt')
     have HX:=hDD (HR.out.2 ys[m] (by simp))
     clear hc'
     generalize redL acc0 (ys.take m)=acc at hown hal HS'
     generalize ys[m]=x at hcell' HS' HX
     have HO':=hDD hown
     obtain⟨A1,cap1',rfl,hcap1,hm1',_,hform⟩:=hown.form
     unfold maxLen at hm1'
     by_cases h0:0<acc.length
     ·obtain⟨g,rfl,hg1,hg2⟩:=hform h0
      obtain⟨b1,off1,hA1,_,hc1⟩:=hown.rd.at h0
      obtain⟨rfl,rfl⟩:g=b1∧0=off1:=by simpa using hA1
      have hlast:=hc1 (acc.length-1) (by omega)
      rw[Nat.zero_add] at hlast
      have HLI:=hDD (hown.2 acc[acc.length-1] (by simp))
      have HC:=hDD (red1_cut (x:=x) h0)
      have HP:=hDD (red1_push (x:=x) h0)
      generalize acc[acc.length-1]=last at hlast HLI HC HP
      have hd0:decide ((0:Int)<(acc.length:Int))=true:=by simp;omega
      clear hc1 hform hown hA1
      rcases hi:invB last x with _ | _
      ·have PF:=hDD (HP.out hi)
       have hi':=areInverse_any last x
       rw[hi] at hi'
       have HI:=hDD hi'
       clear hi hi'
       go_wp2_with (first | (go_at_call 111;refine(HI.out _ HLI.out).mono ?_;rintro e w' ⟨rfl,rfl⟩) | (at_builtin;refine push_int rfl (.tmp 39) (.tmp 41) rfl _ _ _ (OwI.alloc HO'.out _) rfl _ _ rfl (cell_new1 _ _ _) HX.out (by first | omega | (simp<;>omega)) (by first | omega | (simp<;>omega)) ?_;intro v1 wv1 o1 g1 p1))
       go_roundw
       case rel=>exact⟨m+1,by omega,by go_num,by rw[HS'.out,PF.out];exact o1,bel_push hbel hsz' HO'.out.1 (Nat.le_refl _) g1⟩
       case measure=>simp[intOf];omega
      ·have PF:=hDD (HC.out hi)
       have hi':=areInverse_any last x
       rw[hi] at hi'
       have HI:=hDD hi'
       clear hi hi'
       go_wp2_with (go_at_call 111;refine(HI.out _ HLI.out).mono ?_;rintro e w' ⟨rfl,rfl⟩)
       go_roundw
       case rel=>exact⟨m+1,by omega,by go_num,by rw[HS'.out,PF.out];exact owI_cut HO'.out (by omega),hbel⟩
       case measure=>simp[intOf];omega
     ·obtain rfl:acc= []:=List.eq_nil_of_length_eq_zero (by omega)
      clear hform hown
      go_wp2_with (at_builtin;refine push_int rfl (.tmp 39) (.tmp 41) rfl _ _ _ (OwI.alloc HO'.out _) rfl _ _ rfl (cell_new1 _ _ _) HX.out (by first | omega | (simp<;>omega)) (by first | omega | (simp<;>omega)) ?_;intro v1 wv1 o1 g1 p1)
      go_roundw
      case rel=>exact⟨m+1,by omega,by go_num,by rw[HS'.out];exact o1,bel_push hbel hsz' HO'.out.1 (Nat.le_refl _) g1⟩
      case measure=>simp[intOf];omega
    ·obtain rfl:m=ys.length:=by omega
     rw[List.take_length] at hown
     have HO':=hDD hown
     have HB':=hDD hbel
     clear hown hbel
     go_wp2
     go_roundw
     case rel=>exact⟨k+1,by omega,by go_num,by rw[HS.out];exact HO'.out,HB'.out⟩
     case measure=>simp[intOf];omega
  ·obtain rfl:k=L.length:=by omega
   rw[List.take_length] at hown
   go_wp2
   go_ret
   exact⟨_,rfl,hown,hbel⟩
end Go.Proofs.YtlgcflpaekbopaaGreat
namespace Go.Proofs.YtlgcflpaekbopaaGreat
set_option maxRecDepth 20000
set_option linter.unusedVariables false
set_option linter.unusedSimpArgs false
open Go.RowKit
end Go.Proofs.YtlgcflpaekbopaaGreat
namespace Go.Proofs.YtlgcflpaekbopaaGreat
set_option maxRecDepth 20000
set_option linter.unusedVariables false
set_option linter.unusedSimpArgs false
open Go.RowKit
end Go.Proofs.YtlgcflpaekbopaaGreat
namespace Go.Proofs.YtlgcflpaekbopaaGreat
set_option maxRecDepth 20000
set_option linter.unusedVariables false
set_option linter.unusedSimpArgs false
open Go.RowKit
end Go.Proofs.YtlgcflpaekbopaaGreat
namespace Go.Proofs.YtlgcflpaekbopaaGreat
set_option maxRecDepth 20000
set_option linter.unusedVariables false
set_option linter.unusedSimpArgs false
open Go.RowKit
end Go.Proofs.YtlgcflpaekbopaaGreat
namespace Go.Proofs.YtlgcflpaekbopaaGreat
set_option maxRecDepth 20000
set_option linter.unusedVariables false
set_option linter.unusedSimpArgs false
section
variable {α:Type} (c:α→Nat) (m:Int→α→α)
def cntL (ds:List α):Nat:=(ds.map c).sum
variable {c m}
theorem cntL_cons (d:α) (ds:List α):cntL c (d::ds)=c d+cntL c ds:=by simp[cntL]
end
end Go.Proofs.YtlgcflpaekbopaaGreat
namespace Go.Proofs.YtlgcflpaekbopaaGreat
set_option maxRecDepth 20000
set_option linter.unusedVariables false
set_option linter.unusedSimpArgs false
open Go.RowKit
section
variable {α:Type} {E:El α} {t:TypeId} {width:Nat} {w w' w1 w2:World} {v v':Value} {ds:List α} {lo hi:Nat}
theorem set_grown (w:World) (g j:Nat) (u:Value):w.grownBy (w.setCell ⟨g,j,none⟩ u) (some g):=
 ⟨rfl,rfl,rfl,by simp,fun b _ hb=>Below.heap_setCell w _ u b (fun e=>hb (by rw[e]))⟩
end
end Go.Proofs.YtlgcflpaekbopaaGreat
namespace Go.Proofs.YtlgcflpaekbopaaGreat
set_option maxRecDepth 20000
set_option linter.unusedVariables false
set_option linter.unusedSimpArgs false
open Go.RowKit
section
variable {w w':World} {v:Value} {ds:List (List Int)} {lo hi:Nat}
end
end Go.Proofs.YtlgcflpaekbopaaGreat
namespace Go.Proofs.YtlgcflpaekbopaaGreat
set_option maxRecDepth 20000
set_option linter.unusedVariables false
set_option linter.unusedSimpArgs false
open Go.RowKit
end Go.Proofs.YtlgcflpaekbopaaGreat
namespace Go.Proofs.YtlgcflpaekbopaaGreat
set_option maxRecDepth 20000
set_option linter.unusedVariables false
set_option linter.unusedSimpArgs false
open Go.RowKit
def lt (x:Int):List UInt8:=
 if x=1 then [97] else if x=2 then [98] else if x=3 then [99] else if x= -1 then [65] else if x= -2 then [66] else if x= -3 then [67] else []
def str (l:List UInt8):Value:= .string ⟨l.toArray⟩
theorem str_snoc (t:List UInt8) (c:UInt8):Value.string (({data:=t.toArray}:ByteArray)++ {data:= #[c]})= .string ⟨(t++ [c]).toArray⟩:=by
 rw[ByteArray.mk_append_mk]
theorem lt_cases (x:Int):(x=1∧lt x= [97])∨(x=2∧lt x= [98])∨(x=3∧lt x= [99])∨(x= -1∧lt x= [65])∨(x= -2∧lt x= [66])∨(x= -3∧lt x= [67])∨((x=0∨x< -3∨3<x)∧lt x= []):=by
 unfold lt
 repeat' split
 all_goals simp_all
 omega
theorem letB3 (x:Int):letB 3 x=decide (lt x≠ []):=by
 have h3:wrap64 (-3)= -3:=IntWalk.wrap64_in _ ⟨by omega,by omega⟩
 unfold letB inB
 rw[h3]
 rcases lt_cases x with ⟨rfl,h⟩ | ⟨rfl,h⟩ | ⟨rfl,h⟩ | ⟨rfl,h⟩ | ⟨rfl,h⟩ | ⟨rfl,h⟩ | ⟨hx,h⟩
 all_goals try(rw[h];decide)
 rw[h,Bool.eq_iff_iff]
 simp
 omega
set_option maxHeartbeats 1000000 in
theorem letterText_any (x:Int) (w:World) (hx:I64 x):
  Calls Tryz.prog 59 #[.int .i64 x] w fun e w'=>e= .returned (str (lt x))∧w=w':=by
 have h1:=hx.1
 have h2:=hx.2
 unfold str
 rcases lt_cases x with ⟨rfl,h⟩ | ⟨rfl,h⟩ | ⟨rfl,h⟩ | ⟨rfl,h⟩ | ⟨rfl,h⟩ | ⟨rfl,h⟩ | ⟨hc,h⟩
 all_goals rw[h];clear h
 iterate 6
  ·go_enter Tryz.func59,Tryz.ntmps59
   go_wp2
   go_ret
   exact⟨by rfl,rfl⟩
 rcases e1:inB x 1 3 with _ | _
 ·rcases e2:inB x (-3) (-1) with _ | _
  ·clear hc
   go_enter Tryz.func59,Tryz.ntmps59
   go_wp2_with (go_at_call 56;refine(within_any _ _ _ _).mono ?_;rintro e w' ⟨rfl,rfl⟩)
   go_ret
   exact⟨rfl,rfl⟩
  ·have:=inB_iff.1 e2;omega
 ·have:=inB_iff.1 e1;omega
set_option maxHeartbeats 1000000 in
theorem l2Char_any (x:Int) (w:World) (hx:lt x≠ []):
  Calls Tryz.prog 62 #[.int .i64 x] w fun e w'=>e= .returned (str (lt x))∧Below w.heap.size w w':=by
 unfold str
 rcases lt_cases x with ⟨rfl,h⟩ | ⟨rfl,h⟩ | ⟨rfl,h⟩ | ⟨rfl,h⟩ | ⟨rfl,h⟩ | ⟨rfl,h⟩ | ⟨hc,h⟩
 iterate 6
  ·rw[h]
   clear hx h
   go_enter Tryz.func62,Tryz.ntmps62
   go_wp2
   go_ret
   exact⟨by rfl,(Below.refl _ _).alloc (Nat.le_refl _) _⟩
 exact absurd h hx
end Go.Proofs.YtlgcflpaekbopaaGreat
namespace Go.Proofs.YtlgcflpaekbopaaGreat
set_option maxRecDepth 20000
set_option linter.unusedVariables false
set_option linter.unusedSimpArgs false
open Go.RowKit
end Go.Proofs.YtlgcflpaekbopaaGreat
namespace Go.Proofs.YtlgcflpaekbopaaGreat
set_option maxRecDepth 20000
set_option linter.unusedVariables false
set_option linter.unusedSimpArgs false
open Go.RowKit
def PartsL (base:Nat) (w:World) (v:Value) (L:List (List Int)):Prop:=
 ∃vs:List Value,vs.length=L.length∧w.ownsRow base 24 1 v L.length vs∧ ∀i (h:i<L.length) (h':i<vs.length),RdI w vs[i] L[i]
theorem PartsL.rd {base:Nat} {w:World} {v:Value} {L:List (List Int)} (h:PartsL base w v L):RdII w v L:=by
 obtain⟨vs,h1,h2,h3⟩:=h
 exact⟨vs,h1,RdV.of_own h2,h3⟩
theorem PartsL.form {base:Nat} {w:World} {v:Value} {L:List (List Int)} (h:PartsL base w v L): ∃A cap,v= .slice A L.length cap∧L.length≤cap∧cap≤maxLen:=by
 obtain⟨vs,h1,h2,h3⟩:=h
 obtain⟨A,cap,hv,hc,hm,_⟩:=owns_form h2
 exact⟨A,cap,hv,hc,hm⟩
theorem PartsL.lt {base:Nat} {w:World} {v:Value} {L:List (List Int)} (h:PartsL base w v L) (b:Nat) (hb:v.ownBlock=some b):base≤b∧b<w.heap.size:=by
 obtain⟨vs,h1,h2,h3⟩:=h
 exact h2.lt b hb
theorem PartsL.below {base:Nat} {w w':World} {v:Value} {L:List (List Int)} (h:PartsL base w v L) (hb:Below w.heap.size w w'):PartsL base w' v L:=by
 obtain⟨vs,h1,h2,h3⟩:=h
 exact⟨vs,h1,ownsRow_below h2 hb,fun i hi hi'=>(h3 i hi hi').below hb⟩
theorem PartsL.alloc {base:Nat} {w:World} {v:Value} {L:List (List Int)} (h:PartsL base w v L) (o:Obj):PartsL base (w.alloc o) v L:=h.below ((Below.refl _ _).alloc (Nat.le_refl _) _)
theorem PartsL.nil (w:World) {base:Nat} (hb:base≤w.heap.size):PartsL base (w.alloc (.cells #[] 24)) (.slice (some ⟨w.heap.size,0,none⟩) 0 0) []:=
 ⟨[],rfl,rows_lit w [] (by simp) hb,fun i h=>absurd h (by simp)⟩
theorem PartsL.lit (w:World) (vs:List Value) (L:List (List Int)) (hl:vs.length=L.length) (h: ∀i (h:i<L.length) (h':i<vs.length),RdI w vs[i] L[i]) (hm:L.length≤1099511627776) {base:Nat} (hb:base≤w.heap.size):
  PartsL base (w.alloc (.cells vs.toArray 24)) (.slice (some ⟨w.heap.size,0,none⟩) L.length L.length) L:=
 ⟨vs,hl,by have:=rows_lit w vs (by omega) hb;rw[hl] at this;exact this,fun i h1 h2=>(h i h1 h2).alloc _⟩
theorem push_part {w:World} {ops:Array Oper} {rest:List Oper} {o:Oper} {a:Act} {Q:Exit→Act→World→Prop} (hgd:o.guard=none) (s x:Operand)
  (ho:o.op= .call {callee:= .builtin .append,args:= #[s,x],argTypes:= #[29,29]})
  (base:Nat) (v:Value) (L:List (List Int)) (hown:PartsL base w v L) (hs:a.eval s=v) (b:Nat) (z:Value) (d:List Int) (hx:a.eval x= .slice (some ⟨b,0,none⟩) 1 1)
  (hd:RdI w z d) (hc:w.cell? ⟨b,0,none⟩=some z) (hl:L.length≤1073741824) (hbase:base≤w.heap.size)
  (h: ∀v' w',PartsL base w' v' (L++ [d])→w.grownBy w' v.ownBlock→(∀u xs,RdI w u xs→RdI w' u xs)→wpList Tryz.prog ops Q rest (a.put o.dst v') w'):
  wpList Tryz.prog ops Q (o::rest) a w:=by
 obtain⟨vs,h1,h2,h3⟩:=hown
 have hz:z.oneCell'=true:=by obtain⟨A,cap,hv,_⟩:=hd.1.cell;rw[hv];rfl
 refine push_row hgd s x ho base v L.length vs h2 hs b z hx hc hz (by omega) hbase fun v' w' o2 g2 _=> ?_
 have keep: ∀u xs,RdI w u xs→RdI w' u xs:=fun u xs hu=>⟨hu.1.grown_ty h2 (by decide) g2,hu.2⟩
 refine h v' w' ⟨vs++ [z],by simp[h1],by simpa using o2,fun i hi hi'=> ?_⟩ g2 keep
 by_cases hj:i<vs.length
 ·rw[List.getElem_append_left hj,List.getElem_append_left (by omega)]
  exact keep _ _ (h3 i (by omega) hj)
 ·have hi2:i=L.length:=by simp at hi;omega
  subst hi2
  rw[List.getElem_append_right (by omega),List.getElem_append_right (by omega)]
  simp only[h1,Nat.sub_self,List.getElem_cons_zero]
  exact keep _ _ hd
end Go.Proofs.YtlgcflpaekbopaaGreat
namespace Go.Proofs.YtlgcflpaekbopaaGreat
set_option maxRecDepth 20000
set_option linter.unusedVariables false
set_option linter.unusedSimpArgs false
open Go.RowKit
end Go.Proofs.YtlgcflpaekbopaaGreat
namespace Go.Proofs.YtlgcflpaekbopaaGreat
set_option maxRecDepth 20000
set_option linter.unusedVariables false
set_option linter.unusedSimpArgs false
open Go.RowKit
end Go.Proofs.YtlgcflpaekbopaaGreat
namespace Go.Proofs.YtlgcflpaekbopaaGreat
set_option maxRecDepth 20000
set_option linter.unusedVariables false
set_option linter.unusedSimpArgs false
open Go.RowKit
end Go.Proofs.YtlgcflpaekbopaaGreat
namespace Go.Proofs.YtlgcflpaekbopaaGreat
set_option maxRecDepth 20000
set_option linter.unusedVariables false
set_option linter.unusedSimpArgs false
open Go.RowKit
def keyL (x:Int):Int:=if x= -9223372036854775808 then 100000000000000000000 else if x<0 then-2*x+1 else 2*x
theorem cmpL_key {a b:Int} (ha:I64 a) (hb:I64 b):cmpL a b=cmpI (keyL a) (keyL b):=by
 unfold I64 at ha hb
 unfold cmpL keyL cmpI
 repeat' split
 all_goals omega
theorem keyL_inj {a b:Int} (ha:I64 a) (hb:I64 b) (h:keyL a=keyL b):a=b:=by
 unfold I64 at ha hb
 unfold keyL at h
 repeat' split at h
 all_goals omega
def cmpZ:List Int→List Int→Int
 | x::xs,y::ys=>if cmpL x y≠0 then cmpL x y else cmpZ xs ys
 | _,_=>0
def cmpW (a b:List Int):Int:=if a.length=b.length then cmpZ a b else cmpI a.length b.length
theorem cmpZ_drop (a b:List Int) (k:Nat) (h:k<a.length) (h':k<b.length):cmpZ (a.drop k) (b.drop k)=if cmpL a[k] b[k]≠0 then cmpL a[k] b[k] else cmpZ (a.drop (k+1)) (b.drop (k+1)):=by
 rw[List.drop_eq_getElem_cons h,List.drop_eq_getElem_cons h']
 rfl
theorem cmpZ_end (a b:List Int):cmpZ (a.drop a.length) b=0:=by simp[cmpZ]
def ltW:List Int→List Int→Prop
 | x::xs,y::ys=>keyL x<keyL y∨(x=y∧ltW xs ys)
 | _,_=>False
theorem cmpZ_lt {a b:List Int} (ha:I64s a) (hb:I64s b):cmpZ a b<0↔ltW a b:=by
 induction a generalizing b with
 | nil=>simp[cmpZ,ltW]
 | cons x a ih=>
   cases b with
   | nil=>simp[cmpZ,ltW]
   | cons y b=>
     have hx:=ha x (by simp)
     have hy:=hb y (by simp)
     have:=ih (b:=b) (fun z hz=>ha z (by simp[hz])) (fun z hz=>hb z (by simp[hz]))
     unfold cmpZ ltW
     rw[cmpL_key hx hy]
     unfold cmpI
     by_cases h1:keyL x<keyL y
     ·simp[h1]
     ·by_cases h2:keyL y<keyL x
      ·rw[if_neg h1,if_pos h2]
       have:x≠y:=by rintro rfl;omega
       simp[h1,this]
      ·have e:x=y:=keyL_inj hx hy (by omega)
       subst e
       simp[this]
theorem getD_app_l (a b:List Int) (i:Nat) (h:i<a.length):(a++b).getD i 0=a.getD i 0:=by
 simp only[List.getD];rw[List.getElem?_append_left h]
theorem getD_app_r (a b:List Int) (i:Nat) (h:a.length≤i):(a++b).getD i 0=b.getD (i-a.length) 0:=by
 simp only[List.getD];rw[List.getElem?_append_right h]
theorem ltW_irrefl (a:List Int): ¬ltW a a:=by
 induction a with
 | nil=>simp[ltW]
 | cons x a ih=>unfold ltW;intro h;rcases h with h | ⟨_,h⟩;omega;exact ih h
theorem ltW_trans {a b c:List Int} (h1:ltW a b) (h2:ltW b c):ltW a c:=by
 induction a generalizing b c with
 | nil=>cases b<;>simp[ltW] at h1
 | cons x a ih=>
   cases b with
   | nil=>simp[ltW] at h1
   | cons y b=>
     cases c with
     | nil=>simp[ltW] at h2
     | cons z c=>
       unfold ltW at h1 h2⊢
       rcases h1 with h1 | ⟨rfl,h1⟩<;>rcases h2 with h2 | ⟨rfl,h2⟩
       ·left;omega
       ·left;exact h1
       ·left;exact h2
       ·right;exact⟨rfl,ih (b:=b) (c:=c) h1 h2⟩
def rotF (w:List Int) (k:Nat):List Int:=w.drop k++w.take k
theorem rotF_len (w:List Int) (k:Nat):(rotF w k).length=w.length:=by simp[rotF];omega
theorem rotF_mem {w:List Int} {k:Nat} {x:Int} (h:x∈rotF w k):x∈w:=by
 rcases List.mem_append.1 h with h | h
 ·exact List.mem_of_mem_drop h
 ·exact List.mem_of_mem_take h
theorem rotF_I64 {w:List Int} (h:I64s w) (k:Nat):I64s (rotF w k):=fun x hx=>h x (rotF_mem hx)
theorem rotF_zero (w:List Int):rotF w 0=w:=by simp[rotF]
theorem rotF_getD (w:List Int) (k i:Nat) (hk:k≤w.length) (hi:i<w.length):(rotF w k).getD i 0=w.getD ((k+i)%w.length) 0:=by
 unfold rotF
 by_cases h:i<w.length-k
 ·rw[getD_app_l _ _ _ (by simpa using h),Nat.mod_eq_of_lt (by omega)]
  simp[List.getD,List.getElem?_drop]
 ·rw[getD_app_r _ _ _ (by simp;omega),List.length_drop,show(k+i)%w.length=i-(w.length-k) by rw[Nat.mod_eq_sub_mod (by omega),Nat.mod_eq_of_lt (by omega)];omega]
  simp only[List.getD,List.getElem?_take]
  rw[if_pos (by omega)]
theorem list_ext_getD {a b:List Int} (hl:a.length=b.length) (h: ∀i,i<a.length→a.getD i 0=b.getD i 0):a=b:=by
 refine List.ext_getElem hl fun i h1 h2=> ?_
 have:=h i h1
 simpa[List.getD,h1,h2] using this
theorem rotF_rotF (w:List Int) (j k:Nat) (hj:j≤w.length) (hk:k≤w.length) (hn:0<w.length):rotF (rotF w j) k=rotF w ((j+k)%w.length):=by
 refine list_ext_getD (by simp[rotF_len]) fun i hi=> ?_
 have hi':i<w.length:=by simpa[rotF_len] using hi
 rw[rotF_getD _ _ _ (by rw[rotF_len];exact hk) (by rw[rotF_len];exact hi'),rotF_len,rotF_getD _ _ _ hj (Nat.mod_lt _ hn),rotF_getD _ _ _ (Nat.le_of_lt (Nat.mod_lt _ hn)) hi']
 congr 1
 rw[Nat.add_mod_mod,Nat.mod_add_mod]
 congr 1
 omega
def lrS (w:List Int) (b:List Int×Nat) (k:Nat):List Int×Nat:=if cmpW (rotF w k) b.1<0 then(rotF w k,k) else b
def lrAt (w:List Int):Nat→List Int×Nat
 | 0=>(w,0)
 | 1=>(w,0)
 | k+2=>lrS w (lrAt w (k+1)) (k+1)
def lrF (w:List Int):List Int×Nat:=lrAt w w.length
theorem lrAt_succ (w:List Int) (k:Nat) (h:1≤k):lrAt w (k+1)=lrS w (lrAt w k) k:=by
 obtain⟨j,rfl⟩: ∃j,k=j+1:=⟨k-1,by omega⟩
 rfl
theorem lrAt_rot (w:List Int) (k:Nat):(lrAt w k).1=rotF w (lrAt w k).2∧((lrAt w k).2=0∨(lrAt w k).2<k):=by
 induction k with
 | zero=>exact⟨by simp[lrAt,rotF_zero], .inl rfl⟩
 | succ k ih=>
   match k,ih with
   | 0,_=>exact⟨by simp[lrAt,rotF_zero], .inl rfl⟩
   | j+1,ih=>
     rw[lrAt_succ _ _ (by omega)]
     unfold lrS
     split
     ·exact⟨rfl, .inr (by simp)⟩
     ·exact⟨ih.1,by have:=ih.2;omega⟩
theorem lrF_rot (w:List Int):(lrF w).1=rotF w (lrF w).2∧(lrF w).2≤w.length:=by
 have:=lrAt_rot w w.length
 exact⟨this.1,by unfold lrF;omega⟩
theorem lrAt_len (w:List Int) (k:Nat):(lrAt w k).1.length=w.length:=by rw[(lrAt_rot w k).1,rotF_len]
theorem lrAt_I64 {w:List Int} (h:I64s w) (k:Nat):I64s (lrAt w k).1:=by rw[(lrAt_rot w k).1];exact rotF_I64 h _
theorem cmpW_rot (w:List Int) (k j:Nat):cmpW (rotF w k) (lrAt w j).1=cmpZ (rotF w k) (lrAt w j).1:=by
 unfold cmpW;rw[if_pos (by rw[rotF_len,lrAt_len])]
theorem lrAt_least {w:List Int} (h:I64s w) (k j:Nat) (hj:j<k): ¬ltW (rotF w j) (lrAt w k).1:=by
 induction k with
 | zero=>omega
 | succ k ih=>
   match k,ih with
   | 0,_=>
     obtain rfl:j=0:=by omega
     rw[rotF_zero];exact ltW_irrefl _
   | m+1,ih=>
     rw[lrAt_succ _ _ (by omega)]
     unfold lrS
     split
     ·rename_i hlt
      rw[cmpW_rot,cmpZ_lt (rotF_I64 h _) (lrAt_I64 h _)] at hlt
      rcases Nat.lt_or_eq_of_le (Nat.le_of_lt_succ hj) with hj | rfl
      ·exact fun hh=>ih hj (ltW_trans hh hlt)
      ·exact ltW_irrefl _
     ·rename_i hn
      rw[cmpW_rot,cmpZ_lt (rotF_I64 h _) (lrAt_I64 h _)] at hn
      rcases Nat.lt_or_eq_of_le (Nat.le_of_lt_succ hj) with hj | rfl
      ·exact ih hj
      ·exact hn
theorem lrAt_fix {w:List Int} (h:I64s w) (hn: ∀j,j<w.length→ ¬ltW (rotF w j) w) (k:Nat) (hk:k≤w.length):lrAt w k=(w,0):=by
 induction k with
 | zero=>rfl
 | succ k ih=>
   match k,ih with
   | 0,_=>rfl
   | m+1,ih=>
     rw[lrAt_succ _ _ (by omega),ih (by omega)]
     unfold lrS
     rw[if_neg]
     unfold cmpW
     rw[if_pos (by rw[rotF_len]),cmpZ_lt (rotF_I64 h _) h]
     exact hn _ (by omega)
theorem lrF_lrF {w:List Int} (h:I64s w):(lrF (lrF w).1).1=(lrF w).1:=by
 rcases Nat.eq_zero_or_pos w.length with h0 | h0
 ·obtain rfl:=List.eq_nil_of_length_eq_zero h0;rfl
 have hl:=lrAt_len w w.length
 have hr:=lrF_rot w
 unfold lrF at hl hr⊢
 rw[hl,lrAt_fix (lrAt_I64 h _) (fun j hj=> ?_) _ (by rw[hl];exact Nat.le_refl _)]
 rw[hl] at hj
 rw[hr.1,rotF_rotF _ _ _ hr.2 (by omega) h0,←hr.1]
 exact lrAt_least h _ _ (Nat.mod_lt _ h0)
def redP (xs:List Int):Prop:= ∀i,i+1<xs.length→invB (xs.getD i 0) (xs.getD (i+1) 0)=false
theorem redP_take {xs:List Int} (h:redP xs) (k:Nat):redP (xs.take k):=by
 intro i hi
 simp only[List.length_take] at hi
 have e1: ∀j,j<k→(xs.take k).getD j 0=xs.getD j 0:=fun j hj=>by simp only[List.getD,List.getElem?_take];rw[if_pos hj]
 rw[e1 i (by omega),e1 (i+1) (by omega)]
 exact h i (by omega)
theorem redP_drop {xs:List Int} (h:redP xs) (k:Nat):redP (xs.drop k):=by
 intro i hi
 simp only[List.length_drop] at hi
 have e1: ∀j,(xs.drop k).getD j 0=xs.getD (k+j) 0:=fun j=>by simp[List.getD,List.getElem?_drop]
 rw[e1,e1,←Nat.add_assoc]
 exact h (k+i) (by omega)
theorem redP_snoc {xs:List Int} {x:Int} (h:redP xs) (hx:0<xs.length→invB (xs.getLastD 0) x=false):redP (xs++ [x]):=by
 intro i hi
 simp only[List.length_append,List.length_singleton] at hi
 rcases Nat.lt_or_eq_of_le (Nat.le_of_lt_succ (show i+1<xs.length+1 by omega)) with h1 | h1
 ·rw[getD_app_l _ _ _ (by omega),getD_app_l _ _ _ h1]
  exact h i h1
 ·rw[getD_app_l _ _ _ (by omega),getD_app_r _ _ _ (by omega),h1,Nat.sub_self]
  have:=hx (by omega)
  rw[last_get (by omega)] at this
  have e:i=xs.length-1:=by omega
  subst e
  simpa[List.getD,show xs.length-1<xs.length by omega] using this
theorem red1_red {acc:List Int} {x:Int} (h:redP acc):redP (red1 acc x):=by
 unfold red1
 split
 ·rw[List.dropLast_eq_take];exact redP_take h _
 ·rename_i hn
  refine redP_snoc h fun h0=> ?_
  cases hb:invB (acc.getLastD 0) x with
  | false=>rfl
  | true=>exact absurd ⟨h0,hb⟩ hn
theorem redL_red {acc xs:List Int} (h:redP acc):redP (redL acc xs):=by
 unfold redL
 induction xs generalizing acc with
 | nil=>exact h
 | cons x xs ih=>exact ih (red1_red h)
theorem redP_nil:redP []:=fun i hi=>by simp at hi
theorem redL_id {acc xs:List Int} (h:redP (acc++xs)):redL acc xs=acc++xs:=by
 unfold redL
 induction xs generalizing acc with
 | nil=>simp
 | cons x xs ih=>
   have e:red1 acc x=acc++ [x]:=by
    unfold red1
    rw[if_neg]
    rintro⟨h0,hb⟩
    have:=h (acc.length-1) (by simp;omega)
    rw[getD_app_l _ _ _ (by omega),getD_app_r _ _ _ (by omega),show acc.length-1+1-acc.length=0 by omega] at this
    rw[last_get h0] at hb
    have e2:acc.getD (acc.length-1) 0=acc[acc.length-1]:=by simp[List.getD,show acc.length-1<acc.length by omega]
    rw[e2] at this
    simp only[List.getD_cons_zero] at this
    rw[this] at hb
    cases hb
   rw[List.foldl_cons,e,ih (by simpa using h)]
   simp
def stripGo (c:List Int):Nat→Nat→Nat
 | 0,f=>f
 | n+1,f=>if 2*f+2≤c.length∧invB (c.getD f 0) (c.getD (c.length-1-f) 0)=true then stripGo c n (f+1) else f
def stripN (c:List Int):Nat:=stripGo c c.length 0
theorem strip_step (c:List Int) (n f:Nat):stripGo c (n+1) f=if 2*f+2≤c.length∧invB (c.getD f 0) (c.getD (c.length-1-f) 0)=true then stripGo c n (f+1) else f:=rfl
theorem strip_le (c:List Int) (n f:Nat) (h:2*f≤c.length):2*stripGo c n f≤c.length:=by
 induction n generalizing f with
 | zero=>exact h
 | succ n ih=>
   unfold stripGo
   split
   ·exact ih _ (by omega)
   ·exact h
theorem strip_end (c:List Int) (n f:Nat) (hn:c.length≤2*f+2*n): ¬(2*stripGo c n f+2≤c.length∧invB (c.getD (stripGo c n f) 0) (c.getD (c.length-1-stripGo c n f) 0)=true):=by
 induction n generalizing f with
 | zero=>unfold stripGo;rintro⟨h,_⟩;omega
 | succ n ih=>
   unfold stripGo
   split
   ·exact ih _ (by omega)
   ·assumption
theorem strip_at {c:List Int} {f:Nat} (h:stripGo c (c.length-f) f=stripN c) (hc:2*f+2≤c.length) (hi:invB (c.getD f 0) (c.getD (c.length-1-f) 0)=true):stripGo c (c.length-(f+1)) (f+1)=stripN c:=by
 rw[show c.length-f=(c.length-(f+1))+1 by omega,strip_step,if_pos ⟨hc,hi⟩] at h
 exact h
theorem strip_stop {c:List Int} {f:Nat} (h:stripGo c (c.length-f) f=stripN c) (hn: ¬(2*f+2≤c.length∧invB (c.getD f 0) (c.getD (c.length-1-f) 0)=true)):stripN c=f:=by
 rcases Nat.eq_zero_or_pos (c.length-f) with h0 | h0
 ·rw[h0] at h;exact h.symm
 ·rw[show c.length-f=(c.length-f-1)+1 by omega,strip_step,if_neg hn] at h
  exact h.symm
def coreC (c:List Int):List Int:=(c.take (c.length-stripN c)).drop (stripN c)
def coreF (w:List Int):List Int:=coreC (redL [] w)
def prefF (w:List Int):List Int:=(redL [] w).take (stripN (redL [] w))
def cycF (w:List Int):List Int:=(lrF (coreF w)).1
theorem stripN_le (c:List Int):2*stripN c≤c.length:=strip_le c _ 0 (by omega)
theorem coreC_len (c:List Int):(coreC c).length=c.length-2*stripN c:=by
 have:=stripN_le c
 simp[coreC];omega
theorem coreC_getD (c:List Int) (i:Nat) (h:i<c.length-2*stripN c):(coreC c).getD i 0=c.getD (stripN c+i) 0:=by
 have:=stripN_le c
 unfold coreC
 simp only[List.getD,List.getElem?_drop,List.getElem?_take]
 rw[if_pos (by omega)]
def cycP (r:List Int):Prop:=redP r∧(2≤r.length→invB (r.getD 0 0) (r.getD (r.length-1) 0)=false)
theorem coreC_cyc {c:List Int} (h:redP c):cycP (coreC c):=by
 refine⟨redP_drop (redP_take h _) _,fun h2=> ?_⟩
 have hl:=coreC_len c
 have hs:=stripN_le c
 rw[coreC_getD _ _ (by omega),coreC_getD _ _ (by omega),hl,Nat.add_zero]
 have:=strip_end c c.length 0 (by omega)
 cases hb:invB (c.getD (stripN c) 0) (c.getD (stripN c+(c.length-2*stripN c-1)) 0) with
 | false=>rfl
 | true=>
   refine absurd ⟨?_,?_⟩ this
   ·show 2*stripN c+2≤c.length;omega
   ·show invB (c.getD (stripN c) 0) (c.getD (c.length-1-stripN c) 0)=true
    rw[←hb];congr 2;omega
theorem coreC_fix {r:List Int} (h:cycP r):coreC r=r:=by
 have e:stripN r=0:=by
  refine strip_stop (f:=0) (by simp[stripN]) ?_
  rintro⟨h2,hb⟩
  rw[Nat.sub_zero] at hb
  rw[h.2 (by omega)] at hb
  cases hb
 unfold coreC
 rw[e]
 simp
theorem invB_symm {a b:Int} (ha:I64 a) (hb:I64 b):invB a b=invB b a:=by
 unfold I64 at ha hb
 unfold invB
 rw[Bool.eq_iff_iff]
 simp
 omega
theorem getD_I64 {xs:List Int} (h:I64s xs) (i:Nat):I64 (xs.getD i 0):=by
 by_cases hi:i<xs.length
 ·have:xs.getD i 0=xs[i]:=by simp[List.getD,hi]
  rw[this];exact h _ (by simp)
 ·have:xs.getD i 0=0:=by simp[List.getD,Nat.not_lt.1 hi]
  rw[this];unfold I64;omega
theorem rot_cyc {r:List Int} (h:cycP r) (hx:I64s r) (k:Nat) (hk:k≤r.length):cycP (rotF r k):=by
 have pair: ∀i,2≤r.length→i<r.length→invB (r.getD (i%r.length) 0) (r.getD ((i+1)%r.length) 0)=false:=by
  intro i h2 hi
  rw[Nat.mod_eq_of_lt hi]
  rcases Nat.lt_or_eq_of_le (show i+1≤r.length by omega) with h1 | h1
  ·rw[Nat.mod_eq_of_lt h1];exact h.1 i h1
  ·rw[h1,Nat.mod_self,invB_symm (getD_I64 hx _) (getD_I64 hx _)]
   have:=h.2 h2
   rw[show i=r.length-1 by omega];exact this
 refine⟨fun i hi=> ?_,fun h2=> ?_⟩
 ·rw[rotF_len] at hi
  rw[rotF_getD _ _ _ hk (by omega),rotF_getD _ _ _ hk hi]
  have:=pair ((k+i)%r.length) (by omega) (Nat.mod_lt _ (by omega))
  rw[Nat.mod_mod,Nat.mod_add_mod] at this
  exact this
 ·rw[rotF_len] at h2⊢
  rw[rotF_getD _ _ _ hk (by omega),rotF_getD _ _ _ hk (by omega)]
  have:=pair ((k+(r.length-1))%r.length) h2 (Nat.mod_lt _ (by omega))
  rw[Nat.mod_mod,Nat.mod_add_mod,show k+(r.length-1)+1=k+r.length by omega,Nat.add_mod_right] at this
  rw[invB_symm (getD_I64 hx _) (getD_I64 hx _)]
  exact this
theorem coreF_mem {w:List Int} {x:Int} (h:x∈coreF w):x∈redL [] w:=List.mem_of_mem_take (List.mem_of_mem_drop h)
theorem redL_mem {acc xs:List Int} {x:Int} (h:x∈redL acc xs):x∈acc∨x∈xs:=by
 unfold redL at h
 induction xs generalizing acc with
 | nil=>exact .inl h
 | cons y xs ih=>
   rcases ih h with h | h
   ·unfold red1 at h
    split at h
    ·exact .inl (List.dropLast_subset _ h)
    ·rcases List.mem_append.1 h with h | h
     ·exact .inl h
     ·right;simp at h;simp[h]
   ·right;simp[h]
theorem cycF_mem {w:List Int} {x:Int} (h:x∈cycF w):x∈w:=by
 unfold cycF at h
 rw[(lrF_rot _).1] at h
 rcases redL_mem (coreF_mem (rotF_mem h)) with h | h
 ·cases h
 ·exact h
theorem coreF_len (w:List Int):(coreF w).length≤w.length:=by
 have h1:=coreC_len (redL [] w)
 have h2:=redL_len [] w
 simp only[List.length_nil] at h2
 unfold coreF
 omega
theorem cycF_clen (w:List Int):(cycF w).length=(coreF w).length:=by
 unfold cycF;rw[(lrF_rot _).1,rotF_len]
theorem cycF_len (w:List Int):(cycF w).length≤w.length:=by rw[cycF_clen];exact coreF_len w
theorem coreF_I64 {w:List Int} (h:I64s w):I64s (coreF w):=fun x hx=>redL_I64 I64s_nil h x (coreF_mem hx)
theorem cycF_cyc {w:List Int} (h:I64s w):cycP (cycF w):=by
 unfold cycF
 rw[(lrF_rot _).1]
 exact rot_cyc (coreC_cyc (redL_red redP_nil)) (coreF_I64 h) _ (lrF_rot _).2
theorem cycF_cycF {w:List Int} (h:I64s w):cycF (cycF w)=cycF w:=by
 have hc:=cycF_cyc h
 have e1:redL [] (cycF w)=cycF w:=by have:=redL_id (acc:= []) (xs:=cycF w) (by simpa using hc.1);simpa using this
 have e2:coreF (cycF w)=cycF w:=by unfold coreF;rw[e1];exact coreC_fix hc
 have e3:cycF (cycF w)=(lrF (coreF (cycF w))).1:=rfl
 rw[e3,e2]
 unfold cycF
 exact lrF_lrF (coreF_I64 h)
theorem okAt_red {r:Int} {xs:List Int} (h:redP xs) (hx: ∀x∈xs,letB r x=true) (i:Nat) (hi:i<xs.length):okAt r xs i=true:=by
 unfold okAt
 have e:xs.getD i 0=xs[i]:=by simp[List.getD,hi]
 rw[e,hx _ (by simp),←e]
 by_cases h0:0<i
 ·have:=h (i-1) (by omega)
  rw[show i-1+1=i by omega] at this
  rw[this];simp
 ·simp[h0]
theorem wordB_let {r:Int} {xs:List Int} (h:wordB r xs=true) {x:Int} (hx:x∈xs):letB r x=true:=by
 obtain⟨i,hi,rfl⟩:=List.getElem_of_mem hx
 have:=wordB_ok h i hi
 unfold okAt at this
 have e:xs.getD i 0=xs[i]:=by simp[List.getD,hi]
 rw[e] at this
 simp only[Bool.and_eq_true] at this
 exact this.1
theorem cycF_word {r:Int} {w:List Int} (hr:inB r 1 3=true) (hx: ∀x∈w,letB r x=true) (hI:I64s w) (hl:(cycF w).length≤24):wordB r (cycF w)=true:=
 wordB_true hr hl fun i hi=>okAt_red (cycF_cyc hI).1 (fun x hx'=>hx x (cycF_mem hx')) i hi
end Go.Proofs.YtlgcflpaekbopaaGreat
namespace Go.Proofs.YtlgcflpaekbopaaGreat
set_option maxRecDepth 20000
set_option linter.unusedVariables false
set_option linter.unusedSimpArgs false
open Go.RowKit
def gL (w:List Int):Prop:= ∀x∈w,x≠0∧ -3≤x∧x≤3
theorem snoc_cases (acc:List Int):acc= []∨ ∃p l,acc=p++ [l]:=by
 rcases Nat.eq_zero_or_pos acc.length with h | h
 ·exact .inl (List.eq_nil_of_length_eq_zero h)
 ·exact .inr ⟨acc.dropLast,acc.getLast (by intro e;rw[e] at h;simp at h),(List.dropLast_concat_getLast _).symm⟩
theorem red1_snoc (p:List Int) (l x:Int):red1 (p++ [l]) x=if invB l x=true then p else p++ [l]++ [x]:=by
 unfold red1
 simp
theorem invL_g {w:List Int} (h:gL w):invL w=(w.map fun x=> -x).reverse:=by
 unfold invL negL
 congr 1
 refine List.map_congr_left fun x hx=> ?_
 have:=h x hx
 exact IntWalk.wrap64_in (-x) ⟨by omega,by omega⟩
end Go.Proofs.YtlgcflpaekbopaaGreat
namespace Go.Proofs.YtlgcflpaekbopaaGreat
set_option maxRecDepth 20000
set_option linter.unusedVariables false
set_option linter.unusedSimpArgs false
open Go.RowKit
def letR (r:Int) (w:List Int):Prop:= ∀x∈w,x≠0∧ -r≤x∧x≤r
theorem letR_redL {r:Int} {w:List Int} (h:letR r w):letR r (redL [] w):=fun x hx=>by
 rcases redL_mem hx with h' | h'
 ·cases h'
 ·exact h x h'
set_option maxHeartbeats 1000000 in
theorem l2Of_any (p:Nat) (A:Option Addr) (cap:Nat) (cs:List Int) (r m:Int) (w:World) (h:Cur p A cap cs w) (hr1:1≤r) (hr3:r≤3) (hm0:0≤m) (hm:m≤100):
  Calls Tryz.prog 121 #[.pointer (some ⟨p,0,none⟩), .int .i64 r, .int .i64 m] w fun e w'=> ∃v xs,e= .returned v∧OwI w' w.heap.size v xs∧(xs.length≤m∧letR r xs∧redP xs)∧Cur p A cap cs w'∧Tr p (p+1) w w':=by
 have H:=hDD h
 have hp:=h.lt
 clear h
 have HA:Hid (Cur p A cap cs (w.alloc (.cells #[] 3))):=hDD (H.out.below ((Below.refl _ _).alloc (Nat.le_refl _) _))
 have HO:Hid (OwI (w.alloc (.cells #[] 3)) w.heap.size (.slice (some ⟨w.heap.size,0,none⟩) 0 0) []):=hDD (OwI_lit w [] I64s_nil (by simp) (Nat.le_refl _))
 have HT:Hid (Tr p (p+1) w (w.alloc (.cells #[] 3))):=hDD ⟨rfl,rfl,rfl,by simp,fun k hk _=>Below.heap_alloc w _ k hk⟩
 have hw1:IntKind.i64.wrap (m+1)=m+1:=by rw[IntKind.wrap_i64];omega
 go_enter Tryz.func121,Tryz.ntmps121
 go_wp2_with fail
 refine(l1Below_any p A cap cs (m+1) _ HA.out (by omega) (by omega)).mono ?_
 rintro e w1 ⟨n0,rfl,⟨n1,n2⟩,c1,t1⟩
 have C1:=hDD c1
 have O1:=hDD (HO.out.trP t1 hp)
 have T1:Hid (Tr p (p+1) w w1):=hDD (HT.out.trans t1)
 clear c1 t1 HA HO HT
 go_wp2
 go_loopw [7,8] (fun wv nv wr=> ∃(k:Int) (ws:List Int),nv= .int .i64 k∧0≤k∧k+ws.length≤m∧letR r ws∧OwI wr w.heap.size wv ws∧Cur p A cap cs wr∧Tr p (p+1) w wr)
  (fun _ nv _=>(intOf nv).toNat)
 case atStart=>exact⟨n0,[],rfl,n1,by simp;omega,fun x hx=>(by cases hx),O1.out,C1.out,T1.out⟩
 case round=>
  obtain⟨k,ws,rfl,hk0,hkm,hlet,hO,hC,hT⟩:=hrel
  have HO:=hDD hO
  have HC:=hDD hC
  have HT:=hDD hT
  have HLT:=hDD hlet
  have hsz:=hT.size
  obtain⟨Aw,cw,rfl,_⟩:=hO.form
  clear hO hC hT hlet
  by_cases hlt:0<k
  ·go_wp2_with (first
    | (go_at_call 80;(with_reducible refine(l1Below_any p A cap cs r _ HC.out (by omega) (by omega)).mono ?_);rintro e w2 ⟨x,rfl,⟨x0,x1⟩,c2,t2⟩;have C2:=hDD c2;have O2:=hDD (HO.out.trP t2 hp);have T2:=hDD (HT.out.trans t2);clear c2 t2)
    | (go_at_call 92;(with_reducible refine(l1Once_any p A cap cs 2 _ C2.out (by omega) (by omega)).mono ?_);rintro e w3 ⟨bb,rfl,c3,t3⟩;have C3:=hDD c3;have O3:=hDD (O2.out.trP t3 hp);have T3:=hDD (T2.out.trans t3);have hs3:=T3.out.size;clear c3 t3;have hwx:IntKind.i64.wrap (1+x)=1+x:=(by rw[IntKind.wrap_i64];omega);have hwn:IntKind.i64.wrap (-(1+x))= -(1+x):=(by rw[IntKind.wrap_i64];omega);have HX1:Hid (I64 (1+x)):=hDD ⟨by omega,by omega⟩;have HX2:Hid (I64 (-(1+x))):=hDD ⟨by omega,by omega⟩)
    | ((at_builtin;refine push_int rfl (.tmp 27) (.tmp 29) rfl _ _ _ (OwI.alloc O3.out _) rfl _ _ rfl (cell_new1 _ _ _) HX1.out (by first | omega | (simp<;>omega)) (by first | omega | (simp<;>omega)) ?_;intro v4 wv4 o4 g4 p4);have G4:=hDD g4;have O4:=hDD o4;obtain⟨A4,m4,c4,rfl⟩:=o4.any2;clear o4 g4 p4)
    | ((at_builtin;refine push_int rfl (.tmp 27) (.tmp 29) rfl _ _ _ (OwI.alloc O3.out _) rfl _ _ rfl (cell_new1 _ _ _) HX2.out (by first | omega | (simp<;>omega)) (by first | omega | (simp<;>omega)) ?_;intro v4 wv4 o4 g4 p4);have G4:=hDD g4;have O4:=hDD o4;obtain⟨A4,m4,c4,rfl⟩:=o4.any2;clear o4 g4 p4))
   all_goals (
    have C4:=hDD ((C3.out.below ((Below.refl _ _).alloc (Nat.le_refl _) _)).new H.out G4.out (fun b hb=>(O3.out.1.lt b hb).1))
    have T4:=hDD ((T3.out.bel2 ((Below.refl _ _).alloc (Nat.le_refl _) _)).grow2 G4.out (fun b hb=>(O3.out.1.lt b hb).1))
    have hwk:IntKind.i64.wrap (k-1)=k-1:=by rw[IntKind.wrap_i64];omega
    go_roundw
    case rel=>
     refine⟨k-1,_,by go_num,by omega,by simp;omega,fun y hy=> ?_,O4.out,C4.out,T4.out⟩
     rcases List.mem_append.1 hy with hy | hy
     ·exact HLT.out y hy
     ·rw[List.mem_singleton] at hy;subst hy;omega
    case measure=>(simp[intOf];omega))
  ·have HGL:Hid (redP (redL [] ws)):=hDD (redL_red redP_nil)
   have hlr:(redL [] ws).length≤m:=by have:=redL_len [] ws;simp at this;omega
   have hlw:ws.length≤1073741824:=by omega
   go_wp2_with (go_at_call 108;(with_reducible refine(specReduceLetters_any _ ws _ HO.out.rd hlw).mono ?_);rintro e w5 ⟨r5,rfl,o5,b5⟩;have O5:=hDD o5;have B5:=hDD b5;obtain⟨A5,m5,c5,rfl⟩:=o5.any2;clear o5 b5)
   exact bodyPost_ret (v:= .slice A5 m5 c5) (by simp[results,Tryz.results121,go_sem]) rfl ⟨_,_,rfl,O5.out.mono hsz,⟨hlr,letR_redL HLT.out,HGL.out⟩,HC.out.below B5.out,HT.out.bel2 B5.out⟩
end Go.Proofs.YtlgcflpaekbopaaGreat
namespace Go.Proofs.YtlgcflpaekbopaaGreat
set_option maxRecDepth 20000
set_option linter.unusedVariables false
set_option linter.unusedSimpArgs false
open Go.RowKit
abbrev WhD:=Int×List Int
def ArgWh (w:World) (v:Value) (d:WhD):Prop:= ∃s,v= .agg #[.int .i64 d.1,s]∧I64 d.1∧ArgI w s d.2
def OwWh (w:World) (base:Nat) (v:Value) (d:WhD):Prop:= ∃s,v= .agg #[.int .i64 d.1,s]∧I64 d.1∧OwI w base s d.2
theorem ArgWh.below {w w':World} {v:Value} {d:WhD} (h:ArgWh w v d) (hb:Below w.heap.size w w'):ArgWh w' v d:=by
 obtain⟨s,hv,hd,ha⟩:=h
 exact⟨s,hv,hd,ha.below hb⟩
end Go.Proofs.YtlgcflpaekbopaaGreat
namespace Go.Proofs.YtlgcflpaekbopaaGreat
set_option maxRecDepth 20000
set_option linter.unusedVariables false
set_option linter.unusedSimpArgs false
open Go.RowKit
def EWh:El WhD:=fun w cs d F=> ∃s,cs= [.int .i64 d.1,s]∧I64 d.1∧OwI w 0 s d.2∧F=s.ownBlock.toList
theorem EWh.stable:Stable EWh:=by
 rintro w w' cs d F ⟨s,rfl,hd,ho,rfl⟩ hb
 exact⟨s,rfl,hd,⟨ownsRow_keep ho.1 fun b h=>hb b (by rw[h];simp),ho.2⟩,rfl⟩
theorem EWh.of {w:World} {L:Int} {s:Value} {xs:List Int} {base:Nat} (hL:I64 L) (h:OwI w base s xs):EWh w [.int .i64 L,s] (L,xs) s.ownBlock.toList:=⟨s,rfl,hL,h.mono (Nat.zero_le _),rfl⟩
theorem opt_nodup (o:Option Nat):o.toList.Nodup:=by cases o<;>simp
theorem wh_info:(Tryz.prog.info? 26).map (fun i=>(i.zero,i.size,i.bytes))=some (some (.agg #[.int .i64 0, .slice none 0 0]),2,32):=by kernel_rfl
abbrev OWhS (lo hi:Nat) (v:Value) (ds:List WhD) (w:World):Prop:=OwnL EWh 26 2 lo hi w v ds
theorem OWhS_lit (w:World) {lo:Nat} (h:lo≤w.heap.size):OWhS lo (w.heap.size+1) (.slice (some ⟨w.heap.size,0,none⟩) 0 0) [] (w.alloc (.cells #[] 26)):=by
 refine OwnL.nil ?_ fun b hb=> ?_
 ·have:=World.ownsRow_lit (e:=26) (size:=2) (base:=0) w #[] 0 (Nat.zero_le _) (by unfold maxLen;omega) (by simp)
  simpa using this
 ·simp[Value.ownBlock] at hb;omega
def bitB (m i:Nat):Bool:=decide (m/2^i%2=1)
def subTo (os:List Int) (m:Nat):Nat→List Int
 | 0=> []
 | k+1=>subTo os m k++(if bitB m k then [os.getD k 0] else [])
def allFor (l:Int) (os:List Int) (M:Nat):List WhD:=(List.range M).map fun m=>(l,subTo os m os.length)
def othL (ls:List Int) (l:Int):List Int:=ls.filter fun x=>x != l&&x != -l
def allK (ls:List Int) (k:Nat):List WhD:=(ls.take k).flatMap fun l=>allFor l (othL ls l) (2^(othL ls l).length)
def allWh (r:Int):List WhD:=if inB r 1 3 then allK (lettersL r.toNat) (2*r.toNat) else []
theorem subTo_len (os:List Int) (m k:Nat):(subTo os m k).length≤k:=by
 induction k with
 | zero=>simp[subTo]
 | succ k ih=>simp only[subTo,List.length_append];split<;>simp<;>omega
theorem allFor_succ (l:Int) (os:List Int) (m:Nat):allFor l os (m+1)=allFor l os m++ [(l,subTo os m os.length)]:=by simp[allFor,List.range_succ]
theorem allFor_len (l:Int) (os:List Int) (m:Nat):(allFor l os m).length=m:=by simp[allFor]
theorem oth_len (n:Nat) (h1:1≤n) (h3:n≤3): ∀l∈lettersL n,(othL (lettersL n) l).length≤4:=by
 have:n=1∨n=2∨n=3:=by omega
 rcases this with rfl | rfl | rfl<;>decide
theorem abs_ne {x l:Int} (h1: -3≤x) (h2:x≤3) (h3: -3≤l) (h4:l≤3):(abs64 x != abs64 l)=(x != l&&x != -l):=by
 have hx:abs64 x=if x<0 then-x else x:=by unfold abs64;split<;>first | rfl | rw[IntWalk.wrap64_in _ ⟨by omega,by omega⟩]
 have hl:abs64 l=if l<0 then-l else l:=by unfold abs64;split<;>first | rfl | rw[IntWalk.wrap64_in _ ⟨by omega,by omega⟩]
 rw[hx,hl,Bool.eq_iff_iff]
 simp only[bne_iff_ne,Bool.and_eq_true,ne_eq]
 split<;>split<;>omega
theorem oth_small (n:Nat) (h1:1≤n) (h3:n≤3): ∀l∈lettersL n,(othL (lettersL n) l).length≤4∧((lettersL n).filter fun x=>abs64 x != abs64 l)=othL (lettersL n) l:=by
 intro l hl
 refine⟨oth_len n h1 h3 l hl,?_⟩
 unfold othL
 refine List.filter_congr fun x hx=> ?_
 have:=lettersL_mem hx
 have:=lettersL_mem hl
 exact abs_ne (by omega) (by omega) (by omega) (by omega)
theorem allK_succ (ls:List Int) (k:Nat) (h:k<ls.length):allK ls (k+1)=allK ls k++allFor ls[k] (othL ls ls[k]) (2^(othL ls ls[k]).length):=by
 unfold allK
 rw[List.take_succ_eq_append_getElem h,List.flatMap_append]
 simp only[List.flatMap_cons,List.flatMap_nil,List.append_nil]
theorem pow_le16 {n:Nat} (h:n≤4):2^n≤16:=by
 have:=Nat.pow_le_pow_right (show 0<2 by omega) h
 simpa using this
theorem allK_len (n:Nat) (h1:1≤n) (h3:n≤3) (k:Nat) (hk:k≤(lettersL n).length):(allK (lettersL n) k).length≤16*k:=by
 induction k with
 | zero=>simp[allK]
 | succ k ih=>
   rw[allK_succ _ _ (by omega),List.length_append,allFor_len]
   have h2:=(oth_small n h1 h3 (lettersL n)[k] (by simp)).1
   have:=pow_le16 h2
   have:=ih (by omega)
   omega
theorem othL_succ (ls:List Int) (x:Int) (m:Nat) (h:m<ls.length):othL (ls.take (m+1)) x=othL (ls.take m) x++(if ls[m] != x&&ls[m] != -x then [ls[m]] else []):=by
 unfold othL
 rw[List.take_succ_eq_append_getElem h,List.filter_append]
 congr 1
 simp only[List.filter_cons,List.filter_nil]
theorem OwnL.row {α:Type} {E:El α} {t:TypeId} {width lo hi:Nat} {w:World} {v:Value} {ds:List α} (h:OwnL E t width lo hi w v ds): ∃cs,w.ownsRow 0 t width v ds.length cs:=by
 obtain⟨F,⟨es,h1,h2,h3,rfl⟩,hnF,hF⟩:=h
 have hl:es.length=ds.length:=by rw[←h1];simp
 exact⟨_,hl▸h3⟩
theorem cell_grown_alloc {w w':World} {o:Obj} {row:Option Nat} (hg:(w.alloc o).grownBy w' row) {b:Nat} (hb:b<w.heap.size) (hne:row≠some b):(∀o,w'.cell? ⟨b,o,none⟩=w.cell? ⟨b,o,none⟩)∧(∀o,w'.frozen? ⟨b,o,none⟩=w.frozen? ⟨b,o,none⟩):=
 have h:w'.heap[b]? =w.heap[b]? :=(hg.block b (by simp;omega) hne.symm).trans (Below.heap_alloc w o b hb)
 ⟨fun _=>World.cell?_of_block h,fun _=>World.frozen?_of_block h⟩
theorem cell_grown_drew {w w':World} {o:Obj} {row:Option Nat} (hg:(w.alloc o).drew.grownBy w' row) {b:Nat} (hb:b<w.heap.size) (hne:row≠some b):(∀o,w'.cell? ⟨b,o,none⟩=w.cell? ⟨b,o,none⟩)∧(∀o,w'.frozen? ⟨b,o,none⟩=w.frozen? ⟨b,o,none⟩):=
 have h:w'.heap[b]? =w.heap[b]? :=(hg.block b (Nat.lt_of_lt_of_le hb ((Below.refl w.heap.size w).alloc (Nat.le_refl _) o).size) hne.symm).trans (Below.heap_alloc w o b hb)
 ⟨fun _=>World.cell?_of_block h,fun _=>World.frozen?_of_block h⟩
theorem subTo_succ (os:List Int) (m k:Nat) (h:k<os.length):subTo os m (k+1)=subTo os m k++(if bitB m k then [os[k]] else []):=by
 simp[subTo,List.getD,h]
theorem bit_of {c i:Nat} (hc:c<16) (hi:i<4):bits BinOp.and IntKind.i64 ((c:Int)/2^i) 1=if bitB c i then 1 else 0:=by
 have: ∀c<16,∀i<4,bits BinOp.and IntKind.i64 (((c:Nat):Int)/2^i) 1=if bitB c i then 1 else 0:=by decide
 exact this c hc i hi
theorem wrap_shift {L:Nat} (h:L≤4):IntKind.i64.wrap ((2:Int)^L)=((2^L:Nat):Int):=by
 have h3:(2:Int)^L=((2^L:Nat):Int):=by simp
 have:=pow_le16 h
 rw[wrap_i64_eq,h3]
 generalize 2^L=M at this⊢
 exact IntWalk.wrap64_in _ ⟨by omega,by omega⟩
set_option maxHeartbeats 2000000 in
theorem implAllWhitehead_any (r:Int) (w:World):
  Calls Tryz.prog 32 #[.int .i64 r] w fun e w'=> ∃v,e= .returned v∧OWhS w.heap.size w'.heap.size v (allWh r) w'∧Below w.heap.size w w':=by
 rcases e1:inB r 1 3 with _ | _
 ·have F:Hid (allWh r= []):=hDD (by unfold allWh;rw[e1];rfl)
  go_enter Tryz.func32,Tryz.ntmps32
  go_wp2_with (go_at_call 56;refine(within_any _ _ _ _).mono ?_;rintro e w' ⟨rfl,rfl⟩)
  go_ret
  exact⟨_,rfl,by rw[F.out];exact(OWhS_lit w (Nat.le_refl _)).widen (Nat.le_refl _) (by simp),(Below.refl _ _).alloc (Nat.le_refl _) _⟩
 ·have hr1:=(inB_iff.1 e1).1
  have hr3:=(inB_iff.1 e1).2
  obtain⟨n,rfl⟩: ∃n:Nat,r=n:=⟨r.toNat,by omega⟩
  have F:Hid (allWh n=allK (lettersL n) (lettersL n).length):=hDD (by unfold allWh;rw[e1,lettersL_len];simp)
  have hn1:1≤n:=by omega
  have hn3:n≤3:=by omega
  have HOS:=hDD (oth_small n hn1 hn3)
  have HAL:=hDD (allK_len n hn1 hn3)
  have hl6:(lettersL n).length≤6:=by rw[lettersL_len];omega
  have HLM:Hid (∀x∈lettersL n,-3≤x∧x≤3):=hDD (fun x hx=>by have:=lettersL_mem hx;omega)
  have HLL: ∀W:World,Calls Tryz.prog 81 #[.int .i64 n] W fun e w'=> ∃r,e= .returned r∧OwI w' W.heap.size r (lettersL n)∧Below W.heap.size W w':=fun W=>letters_any n W (by omega)
  generalize lettersL n=ls at F HOS HAL hl6 HLM HLL
  have HLE:=hDD HLL
  clear HLL
  obtain⟨i0,hi0,hz0,hz1,hz2⟩:=info_parts wh_info
  go_enter Tryz.func32,Tryz.ntmps32
  go_wp2_with (first
   | (go_at_call 56;refine(within_any _ _ _ _).mono ?_;rintro e w' ⟨rfl,rfl⟩)
   | (go_at_call 81;refine(HLE.out _).mono ?_;rintro e w1 ⟨lv,rfl,ol,bl⟩;have OL:=hDD ol;have BL:=hDD bl;obtain⟨A,cap,rfl,hcap,hm,_⟩:=OwI.form ol;clear ol bl))
  go_loopw [3,21] (fun out i wr=> ∃k:Nat,k≤ls.length∧i= .int .i64 k∧OWhS w.heap.size wr.heap.size out (allK ls k) wr∧RdI wr (.slice A ls.length cap) ls∧Below w.heap.size w wr)
   (fun _ i _=>ls.length-(intOf i).toNat)
  case atStart=>
   refine⟨0,Nat.zero_le _,rfl,((OWhS_lit w (Nat.le_refl _)).keep EWh.stable (fun b _ hb=>BL.out.block b (by simpa using hb))).widen (Nat.le_refl _) (by have:=BL.out.size;simp at this;omega),OL.out.rd,((Below.refl _ _).alloc (Nat.le_refl _) _).trans (BL.out.mono (by simp))⟩
  case round=>
   obtain⟨k,hk,rfl,hown,hls,hbel⟩:=hrel
   have hsz:=hbel.size
   by_cases hlt:k<ls.length
   ·have hal:=HAL.out k hk
    obtain⟨b,off,rfl,hbl,hc⟩:=hls.at (by omega)
    have hcell:=hc k hlt
    have hos4:=(HOS.out ls[k] (by simp)).1
    have HS:=hDD (allK_succ ls k hlt)
    have hx1:=(HLM.out ls[k] (by simp)).1
    have hx2:=(HLM.out ls[k] (by simp)).2
    have HR:=hDD hls
    have HO:=hDD hown
    have HB:=hDD hbel
    clear hc hls hown hbel
    generalize ls[k]=x at hcell hos4 HS hx1 hx2
    generalize allK ls k=acc at HO HS hal
    obtain⟨wo,rfl⟩: ∃wo:World,wo=wr:=⟨_,rfl⟩
    go_wp2_with (go_at_call 81;refine(HLE.out _).mono ?_;rintro e w2 ⟨lv2,rfl,ol,bl⟩;have OL2:=hDD ol;have BL2:=hDD bl;obtain⟨A2,cap2,rfl,hcap2,hm2,_,hf2⟩:=OwI.form ol;obtain⟨g2,rfl,hg2,hg2'⟩:=hf2 (by omega);clear ol bl)
    go_loopw [6,29] (fun oth j wi=> ∃m:Nat,m≤ls.length∧j= .int .i64 m∧OwI wi wo.heap.size oth (othL (ls.take m) x)∧RdI wi (.slice (some ⟨g2,0,none⟩) ls.length cap2) ls∧oth.ownBlock≠some g2∧Below wo.heap.size wo wi∧g2<wi.heap.size)
     (fun _ j _=>ls.length-(intOf j).toNat)
    case atStart=>
     exact⟨0,Nat.zero_le _,rfl,(OwI_lit wo [] I64s_nil (by simp) (Nat.le_refl _)).below BL2.out,OL2.out.rd,by simp[Value.ownBlock];simp at hg2;omega,((Below.refl _ _).alloc (Nat.le_refl _) _).trans (BL2.out.mono (by simp)),hg2'⟩
    case round=>
     obtain⟨m,hm',rfl,ho,hr,hne,hb,hg⟩:=hrel
     have hsz':=hb.size
     have hal':(othL (ls.take m) x).length≤m:=by unfold othL;have:=List.length_filter_le (fun z=>z != x&&z != -x) (ls.take m);rw[List.length_take] at this;omega
     by_cases hlt':m<ls.length
     ·obtain⟨b',off',hA',hbl',hc'⟩:=hr.at (by omega)
      obtain⟨rfl,rfl⟩:g2=b'∧0=off':=by simpa using hA'
      have hcell':=hc' m hlt'
      rw[Nat.zero_add] at hcell'
      have HS':=hDD (othL_succ ls x m hlt')
      have hy1:=(HLM.out ls[m] (by simp)).1
      have hy2:=(HLM.out ls[m] (by simp)).2
      have HR':=hDD hr
      have HO':=hDD ho
      have HB':=hDD hb
      have HN':=hDD hne
      clear hc' hr hb hA' hne
      generalize ls[m]=y at hcell' HS' hy1 hy2
      generalize othL (ls.take m) x=acc' at ho HO' HS' hal'
      obtain⟨A3,cap3,rfl,hcap3,hm3,_,_⟩:=ho.form
      clear ho
      have HY:Hid (I64 y):=hDD ⟨by omega,by omega⟩
      rcases e2:(y != x) with _ | _
      ·have FF:Hid ((y != x&&y != -x)=false):=hDD (by rw[e2];rfl)
       go_wp2
       go_roundw
       case rel=>exact⟨m+1,by omega,by go_num,by rw[HS'.out,FF.out];simpa using HO'.out,HR'.out,HN'.out,HB'.out,hg⟩
       case measure=>simp[intOf];omega
      ·rcases e3:(y != -x) with _ | _
       ·have FF:Hid ((y != x&&y != -x)=false):=hDD (by rw[e2,e3];rfl)
        go_wp2
        go_roundw
        case rel=>exact⟨m+1,by omega,by go_num,by rw[HS'.out,FF.out];simpa using HO'.out,HR'.out,HN'.out,HB'.out,hg⟩
        case measure=>simp[intOf];omega
       ·have FF:Hid ((y != x&&y != -x)=true):=hDD (by rw[e2,e3];rfl)
        go_wp2_with (at_builtin;refine push_int rfl (.tmp 42) (.tmp 44) rfl _ _ _ (OwI.alloc HO'.out _) rfl _ _ rfl (cell_new1 _ _ _) HY.out (by first | omega | (simp<;>omega)) (by first | omega | (simp<;>omega)) ?_;intro v1 wv1 o1 g1 p1)
        go_roundw
        case rel=>
         refine⟨m+1,by omega,by go_num,by rw[HS'.out,FF.out];exact o1,(HR'.out.alloc _).grown g1 (fun b h1 h2=>HN'.out (by simp[Value.ownBlock] at h1;subst h1;exact h2)),?_,bel_push HB'.out hsz' HO'.out.1 (Nat.le_refl _) g1,by have:=g1.size;simp at this;omega⟩
         rcases p1 with p1 | p1
         ·rw[p1];exact HN'.out
         ·rw[p1];simp;omega
        case measure=>simp[intOf];omega
     ·obtain rfl:m=ls.length:=by omega
      rw[List.take_length] at ho
      have HR3:Hid (RdI wr (.slice (some ⟨b,off,none⟩) ls.length cap) ls):=hDD (HR.out.below hb)
      have HO3:Hid (OWhS w.heap.size wr.heap.size _ acc wr):=hDD ((HO.out.keep EWh.stable fun b _ hlt=>hb.block b hlt).widen (Nat.le_refl _) hsz')
      have HB3:Hid (Below w.heap.size w wr):=hDD (HB.out.trans (hb.mono hsz))
      have hsz3:=HB3.out.size
      have HO2:=hDD ho.rd
      have HOI:=hDD ho.2
      generalize hos:othL ls x=os at HS hos4 HO2 HOI ho
      obtain⟨A3,cap3,rfl,hcap3,hm3,_⟩:=ho.form
      clear ho hr hne hb HR HO HB
      have hW1:=wrap_shift hos4
      have hM:=pow_le16 hos4
      generalize 2^os.length=M at HS hM hW1
      go_wp2_with fail
      go_loopw [3,9] (fun out q w3=> ∃c:Nat,c≤M∧q= .int .i64 c∧OWhS w.heap.size w3.heap.size out (acc++allFor x os c) w3∧RdI w3 (.slice (some ⟨b,off,none⟩) ls.length cap) ls∧RdI w3 (.slice A3 os.length cap3) os∧Below w.heap.size w w3)
       (fun _ q _=>M-(intOf q).toNat)
      case atStart=>exact⟨0,Nat.zero_le _,rfl,by simpa[allFor] using HO3.out,HR3.out,HO2.out,HB3.out⟩
      case round=>
       obtain⟨c,hc,rfl,ho,hr,hr2,hb⟩:=hrel
       have hsz4:=hb.size
       by_cases hlt3:c<M
       ·have hal3:(acc++allFor x os c).length≤16*k+c:=by rw[List.length_append,allFor_len];omega
        generalize hacc:acc++allFor x os c=acc3 at ho hal3
        have HS4:Hid (acc++allFor x os (c+1)=acc3++ [(x,subTo os c os.length)]):=hDD (by rw[allFor_succ,←List.append_assoc,hacc])
        have HO4:=hDD ho
        have HR4:=hDD hr
        have HR5:=hDD hr2
        have HB4:=hDD hb
        obtain⟨cs4,hrow4⟩:=ho.row
        have HW4:=hDD hrow4
        obtain⟨A4,cap4,rfl,_⟩:=ho.len
        clear ho hr hr2 hb hacc hrow4
        obtain⟨wm,rfl⟩: ∃wm:World,wm=wr:=⟨_,rfl⟩
        go_wp2_with fail
        go_loopw [58] (fun j w4=> ∃i:Nat,i≤os.length∧j= .int .i64 i∧ ∃s:Value,w4.cell? ⟨wm.heap.size,0,none⟩=some (.int .i64 x)∧w4.cell? ⟨wm.heap.size,1,none⟩=some s∧(∀o,w4.frozen? ⟨wm.heap.size,o,none⟩=false)∧OwI w4 (wm.heap.size+1) s (subTo os c i)∧Below wm.heap.size wm w4∧wm.heap.size<w4.heap.size)
         (fun j _=>os.length-(intOf j).toNat)
        case atStart=> 
         refine⟨0,Nat.zero_le _,rfl, .slice none 0 0,by simp[go_sem],by simp[go_sem],by simp[go_sem],⟨⟨rfl, .inl ⟨rfl,rfl⟩⟩,I64s_nil⟩,(by repeat(first | exact Below.refl _ _ | (refine Below.setCell ?_ (by first | omega | (simp<;>omega)) _) | (refine bel_drewN ?_ _) | (refine Below.drew ?_) | (refine Below.alloc ?_ (by first | omega | (simp<;>omega)) _))),by simp⟩
        case round=>
         obtain⟨i,hi,rfl,s,h0,h1,hf,hs,hb5,hg5⟩:=hrel
         have hsl:=subTo_len os c i
         by_cases hlt4:i<os.length
         ·obtain⟨b3,off3,rfl,hbl3,hc3⟩:=(HR5.out.below hb5).at (by omega)
          have hcell3:=hc3 i hlt4
          have HS5:=hDD (subTo_succ os c i hlt4)
          have HI:=hDD (HOI.out os[i] (by simp))
          have HB5:=hDD hb5
          generalize subTo os c i=sacc at hs HS5 hsl
          have HO5:=hDD hs
          obtain⟨A5,cap5,rfl,hcap5,hm5,_,_⟩:=hs.form
          generalize os[i]=o at hcell3 HS5 HI
          clear hc3 hb5 hs
          have hi4:i<4:=by omega
          have hc16:c<16:=by omega
          have hbit:=bit_of hc16 hi4
          rcases e4:bitB c i with _ | _
          ·rw[e4] at HS5 hbit
           go_wp2
           go_roundw
           case rel=>exact⟨i+1,by omega,by go_num,_,h0,h1,hf,by rw[HS5.out];simpa using HO5.out,HB5.out,hg5⟩
           case measure=>simp[intOf];omega
          ·rw[e4] at HS5 hbit
           go_wp2_with ((at_builtin;refine push_int rfl (.tmp 69) (.tmp 71) rfl _ _ _ (OwI.alloc HO5.out _) rfl _ _ rfl (cell_new1 _ _ _) HI.out (by first | omega | (simp<;>omega)) (by first | omega | (simp<;>omega)) ?_;intro v1 wv1 o1 g1 p1);have hne1:(Value.slice A5 sacc.length cap5).ownBlock≠some wm.heap.size:=(fun h=>by have:=(HO5.out.1.lt _ h).1;omega);obtain⟨hcx,hfx⟩:=cell_grown_alloc g1 hg5 hne1;have hz1:=g1.size;simp at hz1;obtain⟨A6,cap6,rfl,_⟩:=OwI.form o1;have O1:=hDD o1;have HB6:=hDD (bel_push HB5.out HB5.out.size HO5.out.1 (Nat.le_succ _) g1);clear o1 g1 p1)
           go_roundw
           case rel=>exact⟨i+1,by omega,by go_num, .slice A6 (sacc.length+1) cap6,by simp[go_sem,hcx,h0],by simp[go_sem,hcx,h1],by simp[go_sem,hfx,hf],by rw[HS5.out];have h:=O1.out.far (p:=⟨wm.heap.size,1,none⟩) (by simp) (.slice A6 (sacc.length+1) cap6);simpa using h,(by repeat(first | exact Below.refl _ _ | (refine Below.setCell ?_ (by first | omega | (simp<;>omega)) _) | (refine bel_drewN ?_ _) | (refine Below.drew ?_) | (refine Below.alloc ?_ (by first | omega | (simp<;>omega)) _) | (refine Below.trans ?_ (Below.mono (Hid.out HB6) (by first | omega | (simp<;>omega)))))),by simp;omega⟩
           case measure=>simp[intOf];omega
         ·obtain rfl:i=os.length:=by omega
          have HS5:=hDD hs
          have HB5:=hDD hb5
          have hsl:=subTo_len os c os.length
          obtain⟨A5,cap5,rfl,hcap5,hm5,_,_⟩:=hs.form
          have hlt5:=fun b h=>hs.1.lt b h
          have HL5:=hDD hlt5
          clear hs hb5 hlt5
          go_wp2_with (at_builtin;refine push_own EWh.stable rfl (.tmp 75) (.tmp 77) rfl Tryz.underlying47 hi0 hz0 hz1 hz2 rfl (by decide) (by decide) HO4.out hsz4 (HB5.out.alloc HB5.out.size _) rfl _ [.int .i64 x,_] (x,subTo os c os.length) _ rfl (EWh.of ⟨by omega,by omega⟩ (HS5.out.alloc _)) rfl (opt_nodup _) ?_ ?_ ?_ (by omega) ?_;(intro b hb;have:=HL5.out b (by simpa using hb);simp;omega);(intro j u hj;match j,hj with | 0,hj=>(simp at hj;subst hj;simp[go_sem]) | 1,hj=>(simp at hj;subst hj;simp[go_sem]));(intro u hu;simp at hu;rcases hu with rfl | rfl<;>rfl);intro v2 w2 o2 g2)
          go_roundw
          case rel=>
           have hbW:=HB5.out.alloc HB5.out.size (Obj.cells #[Value.int IntKind.i64 x,Value.slice A5 (subTo os c os.length).length cap5] 26)
           have hrW:=ownsRow_keep HW4.out (w':=_) fun b hb=>hbW.block b (HO4.out.lt hb).2
           have hne:(26:TypeId)≠3:=by decide
           exact⟨c+1,by omega,by go_num,by rw[HS4.out];exact o2,⟨(HR4.out.below hbW).1.grown_ty hrW hne g2,HR4.out.2⟩,⟨(HR5.out.below hbW).1.grown_ty hrW hne g2,HR5.out.2⟩,bel_own (HB4.out.trans (hbW.mono hsz4)) HO4.out (Nat.le_refl _) (by have:=hbW.size;omega) g2⟩
          case measure=>simp[intOf];omega
       ·obtain rfl:c=M:=by omega
        go_wp2
        go_roundw
        case rel=>exact⟨k+1,by omega,by go_num,by rw[HS.out];exact ho,hr,hb⟩
        case measure=>simp[intOf];omega
   ·obtain rfl:k=ls.length:=by omega
    go_wp2
    go_ret
    exact⟨_,rfl,by rw[F.out];exact hown,hbel⟩
set_option maxRecDepth 8000 in
set_option maxHeartbeats 2000000 in
theorem specAllWhitehead_any (r:Int) (w:World):
  Calls Tryz.prog 33 #[.int .i64 r] w fun e w'=> ∃v,e= .returned v∧OWhS w.heap.size w'.heap.size v (allWh r) w'∧Below w.heap.size w w':=by
 rcases e1:inB r 1 3 with _ | _
 ·have F:Hid (allWh r= []):=hDD (by unfold allWh;rw[e1];rfl)
  go_enter Tryz.func33,Tryz.ntmps33
  go_wp2_with (go_at_call 64;refine(l1In_any _ _ _ _).mono ?_;rintro e w' ⟨rfl,rfl⟩)
  go_ret
  exact⟨_,rfl,by rw[F.out];exact(OWhS_lit w (Nat.le_refl _)).widen (Nat.le_refl _) (by simp),(Below.refl _ _).alloc (Nat.le_refl _) _⟩
 ·have hr1:=(inB_iff.1 e1).1
  have hr3:=(inB_iff.1 e1).2
  obtain⟨n,rfl⟩: ∃n:Nat,r=n:=⟨r.toNat,by omega⟩
  have F:Hid (allWh n=allK (lettersL n) (lettersL n).length):=hDD (by unfold allWh;rw[e1,lettersL_len];simp)
  have hn1:1≤n:=by omega
  have hn3:n≤3:=by omega
  have HOS:=hDD (oth_small n hn1 hn3)
  have HAL:=hDD (allK_len n hn1 hn3)
  have hl6:(lettersL n).length≤6:=by rw[lettersL_len];omega
  have HLM:Hid (∀x∈lettersL n,-3≤x∧x≤3):=hDD (fun x hx=>by have:=lettersL_mem hx;omega)
  have HLL: ∀W:World,Calls Tryz.prog 82 #[.int .i64 n] W fun e w'=> ∃r,e= .returned r∧OwI w' W.heap.size r (lettersL n)∧Below W.heap.size W w':=fun W=>l5Letters_any n W (by omega)
  generalize lettersL n=ls at F HOS HAL hl6 HLM HLL
  have HLE:=hDD HLL
  clear HLL
  obtain⟨i0,hi0,hz0,hz1,hz2⟩:=info_parts wh_info
  go_enter Tryz.func33,Tryz.ntmps33
  go_wp2_with (first
   | (go_at_call 64;refine(l1In_any _ _ _ _).mono ?_;rintro e w' ⟨rfl,rfl⟩)
   | (go_at_call 82;refine(HLE.out _).mono ?_;rintro e w1 ⟨lv,rfl,ol,bl⟩;have OL:=hDD ol;have BL:=hDD bl;obtain⟨A,cap,rfl,hcap,hm,_⟩:=OwI.form ol;clear ol bl))
  go_loopw [3,5] (fun out i wr=> ∃k:Nat,k≤ls.length∧i= .int .i64 k∧OWhS w.heap.size wr.heap.size out (allK ls k) wr∧RdI wr (.slice A ls.length cap) ls∧Below w.heap.size w wr)
   (fun _ i _=>ls.length-(intOf i).toNat)
  case atStart=>
   refine⟨0,Nat.zero_le _,rfl,((OWhS_lit w (Nat.le_refl _)).keep EWh.stable (fun b _ hb=>BL.out.block b (by simpa using hb))).widen (Nat.le_refl _) (by have:=BL.out.size;simp at this;omega),OL.out.rd,((Below.refl _ _).alloc (Nat.le_refl _) _).trans (BL.out.mono (by simp))⟩
  case round=>
   obtain⟨k,hk,rfl,hown,hls,hbel⟩:=hrel
   have hsz:=hbel.size
   by_cases hlt:k<ls.length
   ·have hal:=HAL.out k hk
    obtain⟨b,off,rfl,hbl,hc⟩:=hls.at (by omega)
    have hcell:=hc k hlt
    have hos4:=(HOS.out ls[k] (by simp)).1
    have HS:=hDD (allK_succ ls k hlt)
    have hx1:=(HLM.out ls[k] (by simp)).1
    have hx2:=(HLM.out ls[k] (by simp)).2
    have HR:=hDD hls
    have HO:=hDD hown
    have HB:=hDD hbel
    clear hc hls hown hbel
    generalize hxe:ls[k]=x at hcell hos4 HS hx1 hx2
    have HXE:=hDD hxe
    clear hxe
    generalize allK ls k=acc at HO HS hal
    obtain⟨wo,rfl⟩: ∃wo:World,wo=wr:=⟨_,rfl⟩
    go_wp2_with fail
    go_loopw [6,7] (fun oth j wi=> ∃m:Nat,m≤ls.length∧j= .int .i64 m∧OwI wi wo.heap.size oth (othL (ls.take m) x)∧Below wo.heap.size wo wi)
     (fun _ j _=>ls.length-(intOf j).toNat)
    case atStart=>
     exact⟨0,Nat.zero_le _,rfl,OwI_lit wo [] I64s_nil (by simp) (Nat.le_refl _),(Below.refl _ _).alloc (Nat.le_refl _) _⟩
    case round=>
     obtain⟨m,hm',rfl,ho,hb⟩:=hrel
     have hsz':=hb.size
     have hal':(othL (ls.take m) x).length≤m:=by unfold othL;have:=List.length_filter_le (fun z=>z != x&&z != -x) (ls.take m);rw[List.length_take] at this;omega
     by_cases hlt':m<ls.length
     ·have hcellx:=(hb.cell hbl).trans hcell
      obtain⟨b',off',hA',hbl',hc'⟩:=(HR.out.below hb).at (by omega)
      obtain⟨rfl,rfl⟩:b=b'∧off=off':=by simpa using hA'
      have hcell':=hc' m hlt'
      have HS':=hDD (othL_succ ls x m hlt')
      have hy1:=(HLM.out ls[m] (by simp)).1
      have hy2:=(HLM.out ls[m] (by simp)).2
      have HO':=hDD ho
      have HB':=hDD hb
      clear hc' hb hA'
      generalize ls[m]=y at hcell' HS' hy1 hy2
      generalize othL (ls.take m) x=acc' at ho HO' HS' hal'
      obtain⟨A3,cap3,rfl,hcap3,hm3,_,_⟩:=ho.form
      clear ho
      have HY:Hid (I64 y):=hDD ⟨by omega,by omega⟩
      have HAB:=hDD (abs_ne hy1 hy2 hx1 hx2)
      rcases e2:(abs64 y != abs64 x) with _ | _
      ·have FF:Hid ((y != x&&y != -x)=false):=hDD (by rw[←HAB.out,e2])
       go_wp2
       go_quiet ((go_at_call 83;first | exact quiet_left (l21Abs_any _ _) | exact quiet_add_left (l21Abs_any _ _)))
       go_wp2
       go_roundw
       case rel=>exact⟨m+1,by omega,by go_num,by rw[HS'.out,FF.out];simp only[Bool.false_eq_true,if_false,List.append_nil];exact HO'.out.drewN _,bel_drewN HB'.out _⟩
       case measure=>simp[intOf];omega
      ·have FF:Hid ((y != x&&y != -x)=true):=hDD (by rw[←HAB.out,e2])
       go_wp2
       go_quiet ((go_at_call 83;first | exact quiet_left (l21Abs_any _ _) | exact quiet_add_left (l21Abs_any _ _)))
       have hcell2:(wr.drewN nq).cell? ⟨b,off+m,none⟩=some (.int .i64 y):=hcell'
       have HO2:=hDD (HO'.out.drewN nq)
       have HB2:=hDD (bel_drewN HB'.out nq)
       have hsz2:=HB2.out.size
       generalize wr.drewN nq=w9 at hcell2 HO2 HB2 hsz2⊢
       go_wp2_with (at_builtin;refine push_int rfl (.tmp 42) (.tmp 47) rfl _ _ _ (OwI.alloc HO2.out _) rfl _ _ rfl (cell_new1 _ _ _) HY.out (by first | omega | (simp<;>omega)) (by first | omega | (simp<;>omega)) ?_;intro v1 wv1 o1 g1 p1)
       go_roundw
       case rel=>exact⟨m+1,by omega,by go_num,by rw[HS'.out,FF.out];exact o1,bel_push HB2.out hsz2 HO2.out.1 (Nat.le_refl _) g1⟩
       case measure=>simp[intOf];omega
     ·obtain rfl:m=ls.length:=by omega
      rw[List.take_length] at ho
      have HR3:Hid (RdI wr (.slice (some ⟨b,off,none⟩) ls.length cap) ls):=hDD (HR.out.below hb)
      have HO3:Hid (OWhS w.heap.size wr.heap.size _ acc wr):=hDD ((HO.out.keep EWh.stable fun b _ hlt=>hb.block b hlt).widen (Nat.le_refl _) hsz')
      have HB3:Hid (Below w.heap.size w wr):=hDD (HB.out.trans (hb.mono hsz))
      have hsz3:=HB3.out.size
      have HO2:=hDD ho.rd
      have HOI:=hDD ho.2
      generalize hos:othL ls x=os at HS hos4 HO2 HOI ho
      obtain⟨A3,cap3,rfl,hcap3,hm3,_⟩:=ho.form
      clear ho hb HR HO HB
      have hW1:=wrap_shift hos4
      have hM:=pow_le16 hos4
      generalize 2^os.length=M at HS hM hW1
      go_wp2_with fail
      go_loopw [3,8] (fun out q w3=> ∃c:Nat,c≤M∧q= .int .i64 c∧OWhS w.heap.size w3.heap.size out (acc++allFor x os c) w3∧RdI w3 (.slice (some ⟨b,off,none⟩) ls.length cap) ls∧RdI w3 (.slice A3 os.length cap3) os∧Below w.heap.size w w3)
       (fun _ q _=>M-(intOf q).toNat)
      case atStart=>exact⟨0,Nat.zero_le _,rfl,by simpa[allFor] using HO3.out,HR3.out,HO2.out,HB3.out⟩
      case round=>
       obtain⟨c,hc,rfl,ho,hr,hr2,hb⟩:=hrel
       have hsz4:=hb.size
       by_cases hlt3:c<M
       ·have hal3:(acc++allFor x os c).length≤16*k+c:=by rw[List.length_append,allFor_len];omega
        generalize hacc:acc++allFor x os c=acc3 at ho hal3
        have HS4:Hid (acc++allFor x os (c+1)=acc3++ [(x,subTo os c os.length)]):=hDD (by rw[allFor_succ,←List.append_assoc,hacc])
        have HO4:=hDD ho
        have HR4:=hDD hr
        have HR5:=hDD hr2
        have HB4:=hDD hb
        obtain⟨cs4,hrow4⟩:=ho.row
        have HW4:=hDD hrow4
        obtain⟨A4,cap4,rfl,_⟩:=ho.len
        obtain⟨b9,off9,hA9,hbl9,hc9⟩:=hr.at (by omega)
        obtain⟨rfl,rfl⟩:b=b9∧off=off9:=by simpa using hA9
        have hcell9:=hc9 k hlt
        rw[HXE.out] at hcell9
        clear ho hr hr2 hb hacc hrow4 hc9 hA9
        obtain⟨wm,rfl⟩: ∃wm:World,wm=wr:=⟨_,rfl⟩
        go_wp2_with fail
        go_loopw [10] (fun j w4=> ∃i:Nat,i≤os.length∧j= .int .i64 i∧ ∃s:Value,w4.cell? ⟨wm.heap.size,0,none⟩=some (.int .i64 x)∧w4.cell? ⟨wm.heap.size,1,none⟩=some s∧(∀o,w4.frozen? ⟨wm.heap.size,o,none⟩=false)∧OwI w4 (wm.heap.size+1) s (subTo os c i)∧Below wm.heap.size wm w4∧wm.heap.size<w4.heap.size)
         (fun j _=>os.length-(intOf j).toNat)
        case atStart=> 
         refine⟨0,Nat.zero_le _,rfl, .slice none 0 0,by simp[go_sem],by simp[go_sem],by simp[go_sem],⟨⟨rfl, .inl ⟨rfl,rfl⟩⟩,I64s_nil⟩,(by repeat(first | exact Below.refl _ _ | (refine Below.setCell ?_ (by first | omega | (simp<;>omega)) _) | (refine bel_drewN ?_ _) | (refine Below.drew ?_) | (refine Below.alloc ?_ (by first | omega | (simp<;>omega)) _))),by simp⟩
        case round=>
         obtain⟨i,hi,rfl,s,h0,h1,hf,hs,hb5,hg5⟩:=hrel
         have hsl:=subTo_len os c i
         by_cases hlt4:i<os.length
         ·obtain⟨b3,off3,rfl,hbl3,hc3⟩:=HR5.out.at (by omega)
          have hcell3:=(hb5.cell hbl3).trans (hc3 i hlt4)
          have HS5:=hDD (subTo_succ os c i hlt4)
          have HI:=hDD (HOI.out os[i] (by simp))
          have HB5:=hDD hb5
          generalize subTo os c i=sacc at hs HS5 hsl
          have HO5:=hDD hs
          obtain⟨A5,cap5,rfl,hcap5,hm5,_,_⟩:=hs.form
          generalize os[i]=o at hcell3 HS5 HI
          clear hc3 hb5 hs
          have hi4:i<4:=by omega
          have hc16:c<16:=by omega
          have hbit:=bit_of hc16 hi4
          rcases e4:bitB c i with _ | _
          ·rw[e4] at HS5 hbit
           go_wp2
           go_roundw
           case rel=>exact⟨i+1,by omega,by go_num,_,h0,h1,hf,by rw[HS5.out];simpa using HO5.out,HB5.out,hg5⟩
           case measure=>simp[intOf];omega
          ·rw[e4] at HS5 hbit
           have hK1: ∀ob o',(wr.drew.alloc ob).cell? ⟨wm.heap.size,o',none⟩=wr.cell? ⟨wm.heap.size,o',none⟩:=fun ob o'=>World.cell?_of_block (Below.heap_alloc wr.drew ob _ hg5)
           have hK3: ∀ob o',(wr.drew.alloc ob).cell? ⟨b3,o',none⟩=wr.cell? ⟨b3,o',none⟩:=fun ob o'=>World.cell?_of_block (Below.heap_alloc wr.drew ob _ (Nat.lt_of_lt_of_le hbl3 HB5.out.size))
           have HK1:=hDD hK1
           have HK3:=hDD hK3
           clear hK1 hK3
           go_wp2_with fail
           go_region_law
            (first | (refine step_append_ints rfl (.tmp 73) (.tmp 78) rfl (wm.heap.size+1) (.slice A5 sacc.length cap5) sacc (by repeat(first | exact(Hid.out HO5) | exact(Hid.out HO5).drewN _ | (refine OwI.far ?_ (by first | omega | (simp<;>omega)) _) | (refine OwI.alloc ?_ _) | (refine OwI.drew ?_) | (refine OwI.drewN ?_ _))) (by rfl) (.slice (some ⟨wr.heap.size,0,none⟩) 1 1) [o] (RdI_new1 wr o HI.out) (by rfl) (by simp;omega) (by simp;omega) ?_;intro v1 w1 o1 g1 p1;have hne1:(Value.slice A5 sacc.length cap5).ownBlock≠some wm.heap.size:=(fun h=>by have:=(HO5.out.1.lt _ h).1;omega);have hne2:(Value.slice A5 sacc.length cap5).ownBlock≠some b3:=(fun h=>by have:=(HO5.out.1.lt _ h).1;omega);obtain⟨hcx,hfx⟩:=cell_grown_drew g1 hg5 hne1;obtain⟨hcy,hfy⟩:=cell_grown_drew g1 (Nat.lt_of_lt_of_le hbl3 HB5.out.size) hne2;have hz1:=g1.size;simp at hz1;have HX1:=hDD hcx;have HX3:=hDD hcy;obtain⟨A6,cap6,rfl,_⟩:=OwI.form o1;have O1:=hDD o1;have HB6:=hDD (bel_push HB5.out.drew HB5.out.size HO5.out.1 (Nat.le_succ _) g1)))
           all_goals
            go_wp2
            go_roundw
            case rel=>exact⟨i+1,by omega,by go_num, .slice A6 (sacc.length+1) cap6,by simp[go_sem,hcx,h0],by simp[go_sem,hcx,h1],by simp[go_sem,hfx,hf],by rw[HS5.out];have h:=O1.out.far (p:=⟨wm.heap.size,1,none⟩) (by simp) (.slice A6 (sacc.length+1) cap6);simpa using h,(by repeat(first | exact Below.refl _ _ | (refine Below.setCell ?_ (by first | omega | (simp<;>omega)) _) | (refine bel_drewN ?_ _) | (refine Below.drew ?_) | (refine Below.alloc ?_ (by first | omega | (simp<;>omega)) _) | (refine Below.trans ?_ (Below.mono (Hid.out HB6) (by first | omega | (simp<;>omega)))))),by simp;omega⟩
            case measure=>simp[intOf];omega
         ·obtain rfl:i=os.length:=by omega
          have HS5:=hDD hs
          have HB5:=hDD hb5
          have hsl:=subTo_len os c os.length
          obtain⟨A5,cap5,rfl,hcap5,hm5,_,_⟩:=hs.form
          have hlt5:=fun b h=>hs.1.lt b h
          have HL5:=hDD hlt5
          clear hs hb5 hlt5
          go_wp2_with (at_builtin;refine push_own EWh.stable rfl (.tmp 81) (.tmp 83) rfl Tryz.underlying47 hi0 hz0 hz1 hz2 rfl (by decide) (by decide) HO4.out hsz4 (HB5.out.alloc HB5.out.size _) rfl _ [.int .i64 x,_] (x,subTo os c os.length) _ rfl (EWh.of ⟨by omega,by omega⟩ (HS5.out.alloc _)) rfl (opt_nodup _) ?_ ?_ ?_ (by omega) ?_;(intro b hb;have:=HL5.out b (by simpa using hb);simp;omega);(intro j u hj;match j,hj with | 0,hj=>(simp at hj;subst hj;simp[go_sem]) | 1,hj=>(simp at hj;subst hj;simp[go_sem]));(intro u hu;simp at hu;rcases hu with rfl | rfl<;>rfl);intro v2 w2 o2 g2)
          go_roundw
          case rel=>
           have hbW:=HB5.out.alloc HB5.out.size (Obj.cells #[Value.int IntKind.i64 x,Value.slice A5 (subTo os c os.length).length cap5] 26)
           have hrW:=ownsRow_keep HW4.out (w':=_) fun b hb=>hbW.block b (HO4.out.lt hb).2
           have hne:(26:TypeId)≠3:=by decide
           exact⟨c+1,by omega,by go_num,by rw[HS4.out];exact o2,⟨(HR4.out.below hbW).1.grown_ty hrW hne g2,HR4.out.2⟩,⟨(HR5.out.below hbW).1.grown_ty hrW hne g2,HR5.out.2⟩,bel_own (HB4.out.trans (hbW.mono hsz4)) HO4.out (Nat.le_refl _) (by have:=hbW.size;omega) g2⟩
          case measure=>simp[intOf];omega
       ·obtain rfl:c=M:=by omega
        have HQ:=hDD (And.intro ho (And.intro hr hb))
        clear ho hr hr2 hb HOI HO2 HO3 HR3 HB3 hcell
        go_wp2
        go_roundw
        case rel=>exact⟨k+1,by omega,by go_num,by rw[HS.out];exact HQ.out.1,HQ.out.2.1,HQ.out.2.2⟩
        case measure=>simp[intOf];omega
   ·obtain rfl:k=ls.length:=by omega
    go_wp2
    go_ret
    exact⟨_,rfl,by rw[F.out];exact hown,hbel⟩
end Go.Proofs.YtlgcflpaekbopaaGreat
namespace Go.Proofs.YtlgcflpaekbopaaGreat
set_option maxRecDepth 20000
set_option linter.unusedVariables false
set_option linter.unusedSimpArgs false
open Go.RowKit
def whAt (r t:Int) (S:List Int) (i:Nat):Bool:=
 letB r (S.getD i 0)&&(S.getD i 0 != t)&&(S.getD i 0 != -t)&& !(decide (0<i)&&decide (0≤cmpL (S.getD (i-1) 0) (S.getD i 0)))
def whB (r:Int) (d:WhD):Bool:=inB r 1 3&&letB r d.1&&(List.range d.2.length).all (whAt r d.1 d.2)
theorem whB_true {r t:Int} {S:List Int} (h1:inB r 1 3=true) (h2:letB r t=true) (h: ∀i,i<S.length→whAt r t S i=true):whB r (t,S)=true:=by
 unfold whB
 rw[h1,h2]
 simp
 exact h
theorem whB_false {r t:Int} {S:List Int} (i:Nat) (hi:i<S.length) (h:inB r 1 3=true→letB r t=true→whAt r t S i=false):whB r (t,S)=false:=by
 unfold whB
 rcases h1:inB r 1 3 with _ | _
 ·rfl
 ·rcases h2:letB r t with _ | _
  ·rfl
  ·simp
   exact⟨i,hi,h h1 h2⟩
theorem whAt_zero {r t:Int} {S:List Int} (h:0<S.length):whAt r t S 0=(letB r S[0]&&(S[0] != t)&&(S[0] != -t)):=by
 simp[whAt,List.getD,h]
theorem whAt_pos {r t:Int} {S:List Int} {k:Nat} (h0:0<k) (h:k<S.length):whAt r t S k=(letB r S[k]&&(S[k] != t)&&(S[k] != -t)&& !decide (0≤cmpL S[k-1] S[k])):=by
 have:k-1<S.length:=by omega
 simp[whAt,List.getD,h,h0,this]
theorem whAt_let {r t:Int} {S:List Int} {k:Nat} (h:k<S.length) (hw:whAt r t S k=true):letB r S[k]=true:=by
 unfold whAt at hw
 simp only[Bool.and_eq_true] at hw
 have:=hw.1.1.1
 simpa[List.getD,h] using this
set_option maxHeartbeats 4000000 in
theorem implIsWhitehead_any (r:Int) (v:Value) (d:WhD) (w:World) (h:ArgWh w v d) (hl:d.2.length≤1073741824):
  Calls Tryz.prog 10 #[.int .i64 r,v] w fun e w'=>e= .returned (.bool (whB r d))∧Below w.heap.size w w':=by
 obtain⟨s,rfl,hd,ha⟩:=h
 obtain⟨t,S⟩:=d
 simp only at hd ha hl
 obtain⟨A,cap,rfl,hcap,hm,hr,hb⟩:=ha
 have HR:=hDD hr
 have HB:=hDD hb
 have HT:=hDD hd
 clear hr hb hd
 rcases e1:inB r 1 3 with _ | _
 ·have F:Hid (whB r (t,S)=false):=hDD (by unfold whB;rw[e1];rfl)
  go_enter Tryz.func10,Tryz.ntmps10
  go_wp2_with (go_at_call 56;refine(within_any _ _ _ _).mono ?_;rintro e w' ⟨rfl,rfl⟩)
  go_ret
  exact⟨ret_bool F.out.symm,(by repeat(first | exact Below.refl _ _ | (refine Below.setCell ?_ (by first | omega | (simp<;>omega)) _) | (refine bel_drewN ?_ _) | (refine Below.drew ?_) | (refine Below.alloc ?_ (by first | omega | (simp<;>omega)) _)))⟩
 ·rcases e2:letB r t with _ | _
  ·have F:Hid (whB r (t,S)=false):=hDD (by unfold whB;rw[e1,e2];rfl)
   go_enter Tryz.func10,Tryz.ntmps10
   go_wp2_with (first | (go_at_call 56;refine(within_any _ _ _ _).mono ?_;rintro e w' ⟨rfl,rfl⟩) | (go_at_call 57;refine(isLetter_any _ _ _).mono ?_;rintro e w' ⟨rfl,rfl⟩))
   go_ret
   exact⟨ret_bool F.out.symm,(by repeat(first | exact Below.refl _ _ | (refine Below.setCell ?_ (by first | omega | (simp<;>omega)) _) | (refine bel_drewN ?_ _) | (refine Below.drew ?_) | (refine Below.alloc ?_ (by first | omega | (simp<;>omega)) _)))⟩
  ·have ht:=(letB_iff e1).1 e2
   have hr3:=inB_iff.1 e1
   have hn:wrap64 (-t)= -t:=IntWalk.wrap64_in _ ⟨by omega,by omega⟩
   have HN:=hDD hn
   have ht1: -3≤t:=by omega
   have ht2:t≤3:=by omega
   clear hn ht hr3
   go_enter Tryz.func10,Tryz.ntmps10
   go_wp2_with (first | (go_at_call 56;refine(within_any _ _ _ _).mono ?_;rintro e w' ⟨rfl,rfl⟩) | (go_at_call 57;refine(isLetter_any _ _ _).mono ?_;rintro e w' ⟨rfl,rfl⟩))
   go_loop [20] (fun i=> ∃k:Nat,k≤S.length∧i= .int .i64 k∧(∀j,j<k→whAt r t S j=true)) (fun i=>S.length-(intOf i).toNat)
   case atStart=>exact⟨0,Nat.zero_le _,rfl,fun j hj=>absurd hj (by omega)⟩
   case round=>
    obtain⟨k,hk,rfl,hok⟩:=hrel
    have HOK:=hDD hok
    clear hok
    by_cases hlt:k<S.length
    ·obtain⟨b,off,rfl,hc⟩:=HB.out (by omega)
     have hbl:b<w.heap.size:=World.block_lt_of_cell? w _ (hc k hlt)
     have hcell:=hc k hlt
     have ST:Hid (whAt r t S k=true→ ∀j,j<k+1→whAt r t S j=true):=fun F j hj=>by
      rcases Nat.lt_or_eq_of_le (Nat.le_of_lt_succ hj) with hj | rfl
      ·exact HOK.out j hj
      ·exact F
     have FA:Hid (whAt r t S k=false→whB r (t,S)=false):=fun F=>whB_false k hlt fun _ _=>F
     have HX:=hDD (HR.out S[k] (by simp))
     by_cases h0:0<k
     ·have hcell2:=hc (k-1) (by omega)
      have HZ:=hDD (whAt_pos (r:=r) (t:=t) h0 hlt)
      have HY:=hDD (HR.out S[k-1] (by simp))
      clear hc
      generalize S[k-1]=y at hcell2 HZ HY
      generalize hx:S[k]=x at hcell HZ HX
      clear hx
      rcases e3:letB r x with _ | _
      ·have F:=hDD (FA.out (by rw[HZ.out,e3];rfl))
       go_wp2_with (go_at_call 57;refine(isLetter_any _ _ _).mono ?_;rintro e w' ⟨rfl,rfl⟩)
       go_ret
       exact⟨ret_bool F.out.symm,(by repeat(first | exact Below.refl _ _ | (refine Below.setCell ?_ (by first | omega | (simp<;>omega)) _) | (refine bel_drewN ?_ _) | (refine Below.drew ?_) | (refine Below.alloc ?_ (by first | omega | (simp<;>omega)) _)))⟩
      ·rcases e4:(x==t) with _ | _
       ·rcases e5:(x== -t) with _ | _
        ·rcases e6:decide (0≤cmpL y x) with _ | _
         ·have F:=hDD (ST.out (by rw[HZ.out,e3,e6];simp only[bne,e4,e5];rfl))
          go_wp2_with (first | (go_at_call 57;refine(isLetter_any _ _ _).mono ?_;rintro e w' ⟨rfl,rfl⟩) | (go_at_call 58;refine(compareLetters_any _ _ _ HY.out HX.out).mono ?_;rintro e w' ⟨rfl,rfl⟩))
          go_round
          case rel=>exact⟨k+1,by omega,by go_num,F.out⟩
          case measure=>simp[intOf];omega
         ·have F:=hDD (FA.out (by rw[HZ.out,e6];simp))
          go_wp2_with (first | (go_at_call 57;refine(isLetter_any _ _ _).mono ?_;rintro e w' ⟨rfl,rfl⟩) | (go_at_call 58;refine(compareLetters_any _ _ _ HY.out HX.out).mono ?_;rintro e w' ⟨rfl,rfl⟩))
          go_ret
          exact⟨ret_bool F.out.symm,(by repeat(first | exact Below.refl _ _ | (refine Below.setCell ?_ (by first | omega | (simp<;>omega)) _) | (refine bel_drewN ?_ _) | (refine Below.drew ?_) | (refine Below.alloc ?_ (by first | omega | (simp<;>omega)) _)))⟩
        ·have F:=hDD (FA.out (by rw[HZ.out];simp only[bne,e5];simp))
         go_wp2_with (go_at_call 57;refine(isLetter_any _ _ _).mono ?_;rintro e w' ⟨rfl,rfl⟩)
         go_ret
         exact⟨ret_bool F.out.symm,(by repeat(first | exact Below.refl _ _ | (refine Below.setCell ?_ (by first | omega | (simp<;>omega)) _) | (refine bel_drewN ?_ _) | (refine Below.drew ?_) | (refine Below.alloc ?_ (by first | omega | (simp<;>omega)) _)))⟩
       ·have F:=hDD (FA.out (by rw[HZ.out];simp only[bne,e4];simp))
        go_wp2_with (go_at_call 57;refine(isLetter_any _ _ _).mono ?_;rintro e w' ⟨rfl,rfl⟩)
        go_ret
        exact⟨ret_bool F.out.symm,(by repeat(first | exact Below.refl _ _ | (refine Below.setCell ?_ (by first | omega | (simp<;>omega)) _) | (refine bel_drewN ?_ _) | (refine Below.drew ?_) | (refine Below.alloc ?_ (by first | omega | (simp<;>omega)) _)))⟩
     ·obtain rfl:k=0:=by omega
      rw[Nat.add_zero] at hcell
      have HZ:=hDD (whAt_zero (r:=r) (t:=t) hlt)
      clear hc
      generalize hx:S[0]=x at hcell HZ HX
      clear hx
      rcases e3:letB r x with _ | _
      ·have F:=hDD (FA.out (by rw[HZ.out,e3];rfl))
       go_wp2_with (go_at_call 57;refine(isLetter_any _ _ _).mono ?_;rintro e w' ⟨rfl,rfl⟩)
       go_ret
       exact⟨ret_bool F.out.symm,(by repeat(first | exact Below.refl _ _ | (refine Below.setCell ?_ (by first | omega | (simp<;>omega)) _) | (refine bel_drewN ?_ _) | (refine Below.drew ?_) | (refine Below.alloc ?_ (by first | omega | (simp<;>omega)) _)))⟩
      ·rcases e4:(x==t) with _ | _
       ·rcases e5:(x== -t) with _ | _
        ·have F:=hDD (ST.out (by rw[HZ.out,e3];simp only[bne,e4,e5];rfl))
         go_wp2_with (go_at_call 57;refine(isLetter_any _ _ _).mono ?_;rintro e w' ⟨rfl,rfl⟩)
         go_round
         case rel=>exact⟨1,by omega,by go_num,F.out⟩
         case measure=>simp[intOf];omega
        ·have F:=hDD (FA.out (by rw[HZ.out];simp only[bne,e5];simp))
         go_wp2_with (go_at_call 57;refine(isLetter_any _ _ _).mono ?_;rintro e w' ⟨rfl,rfl⟩)
         go_ret
         exact⟨ret_bool F.out.symm,(by repeat(first | exact Below.refl _ _ | (refine Below.setCell ?_ (by first | omega | (simp<;>omega)) _) | (refine bel_drewN ?_ _) | (refine Below.drew ?_) | (refine Below.alloc ?_ (by first | omega | (simp<;>omega)) _)))⟩
       ·have F:=hDD (FA.out (by rw[HZ.out];simp only[bne,e4];simp))
        go_wp2_with (go_at_call 57;refine(isLetter_any _ _ _).mono ?_;rintro e w' ⟨rfl,rfl⟩)
        go_ret
        exact⟨ret_bool F.out.symm,(by repeat(first | exact Below.refl _ _ | (refine Below.setCell ?_ (by first | omega | (simp<;>omega)) _) | (refine bel_drewN ?_ _) | (refine Below.drew ?_) | (refine Below.alloc ?_ (by first | omega | (simp<;>omega)) _)))⟩
    ·obtain rfl:k=S.length:=by omega
     have F:=hDD (whB_true e1 e2 HOK.out)
     go_wp2
     go_ret
     exact⟨ret_bool F.out.symm,(by repeat(first | exact Below.refl _ _ | (refine Below.setCell ?_ (by first | omega | (simp<;>omega)) _) | (refine bel_drewN ?_ _) | (refine Below.drew ?_) | (refine Below.alloc ?_ (by first | omega | (simp<;>omega)) _)))⟩
theorem abs_small {x:Int} (h1: -3≤x) (h2:x≤3):abs64 x=if x<0 then-x else x:=by
 unfold abs64
 split
 ·exact IntWalk.wrap64_in _ ⟨by omega,by omega⟩
 ·rfl
theorem whAt_spec {r t x:Int} (h1:inB r 1 3=true) (h2:letB r t=true):
  (letB r x&&(x != t)&&(x != -t))=((x != 0)&&inB x (wrap64 (-r)) r&& !(abs64 x==abs64 t)):=by
 rcases h3:letB r x with _ | _
 ·unfold letB at h3
  rw[h3];rfl
 ·have ht:=(letB_iff h1).1 h2
  have hx:=(letB_iff h1).1 h3
  have hr:=inB_iff.1 h1
  unfold letB at h3
  rw[h3,abs_small (by omega) (by omega),abs_small (x:=t) (by omega) (by omega),Bool.eq_iff_iff]
  simp
  repeat' split
  all_goals omega
theorem whAt_rk {r x y:Int} (h1:inB r 1 3=true) (h3:letB r x=true) (h2:letB r y=true):decide (0≤cmpL y x)=decide (rk x≤rk y):=by
 have hx:=(letB_iff h1).1 h3
 have hy:=(letB_iff h1).1 h2
 have hr:=inB_iff.1 h1
 have:=rk_cmp (a:=y) (b:=x) (by omega) (by omega) hy.1 (by omega) (by omega) hx.1
 rw[Bool.eq_iff_iff]
 simp[this]
set_option maxHeartbeats 4000000 in
theorem specIsWhitehead_any (r:Int) (v:Value) (d:WhD) (w:World) (h:ArgWh w v d) (hl:d.2.length≤1073741824):
  Calls Tryz.prog 53 #[.int .i64 r,v] w fun e w'=>e= .returned (.bool (whB r d))∧Below w.heap.size w w':=by
 obtain⟨s,rfl,hd,ha⟩:=h
 obtain⟨t,S⟩:=d
 simp only at hd ha hl
 obtain⟨A,cap,rfl,hcap,hm,hr,hb⟩:=ha
 have HB:=hDD hb
 have HT:=hDD hd
 clear hr hb hd
 go_enter Tryz.func53,Tryz.ntmps53
 go_wp2
 go_loopw [5] (fun i wr=> ∃k:Nat,k≤S.length∧i= .int .i64 k∧(inB r 1 3=true→letB r t=true→ ∀j,j<k→whAt r t S j=true)∧ ∃n,wr=(w.alloc (Obj.cells #[.int .i64 t, .slice A S.length cap] 26)).drewN n) (fun i _=>S.length-(intOf i).toNat)
 case atStart=>exact⟨0,Nat.zero_le _,rfl,fun _ _ j hj=>absurd hj (by omega),0,rfl⟩
 case round=>
  obtain⟨k,hk,rfl,hok,n,rfl⟩:=hrel
  have HOK:=hDD hok
  clear hok
  by_cases hlt:k<S.length
  ·obtain⟨b,off,rfl,hc⟩:=HB.out (by omega)
   have hbl:b<w.heap.size:=World.block_lt_of_cell? w _ (hc k hlt)
   have hcell:=hc k hlt
   have ST:Hid ((inB r 1 3=true→letB r t=true→whAt r t S k=true)→inB r 1 3=true→letB r t=true→ ∀j,j<k+1→whAt r t S j=true):=fun F q1 q2 j hj=>by
    rcases Nat.lt_or_eq_of_le (Nat.le_of_lt_succ hj) with hj | rfl
    ·exact HOK.out q1 q2 j hj
    ·exact F q1 q2
   have FA:Hid ((inB r 1 3=true→letB r t=true→whAt r t S k=false)→whB r (t,S)=false):=fun F=>whB_false k hlt F
   by_cases h0:0<k
   ·have hcell2:=hc (k-1) (by omega)
    have hd0:decide ((0:Int)<(k:Int))=true:=by simp;omega
    have HP:Hid (inB r 1 3=true→letB r t=true→letB r S[k-1]=true):=fun q1 q2=>whAt_let (by omega) (HOK.out q1 q2 (k-1) (by omega))
    have HZ:=hDD (whAt_pos (r:=r) (t:=t) h0 hlt)
    clear hc
    generalize S[k-1]=y at hcell2 HZ HP
    generalize hx:S[k]=x at hcell HZ
    clear hx
    have key:Hid (∀c:Bool,((x != 0)&&inB x (wrap64 (-r)) r&& !(abs64 x==abs64 t)&& !decide (rk x≤rk y))=c→inB r 1 3=true→letB r t=true→whAt r t S k=c):=fun c hc q1 q2=>by
     rw[HZ.out,whAt_spec q1 q2]
     rcases e:((x != 0)&&inB x (wrap64 (-r)) r&& !(abs64 x==abs64 t)) with _ | _
     ·rw[e] at hc;rw[←hc];rfl
     ·have hlx:letB r x=true:=by
       simp only[Bool.and_eq_true] at e
       unfold letB
       rw[e.1.1,e.1.2];rfl
      rw[e] at hc
      rw[whAt_rk q1 hlx (HP.out q1 q2)]
      exact hc
    rcases e1:(x==0) with _ | _
    ·rcases e2:inB x (wrap64 (-r)) r with _ | _
     ·have F:=hDD (FA.out (key.out false (by rw[e2];simp)))
      go_wp2
      go_quiet ((first | (go_at_call 64;first | exact quiet_left (l1In_any _ _ _ _) | exact quiet_add_left (l1In_any _ _ _ _)) | (go_at_call 83;first | exact quiet_left (l21Abs_any _ _) | exact quiet_add_left (l21Abs_any _ _)) | (go_at_call 100;first | exact quiet_left (l2Rank_any _ _) | exact quiet_add_left (l2Rank_any _ _))))
      go_wp2
      go_ret
      exact⟨ret_bool F.out.symm,(by repeat(first | exact Below.refl _ _ | (refine Below.setCell ?_ (by first | omega | (simp<;>omega)) _) | (refine bel_drewN ?_ _) | (refine Below.drew ?_) | (refine Below.alloc ?_ (by first | omega | (simp<;>omega)) _)))⟩
     ·rcases e3:(abs64 x==abs64 t) with _ | _
      ·rcases e4:decide (rk x≤rk y) with _ | _
       ·have F:=hDD (ST.out (key.out true (by rw[e2,e3,e4];simp only[bne,e1];rfl)))
        go_wp2
        go_quiet ((first | (go_at_call 64;first | exact quiet_left (l1In_any _ _ _ _) | exact quiet_add_left (l1In_any _ _ _ _)) | (go_at_call 83;first | exact quiet_left (l21Abs_any _ _) | exact quiet_add_left (l21Abs_any _ _)) | (go_at_call 100;first | exact quiet_left (l2Rank_any _ _) | exact quiet_add_left (l2Rank_any _ _))))
        go_wp2
        go_roundw
        case rel=>exact⟨k+1,by omega,by go_num,F.out,_,rfl⟩
        case measure=>simp[intOf];omega
       ·have F:=hDD (FA.out (key.out false (by rw[e4];simp)))
        go_wp2
        go_quiet ((first | (go_at_call 64;first | exact quiet_left (l1In_any _ _ _ _) | exact quiet_add_left (l1In_any _ _ _ _)) | (go_at_call 83;first | exact quiet_left (l21Abs_any _ _) | exact quiet_add_left (l21Abs_any _ _)) | (go_at_call 100;first | exact quiet_left (l2Rank_any _ _) | exact quiet_add_left (l2Rank_any _ _))))
        go_wp2
        go_ret
        exact⟨ret_bool F.out.symm,(by repeat(first | exact Below.refl _ _ | (refine Below.setCell ?_ (by first | omega | (simp<;>omega)) _) | (refine bel_drewN ?_ _) | (refine Below.drew ?_) | (refine Below.alloc ?_ (by first | omega | (simp<;>omega)) _)))⟩
      ·have F:=hDD (FA.out (key.out false (by rw[e3];simp)))
       go_wp2
       go_quiet ((first | (go_at_call 64;first | exact quiet_left (l1In_any _ _ _ _) | exact quiet_add_left (l1In_any _ _ _ _)) | (go_at_call 83;first | exact quiet_left (l21Abs_any _ _) | exact quiet_add_left (l21Abs_any _ _)) | (go_at_call 100;first | exact quiet_left (l2Rank_any _ _) | exact quiet_add_left (l2Rank_any _ _))))
       go_wp2
       go_ret
       exact⟨ret_bool F.out.symm,(by repeat(first | exact Below.refl _ _ | (refine Below.setCell ?_ (by first | omega | (simp<;>omega)) _) | (refine bel_drewN ?_ _) | (refine Below.drew ?_) | (refine Below.alloc ?_ (by first | omega | (simp<;>omega)) _)))⟩
    ·have F:=hDD (FA.out (key.out false (by simp only[bne,e1];rfl)))
     go_wp2
     go_quiet ((first | (go_at_call 64;first | exact quiet_left (l1In_any _ _ _ _) | exact quiet_add_left (l1In_any _ _ _ _)) | (go_at_call 83;first | exact quiet_left (l21Abs_any _ _) | exact quiet_add_left (l21Abs_any _ _)) | (go_at_call 100;first | exact quiet_left (l2Rank_any _ _) | exact quiet_add_left (l2Rank_any _ _))))
     go_wp2
     go_ret
     exact⟨ret_bool F.out.symm,(by repeat(first | exact Below.refl _ _ | (refine Below.setCell ?_ (by first | omega | (simp<;>omega)) _) | (refine bel_drewN ?_ _) | (refine Below.drew ?_) | (refine Below.alloc ?_ (by first | omega | (simp<;>omega)) _)))⟩
   ·obtain rfl:k=0:=by omega
    rw[Nat.add_zero] at hcell
    have HZ:=hDD (whAt_zero (r:=r) (t:=t) hlt)
    clear hc
    generalize hx:S[0]=x at hcell HZ
    clear hx
    have key:Hid (∀c:Bool,((x != 0)&&inB x (wrap64 (-r)) r&& !(abs64 x==abs64 t))=c→inB r 1 3=true→letB r t=true→whAt r t S 0=c):=fun c hc q1 q2=>by
     rw[HZ.out,whAt_spec q1 q2]
     exact hc
    rcases e1:(x==0) with _ | _
    ·rcases e2:inB x (wrap64 (-r)) r with _ | _
     ·have F:=hDD (FA.out (key.out false (by rw[e2];simp)))
      go_wp2
      go_quiet ((first | (go_at_call 64;first | exact quiet_left (l1In_any _ _ _ _) | exact quiet_add_left (l1In_any _ _ _ _)) | (go_at_call 83;first | exact quiet_left (l21Abs_any _ _) | exact quiet_add_left (l21Abs_any _ _)) | (go_at_call 100;first | exact quiet_left (l2Rank_any _ _) | exact quiet_add_left (l2Rank_any _ _))))
      go_wp2
      go_ret
      exact⟨ret_bool F.out.symm,(by repeat(first | exact Below.refl _ _ | (refine Below.setCell ?_ (by first | omega | (simp<;>omega)) _) | (refine bel_drewN ?_ _) | (refine Below.drew ?_) | (refine Below.alloc ?_ (by first | omega | (simp<;>omega)) _)))⟩
     ·rcases e3:(abs64 x==abs64 t) with _ | _
      ·have F:=hDD (ST.out (key.out true (by rw[e2,e3];simp only[bne,e1];rfl)))
       go_wp2
       go_quiet ((first | (go_at_call 64;first | exact quiet_left (l1In_any _ _ _ _) | exact quiet_add_left (l1In_any _ _ _ _)) | (go_at_call 83;first | exact quiet_left (l21Abs_any _ _) | exact quiet_add_left (l21Abs_any _ _)) | (go_at_call 100;first | exact quiet_left (l2Rank_any _ _) | exact quiet_add_left (l2Rank_any _ _))))
       go_wp2
       go_roundw
       case rel=>exact⟨1,by omega,by go_num,F.out,_,rfl⟩
       case measure=>simp[intOf];omega
      ·have F:=hDD (FA.out (key.out false (by rw[e3];simp)))
       go_wp2
       go_quiet ((first | (go_at_call 64;first | exact quiet_left (l1In_any _ _ _ _) | exact quiet_add_left (l1In_any _ _ _ _)) | (go_at_call 83;first | exact quiet_left (l21Abs_any _ _) | exact quiet_add_left (l21Abs_any _ _)) | (go_at_call 100;first | exact quiet_left (l2Rank_any _ _) | exact quiet_add_left (l2Rank_any _ _))))
       go_wp2
       go_ret
       exact⟨ret_bool F.out.symm,(by repeat(first | exact Below.refl _ _ | (refine Below.setCell ?_ (by first | omega | (simp<;>omega)) _) | (refine bel_drewN ?_ _) | (refine Below.drew ?_) | (refine Below.alloc ?_ (by first | omega | (simp<;>omega)) _)))⟩
    ·have F:=hDD (FA.out (key.out false (by simp only[bne,e1];rfl)))
     go_wp2
     go_quiet ((first | (go_at_call 64;first | exact quiet_left (l1In_any _ _ _ _) | exact quiet_add_left (l1In_any _ _ _ _)) | (go_at_call 83;first | exact quiet_left (l21Abs_any _ _) | exact quiet_add_left (l21Abs_any _ _)) | (go_at_call 100;first | exact quiet_left (l2Rank_any _ _) | exact quiet_add_left (l2Rank_any _ _))))
     go_wp2
     go_ret
     exact⟨ret_bool F.out.symm,(by repeat(first | exact Below.refl _ _ | (refine Below.setCell ?_ (by first | omega | (simp<;>omega)) _) | (refine bel_drewN ?_ _) | (refine Below.drew ?_) | (refine Below.alloc ?_ (by first | omega | (simp<;>omega)) _)))⟩
  ·obtain rfl:k=S.length:=by omega
   rcases e1:inB r 1 3 with _ | _
   ·have F:Hid (whB r (t,S)=false):=hDD (by unfold whB;rw[e1];rfl)
    go_wp2_with (go_at_call 64;refine(l1In_any _ _ _ _).mono ?_;rintro e w' ⟨rfl,rfl⟩)
    go_ret
    exact⟨ret_bool F.out.symm,(by repeat(first | exact Below.refl _ _ | (refine Below.setCell ?_ (by first | omega | (simp<;>omega)) _) | (refine bel_drewN ?_ _) | (refine Below.drew ?_) | (refine Below.alloc ?_ (by first | omega | (simp<;>omega)) _)))⟩
   ·rcases e2:(t != 0) with _ | _
    ·have F:Hid (whB r (t,S)=false):=hDD (by unfold whB letB;rw[e1,e2];rfl)
     go_wp2_with (go_at_call 64;refine(l1In_any _ _ _ _).mono ?_;rintro e w' ⟨rfl,rfl⟩)
     go_ret
     exact⟨ret_bool F.out.symm,(by repeat(first | exact Below.refl _ _ | (refine Below.setCell ?_ (by first | omega | (simp<;>omega)) _) | (refine bel_drewN ?_ _) | (refine Below.drew ?_) | (refine Below.alloc ?_ (by first | omega | (simp<;>omega)) _)))⟩
    ·rcases e3:inB t (wrap64 (-r)) r with _ | _
     ·have F:Hid (whB r (t,S)=false):=hDD (by unfold whB letB;rw[e1,e2,e3];rfl)
      go_wp2_with (go_at_call 64;refine(l1In_any _ _ _ _).mono ?_;rintro e w' ⟨rfl,rfl⟩)
      go_ret
      exact⟨ret_bool F.out.symm,(by repeat(first | exact Below.refl _ _ | (refine Below.setCell ?_ (by first | omega | (simp<;>omega)) _) | (refine bel_drewN ?_ _) | (refine Below.drew ?_) | (refine Below.alloc ?_ (by first | omega | (simp<;>omega)) _)))⟩
     ·have F:=hDD (whB_true e1 (by unfold letB;rw[e2,e3];rfl) (HOK.out e1 (by unfold letB;rw[e2,e3];rfl)))
      go_wp2_with (go_at_call 64;refine(l1In_any _ _ _ _).mono ?_;rintro e w' ⟨rfl,rfl⟩)
      go_ret
      exact⟨ret_bool F.out.symm,(by repeat(first | exact Below.refl _ _ | (refine Below.setCell ?_ (by first | omega | (simp<;>omega)) _) | (refine bel_drewN ?_ _) | (refine Below.drew ?_) | (refine Below.alloc ?_ (by first | omega | (simp<;>omega)) _)))⟩
end Go.Proofs.YtlgcflpaekbopaaGreat
namespace Go.Proofs.YtlgcflpaekbopaaGreat
set_option maxRecDepth 20000
set_option linter.unusedVariables false
set_option linter.unusedSimpArgs false
open Go.RowKit
abbrev MoD:=Int×List (List Int)
def exp1L (B:List (List Int)) (k:Int):List (List Int):=
 if 1≤k∧k≤B.length then [B.getD (k-1).toNat []] else if k<0∧ -(B.length:Int)≤k then [invL (B.getD (-k-1).toNat [])] else []
def expParts (B:List (List Int)) (l:List Int):List (List Int):=(l.take 200).flatMap (exp1L B)
def expL (B:List (List Int)) (l:List Int):List Int:=redLL (expParts B l)
theorem exp_succ (B:List (List Int)) (l:List Int) (k:Nat) (h:k<l.length):(l.take (k+1)).flatMap (exp1L B)=(l.take k).flatMap (exp1L B)++exp1L B l[k]:=by
 rw[List.take_succ_eq_append_getElem h,List.flatMap_append]
 simp
theorem exp1L_len (B:List (List Int)) (k:Int):(exp1L B k).length≤1:=by
 unfold exp1L;repeat' split
 all_goals simp
theorem flat1_len (B:List (List Int)) (l:List Int):(l.flatMap (exp1L B)).length≤l.length:=by
 induction l with
 | nil=>simp
 | cons x l ih=>have:=exp1L_len B x;simp only[List.flatMap_cons,List.length_append,List.length_cons];omega
theorem invL_lenW (xs:List Int):(invL xs).length=xs.length:=by simp[invL,negL]
theorem getD_le {B:List (List Int)} {M:Nat} (h: ∀b∈B,b.length≤M) (i:Nat):(B.getD i []).length≤M:=by
 by_cases hi:i<B.length
 ·have e:B.getD i []=B[i]:=by simp[List.getD,hi]
  rw[e];exact h _ (by simp)
 ·have e:B.getD i []= []:=by simp[List.getD,Nat.not_lt.1 hi]
  rw[e];simp
theorem exp1L_each {B:List (List Int)} {M:Nat} (h: ∀b∈B,b.length≤M) (k:Int): ∀p∈exp1L B k,p.length≤M:=by
 intro p hp
 unfold exp1L at hp
 repeat' split at hp
 ·simp at hp;subst hp;exact getD_le h _
 ·simp at hp;subst hp;rw[invL_lenW];exact getD_le h _
 ·cases hp
theorem lenLL_leW {L:List (List Int)} {M:Nat} (h: ∀p∈L,p.length≤M):lenLL L≤L.length*M:=by
 induction L with
 | nil=>simp[lenLL]
 | cons a L ih=>
   have h1:=h a (by simp)
   have h2:=ih fun p hp=>h p (by simp[hp])
   unfold lenLL at h2⊢
   simp only[List.map_cons,List.sum_cons,List.length_cons,Nat.add_mul]
   omega
theorem flat_each {B:List (List Int)} {M:Nat} (h: ∀b∈B,b.length≤M) (l:List Int): ∀p∈l.flatMap (exp1L B),p.length≤M:=by
 intro p hp
 obtain⟨k,_,hp⟩:=List.mem_flatMap.1 hp
 exact exp1L_each h k p hp
theorem expL_len {B:List (List Int)} {M:Nat} (h: ∀b∈B,b.length≤M) (l:List Int):(expL B l).length≤(l.take 200).length*M:=by
 have h1:=redLL_len (expParts B l)
 have h2:=lenLL_leW (flat_each h (l.take 200))
 have h3:=Nat.mul_le_mul_right M (flat1_len B (l.take 200))
 unfold expL expParts at*
 omega
theorem expL_mem {B:List (List Int)} {l:List Int} {x:Int} (h:x∈expL B l): ∃b∈B,x∈b∨x∈invL b:=by
 unfold expL redLL at h
 rcases redL_mem h with h | h
 ·cases h
 ·obtain⟨p,hp,hx⟩:=List.mem_flatten.1 h
  obtain⟨k,_,hp⟩:=List.mem_flatMap.1 hp
  unfold exp1L at hp
  have mem: ∀i:Nat,x∈B.getD i []∨x∈invL (B.getD i [])→ ∃b∈B,x∈b∨x∈invL b:=by
   intro i hi
   by_cases hl:i<B.length
   ·have e:B.getD i []=B[i]:=by simp[List.getD,hl]
    rw[e] at hi;exact⟨_,by simp,hi⟩
   ·have e:B.getD i []= []:=by simp[List.getD,Nat.not_lt.1 hl]
    rw[e] at hi;simp[invL,negL] at hi
  repeat' split at hp
  ·simp at hp;subst hp;exact mem _ (.inl hx)
  ·simp at hp;subst hp;exact mem _ (.inr hx)
  ·cases hp
def whImg (d:WhD) (x:Int):List Int:=(if hasB d.2 (-x) then [wrap64 (-d.1)] else [])++ [x]++(if hasB d.2 x then [d.1] else [])
def whImgs (d:WhD):Nat→List (List Int)
 | 0=> []
 | n+1=>whImgs d n++ [whImg d ((n:Int)+1)]
def whM (r:Int) (d:WhD):MoD:=if whB r d then(r,whImgs d r.toNat) else(0,[])
theorem whImgs_len (d:WhD) (n:Nat):(whImgs d n).length=n:=by
 induction n with
 | zero=>rfl
 | succ n ih=>simp[whImgs,ih]
theorem whImg_len (d:WhD) (x:Int):(whImg d x).length≤3:=by
 unfold whImg;repeat' split
 all_goals simp
theorem whImgs_each (d:WhD) (n:Nat): ∀p∈whImgs d n,p.length≤3:=by
 induction n with
 | zero=>intro p hp;cases hp
 | succ n ih=>
   intro p hp
   rcases List.mem_append.1 hp with hp | hp
   ·exact ih p hp
   ·simp at hp;subst hp;exact whImg_len _ _
theorem whB_rank {r:Int} {d:WhD} (h:whB r d=true):inB r 1 3=true∧letB r d.1=true:=by
 unfold whB at h
 simp only[Bool.and_eq_true] at h
 exact h.1
theorem whImgs_mem {d:WhD} {n:Nat} {r:Int} (h:letB r d.1=true) (hr:inB r 1 3=true) (hn:(n:Int)≤r): ∀p∈whImgs d n,∀x∈p,letB r x=true:=by
 have hb:=inB_iff.1 hr
 have hd:=(letB_iff hr).1 h
 have hw:wrap64 (-d.1)= -d.1:=IntWalk.wrap64_in _ ⟨by omega,by omega⟩
 induction n with
 | zero=>intro p hp;cases hp
 | succ n ih=>
   intro p hp x hx
   rcases List.mem_append.1 hp with hp | hp
   ·exact ih (by omega) p hp x hx
   ·simp at hp
    subst hp
    unfold whImg at hx
    rw[hw] at hx
    simp only[List.mem_append,List.mem_singleton] at hx
    have:x= -d.1∨x=(n:Int)+1∨x=d.1:=by
     rcases hx with (hx | hx) | hx
     ·split at hx<;>simp at hx;exact .inl hx
     ·exact .inr (.inl hx)
     ·split at hx<;>simp at hx;exact .inr (.inr hx)
    refine(letB_iff hr).2 ?_
    omega
theorem letB_inv {r x:Int} {p:List Int} (hr:inB r 1 3=true) (h: ∀y∈p,letB r y=true) (hx:x∈invL p):letB r x=true:=by
 unfold invL negL at hx
 simp only[List.mem_reverse,List.mem_map] at hx
 obtain⟨y,hy,rfl⟩:=hx
 have hb:=inB_iff.1 hr
 have:=(letB_iff hr).1 (h y hy)
 rw[IntWalk.wrap64_in (-y) ⟨by omega,by omega⟩]
 exact(letB_iff hr).2 (by omega)
theorem letB_I64 {r x:Int} (hr:inB r 1 3=true) (h:letB r x=true):I64 x:=by
 have hb:=inB_iff.1 hr
 have:=(letB_iff hr).1 h
 unfold I64;omega
def whX (r:Int) (d:WhD) (c:List Int):List Int:=expL (whM r d).2 c
def shortF (r:Int) (c:List Int):Option WhD:=(allWh r).find? fun d=>decide ((coreF (whX r d c)).length<c.length)
def shF (r:Int) (w:List Int):WhD×Bool:=if wordB r w then(match shortF r (cycF w) with | some d=>(d,true) | none=>((0,[]),false)) else((0,[]),false)
def redGo (r:Int):Nat→List Int→List WhD→List Int×List WhD
 | 0,c,l=>(c,l)
 | n+1,c,l=>match shortF r c with
   | none=>(c,l)
   | some d=>redGo r n (cycF (whX r d c)) (l++ [d])
def redF (r:Int) (w:List Int):List Int×List WhD:=if wordB r w then redGo r 24 (cycF w) [] else([],[])
def goodF (r:Int) (c:List Int):Prop:=inB r 1 3=true∧(∀x∈c,letB r x=true)∧c.length≤24∧cycF c=c
theorem goodF.I64 {r:Int} {c:List Int} (h:goodF r c):I64s c:=fun x hx=>letB_I64 h.1 (h.2.1 x hx)
theorem goodF.word {r:Int} {c:List Int} (h:goodF r c):wordB r c=true:=by
 have:=cycF_word h.1 h.2.1 h.I64 (by rw[h.2.2.2];exact h.2.2.1)
 rw[h.2.2.2] at this
 exact this
theorem goodF_cyc {r:Int} {w:List Int} (h:wordB r w=true):goodF r (cycF w):=by
 have hr:=wordB_rank h
 have hrb:inB r 1 3=true:=inB_iff.2 hr
 have hI:I64s w:=fun x hx=>letB_I64 hrb (wordB_let h hx)
 exact⟨hrb,fun x hx=>wordB_let h (cycF_mem hx),Nat.le_trans (cycF_len w) (wordB_len h),cycF_cycF hI⟩
theorem whX_let {r:Int} {d:WhD} {c:List Int} (hr:inB r 1 3=true): ∀x∈whX r d c,letB r x=true:=by
 intro x hx
 obtain⟨b,hb,hx⟩:=expL_mem hx
 unfold whM at hb
 split at hb
 ·rename_i hw
  have h1:=whB_rank hw
  have hb3:=inB_iff.1 hr
  have hm:=whImgs_mem h1.2 hr (by omega:((r.toNat:Nat):Int)≤r) b hb
  rcases hx with hx | hx
  ·exact hm x hx
  ·exact letB_inv hr hm hx
 ·cases hb
theorem shortF_lt {r:Int} {c:List Int} {d:WhD} (h:shortF r c=some d):(coreF (whX r d c)).length<c.length:=by
 have:=List.find?_some h
 simpa using this
theorem goodF_next {r:Int} {c:List Int} {d:WhD} (h:goodF r c) (hs:shortF r c=some d):goodF r (cycF (whX r d c)):=by
 have hl:=shortF_lt hs
 have hx: ∀x∈whX r d c,letB r x=true:=whX_let h.1
 have hI:I64s (whX r d c):=fun x hx'=>letB_I64 h.1 (hx x hx')
 refine⟨h.1,fun x hx'=>hx x (cycF_mem hx'),?_,cycF_cycF hI⟩
 rw[cycF_clen]
 have:=h.2.2.1
 omega
theorem shF_good {r:Int} {c:List Int} (h:goodF r c):shF r c=match shortF r c with | some d=>(d,true) | none=>((0,[]),false):=by
 unfold shF
 rw[h.word,if_pos rfl,h.2.2.2]
theorem find_succ (r:Int) (c:List Int) (k:Nat) (h:k<(allWh r).length):
  ((allWh r).drop k).find? (fun d=>decide ((coreF (whX r d c)).length<c.length))=if decide ((coreF (whX r (allWh r)[k] c)).length<c.length) then some (allWh r)[k] else((allWh r).drop (k+1)).find? (fun d=>decide ((coreF (whX r d c)).length<c.length)):=by
 rw[List.drop_eq_getElem_cons h,List.find?_cons]
 cases decide ((coreF (whX r (allWh r)[k] c)).length<c.length)<;>rfl
end Go.Proofs.YtlgcflpaekbopaaGreat
namespace Go.Proofs.YtlgcflpaekbopaaGreat
set_option maxRecDepth 20000
set_option linter.unusedVariables false
set_option linter.unusedSimpArgs false
open Go.RowKit
def cW (d:WhD):Nat:=d.2.length+1
theorem allWh_cnt (r:Int):cntL cW (allWh r)≤1073741824:=by
 rcases h:inB r 1 3 with _ | _
 ·have:allWh r= []:=by unfold allWh;rw[h];rfl
  rw[this];simp[cntL]
 ·have hb:=inB_iff.1 h
  have:r=1∨r=2∨r=3:=by omega
  rcases this with rfl | rfl | rfl<;>decide+kernel
end Go.Proofs.YtlgcflpaekbopaaGreat
namespace Go.Proofs.YtlgcflpaekbopaaGreat
set_option maxRecDepth 20000
set_option linter.unusedVariables false
set_option linter.unusedSimpArgs false
open Go.RowKit
theorem OwI.alone {w:World} {base:Nat} {v:Value} {xs:List Int} (h:OwI w 0 v xs) (hb: ∀b,v.ownBlock=some b→base≤b):OwI w base v xs:=by
 refine⟨⟨h.1.1,?_⟩,h.2⟩
 rcases h.1.2 with h0 | ⟨g,cap,cur,hv,hg,r⟩
 ·exact .inl h0
 ·exact .inr ⟨g,cap,cur,hv,hb g (by rw[hv];rfl),r⟩
theorem OwII_none (w:World) (lo hi:Nat):OwII lo hi (.slice none 0 0) [] w:=
 OwnL.nil ⟨rfl, .inl ⟨rfl,rfl⟩⟩ fun b hb=>by simp[Value.ownBlock] at hb
set_option maxHeartbeats 2000000 in
theorem implWhiteheadMorphism_any (r:Int) (v:Value) (d:WhD) (w:World) (hr:I64 r) (h:ArgWh w v d) (hl:d.2.length≤1073741824):
  Calls Tryz.prog 7 #[.int .i64 r,v] w fun e w'=> ∃s,e= .returned (.tuple #[.agg #[.int .i64 (whM r d).1,s], .bool (whB r d)])∧OwII w.heap.size w'.heap.size s (whM r d).2 w'∧Below w.heap.size w w':=by
 have H:=hDD h
 obtain⟨s,rfl,hd,ha⟩:=h
 obtain⟨L,xs⟩:=d
 have HS:=hDD ha
 obtain⟨A,cap,rfl,hcap,hm,_⟩:=ha
 unfold maxLen at hm
 have HI:=hDD hd
 clear hd
 rcases eb:whB r (L,xs) with _ | _
 ·have F:Hid (whM r (L,xs)=(0,[])):=hDD (by unfold whM;rw[eb];rfl)
  go_enter Tryz.func7,Tryz.ntmps7
  go_wp2_with fail
  have C:=fun W (h:ArgWh W (.agg #[.int .i64 L, .slice A xs.length cap]) (L,xs))=>implIsWhitehead_any r _ (L,xs) W h hl
  simp only[eb] at C
  refine(C _ (H.out.below (by repeat(first | exact Below.refl _ _ | (refine Below.setCell ?_ (by first | omega | (simp<;>omega)) _) | (refine bel_drewN ?_ _) | (refine Below.drew ?_) | (refine Below.alloc ?_ (by first | omega | (simp<;>omega)) _))))).mono ?_
  rintro e w1 ⟨rfl,b1⟩
  clear C
  have B1:=hDD b1
  obtain⟨hc1,hf1⟩:=bcell b1
  have hz1:=b1.size
  simp at hz1
  have hzz:w.heap.size+1<w1.heap.size:=by omega
  clear b1
  have hq0:w1.cell? ⟨w.heap.size+1,0,none⟩=some (.int .i64 0):=by rw[hc1 _ _ (by simp)];simp[go_sem]
  have hq1:w1.cell? ⟨w.heap.size+1,1,none⟩=some (.slice none 0 0):=by rw[hc1 _ _ (by simp)];simp[go_sem]
  go_wp2
  refine bodyPost_ret (v:= .tuple #[.agg #[.int .i64 0, .slice none 0 0], .bool false]) (by simp[results,Tryz.results7,go_sem,hzz,hq0,hq1]) rfl ⟨_,by rw[F.out],by rw[F.out];exact OwII_none _ _ _,?_⟩
  exact(by repeat(first | exact Below.refl _ _ | (refine Below.setCell ?_ (by first | omega | (simp<;>omega)) _) | (refine bel_drewN ?_ _) | (refine Below.drew ?_) | (refine Below.alloc ?_ (by first | omega | (simp<;>omega)) _) | (refine Below.trans ?_ (Below.mono (Hid.out B1) (by first | omega | (simp<;>omega))))))
 ·have hrk:=whB_rank eb
  have hr3:=inB_iff.1 hrk.1
  have hL:=(letB_iff hrk.1).1 hrk.2
  have hL1: -3≤L:=by have:=hL.2.1;simp at this;omega
  have hL2:L≤3:=by have:=hL.2.2;simp at this;omega
  obtain⟨n,rfl⟩: ∃n:Nat,r=n:=⟨r.toNat,by omega⟩
  have F:Hid (whM n (L,xs)=((n:Int),whImgs (L,xs) n)):=hDD (by unfold whM;rw[eb];rfl)
  have HNL:Hid (wrap64 (-L)= -L):=hDD (IntWalk.wrap64_in _ ⟨by omega,by omega⟩)
  have hn3:n≤3:=by omega
  have hn1:1≤n:=by omega
  clear hrk hr3 hL hr
  go_enter Tryz.func7,Tryz.ntmps7
  go_wp2_with fail
  have C:=fun W (h:ArgWh W (.agg #[.int .i64 L, .slice A xs.length cap]) (L,xs))=>implIsWhitehead_any n _ (L,xs) W h hl
  simp only[eb] at C
  refine(C _ (H.out.below (by repeat(first | exact Below.refl _ _ | (refine Below.setCell ?_ (by first | omega | (simp<;>omega)) _) | (refine bel_drewN ?_ _) | (refine Below.drew ?_) | (refine Below.alloc ?_ (by first | omega | (simp<;>omega)) _))))).mono ?_
  rintro e w1 ⟨rfl,b1⟩
  clear C
  have B1:=hDD b1
  obtain⟨hc1,hf1⟩:=bcell b1
  have hz1:=b1.size
  simp at hz1
  have hzz:w.heap.size+1<w1.heap.size:=by omega
  have hzz0:w.heap.size<w1.heap.size:=by omega
  clear b1
  go_wp2_with fail
  go_loopw [7] (fun i wr=> ∃k:Nat,k≤n∧i= .int .i64 (k+1)∧ ∃s:Value,wr.cell? ⟨w1.heap.size,0,none⟩=some (.int .i64 n)∧wr.cell? ⟨w1.heap.size,1,none⟩=some s∧(∀o,wr.frozen? ⟨w1.heap.size,o,none⟩=false)∧OwII (w1.heap.size+1) wr.heap.size s (whImgs (L,xs) k) wr∧Below w1.heap.size w1 wr∧w1.heap.size<wr.heap.size)
   (fun i _=>n+1-(intOf i).toNat)
  case atStart=>
   refine⟨0,Nat.zero_le _,rfl, .slice none 0 0,by simp[go_sem],by simp[go_sem],by simp[go_sem],OwII_none _ _ _,(by repeat(first | exact Below.refl _ _ | (refine Below.setCell ?_ (by first | omega | (simp<;>omega)) _) | (refine bel_drewN ?_ _) | (refine Below.drew ?_) | (refine Below.alloc ?_ (by first | omega | (simp<;>omega)) _))),by simp⟩
  case round=>
   obtain⟨k,hk,rfl,s,h0,h1,hf,hs,hb5,hg5⟩:=hrel
   have hlen:=whImgs_len (L,xs) k
   have HB5:=hDD hb5
   have HO5:=hDD hs
   obtain⟨A5,cap5,rfl,_⟩:=hs.len
   obtain⟨hcr,hfr⟩:=bcell hb5
   by_cases hlt:k<n
   ·have hr0:wr.cell? ⟨w.heap.size,0,none⟩=some (.int .i64 L):=by rw[hcr _ _ hzz0,hc1 _ _ (by simp;omega)];simp[go_sem]
    have hr1:wr.cell? ⟨w.heap.size,1,none⟩=some (.slice A xs.length cap):=by rw[hcr _ _ hzz0,hc1 _ _ (by simp;omega)];simp[go_sem]
    have hbw:Below w.heap.size w wr:=by
     refine Below.trans ?_ (hb5.mono (by omega))
     exact(by repeat(first | exact Below.refl _ _ | (refine Below.setCell ?_ (by first | omega | (simp<;>omega)) _) | (refine bel_drewN ?_ _) | (refine Below.drew ?_) | (refine Below.alloc ?_ (by first | omega | (simp<;>omega)) _) | (refine Below.trans ?_ (Below.mono (Hid.out B1) (by first | omega | (simp<;>omega))))))
    have HSX:=hDD (HS.out.below hbw)
    have hsz0:w.heap.size<wr.heap.size:=by omega
    have HIM:Hid (whImgs (L,xs) (k+1)=whImgs (L,xs) k++ [whImg (L,xs) ((k:Int)+1)]):=hDD rfl
    have HWI:Hid (whImg (L,xs) ((k:Int)+1)=(if hasB xs (-((k:Int)+1)) then [-L] else [])++ [(k:Int)+1]++(if hasB xs ((k:Int)+1) then [L] else [])):=hDD (by unfold whImg;rw[HNL.out])
    have HI1:Hid (I64 (-L)):=hDD ⟨by omega,by omega⟩
    have HI2:Hid (I64 ((k:Int)+1)):=hDD ⟨by omega,by omega⟩
    clear hcr hfr hc1 hf1 hs hb5
    have hlk:(whImgs (L,xs) k).length≤3:=by omega
    clear hlen
    generalize whImgs (L,xs) k=acc at HO5 HIM hlk h1
    have HLI:Hid (I64 L):=hDD ⟨by omega,by omega⟩
    have hcs0:=hr0
    have HOA:Hid (OwI (wr.alloc (Obj.cells #[] 3)) wr.heap.size (.slice (some ⟨wr.heap.size,0,none⟩) 0 0) []):=hDD (OwI_lit wr [] I64s_nil (by simp) (Nat.le_refl _))
    have HBA:Hid (Below wr.heap.size wr (wr.alloc (Obj.cells #[] 3))):=hDD ((Below.refl _ _).alloc (Nat.le_refl _) _)
    have HEQ:Hid (∀(W:World) (p1 p2:Bool),hasB xs (-((k:Int)+1))=p1→True):=hDD fun _ _ _ _=>trivial
    rcases e1:hasB xs (-((k:Int)+1)) with _ | _<;>rcases e2:hasB xs ((k:Int)+1) with _ | _
    all_goals
     have HW2:=HWI.out
     rw[e1,e2] at HW2
     simp only[Bool.false_eq_true,if_false,if_true,List.nil_append,List.append_nil] at HW2
     have HW3:=hDD HW2
     have CN:=fun W (h:ArgI W (.slice A xs.length cap) xs)=>libContains_any _ xs (-((k:Int)+1)) W h hl
     rw[e1] at CN
     have CNN:=hDD CN
     have CP:=fun W (h:ArgI W (.slice A xs.length cap) xs)=>libContains_any _ xs ((k:Int)+1) W h hl
     rw[e2] at CP
     have CPP:=hDD CP
     clear HW2 CN CP e1 e2 HWI HEQ
     go_wp2_with fail
     generalize wr.alloc (Obj.cells #[] 3)=wa at HOA HBA⊢
     have hza:=HBA.out.size
     obtain⟨hca,hfa⟩:=bcell HBA.out
     refine(CNN.out _ (HSX.out.below HBA.out)).mono ?_
     rintro e w' ⟨rfl,rfl⟩
    ·go_wp2_with (first
      | (go_at_call 52;refine(CPP.out _ (HSX.out.below B1.out)).mono ?_;rintro e w' ⟨rfl,rfl⟩)
      | ((at_builtin;refine push_int rfl (.tmp 33) (.tmp 35) rfl _ _ _ (OwI.alloc HOA.out _) rfl _ _ rfl (cell_new1 _ _ _) HI2.out (by first | omega | (simp<;>omega)) (by first | omega | (simp<;>omega)) ?_;intro v1 wv1 o1 g1 p1);have B1:=hDD (bel_push HBA.out (by omega) HOA.out.1 (Nat.le_refl _) g1);obtain⟨hc1,hf1⟩:=bcell B1.out;have hz1:=B1.out.size;have O1:=hDD o1;obtain⟨A1,c1,rfl,_⟩:=OwI.form o1;clear o1 g1 p1)
      | (at_builtin;refine push_ints rfl (.tmp 47) (.tmp 49) rfl (w0:=wr) HO5.out (by omega) (B1.out.alloc (by omega) _) rfl _ _ _ rfl (O1.out.alloc _) (Nat.le_refl _) (cell_new1 _ _ _) rfl (by omega) ?_;intro vz wz oz gz;obtain⟨Az,cz,rfl,_⟩:=OwnL.len oz;obtain⟨hcz,hfz⟩:=cell_grown_alloc gz (b:=w1.heap.size) (by omega) (fun h=>by have:=(HO5.out.lt h).1;omega);have hzz:=gz.size;simp at hzz;have hzz2:w1.heap.size<wz.heap.size:=(by omega);have OZ:=hDD oz;have GZ:=hDD gz;clear oz gz))
     go_roundw
     case rel=>
      have q0:=(hcz 0).trans ((B1.out.cell (p:=⟨w1.heap.size,0,none⟩) hg5).trans h0)
      have q1:=(hcz 1).trans ((B1.out.cell (p:=⟨w1.heap.size,1,none⟩) hg5).trans h1)
      have qf:=fun o=>(hfz o).trans ((B1.out.frozen (p:=⟨w1.heap.size,o,none⟩) hg5).trans (hf o))
      refine⟨k+1,by omega,by go_num, .slice Az (acc.length+1) cz,by simp[go_sem,q0],by simp[go_sem,q1],by simp[go_sem,qf],?_,?_,by simp;omega⟩
      ·rw[HIM.out,HW3.out]
       have h9:=OZ.out
       simp only[List.length_append,List.length_singleton] at h9
       have h:=h9.keep EI.stable (w':=wz.setCell ⟨w1.heap.size,1,none⟩ (.slice Az (acc.length+1) cz)) fun b hb _=>by rw[setCell_block _ _ _ b (by show b≠w1.heap.size;omega)]
       exact h.widen (Nat.le_refl _) (by simp)
      ·exact(((HB5.out.trans (B1.out.mono (by omega))).alloc (by omega) _).grown GZ.out (by simp;omega) (fun j hj=>Nat.le_of_lt (HO5.out.lt hj).1)).setCell (Nat.le_refl _) _
     case measure=>simp[intOf];omega
    ·go_wp2_with (first
      | (go_at_call 52;refine(CPP.out _ (HSX.out.below B1.out)).mono ?_;rintro e w' ⟨rfl,rfl⟩)
      | ((at_builtin;refine push_int rfl (.tmp 33) (.tmp 35) rfl _ _ _ (OwI.alloc HOA.out _) rfl _ _ rfl (cell_new1 _ _ _) HI2.out (by first | omega | (simp<;>omega)) (by first | omega | (simp<;>omega)) ?_;intro v1 wv1 o1 g1 p1);have B1:=hDD (bel_push HBA.out (by omega) HOA.out.1 (Nat.le_refl _) g1);obtain⟨hc1,hf1⟩:=bcell B1.out;have hz1:=B1.out.size;have O1:=hDD o1;obtain⟨A1,c1,rfl,_⟩:=OwI.form o1;clear o1 g1 p1)
      | ((at_builtin;refine push_int rfl (.tmp 41) (.tmp 44) rfl _ _ _ (OwI.alloc O1.out _) rfl _ _ rfl (cell_new1 _ _ _) HLI.out (by first | omega | (simp<;>omega)) (by first | omega | (simp<;>omega)) ?_;intro v2 wv2 o2 g2 p2);have B2:=hDD (bel_push B1.out (by omega) O1.out.1 (Nat.le_refl _) g2);obtain⟨hc2,hf2⟩:=bcell B2.out;have hz2:=B2.out.size;have O2:=hDD o2;obtain⟨A2,c2,rfl,_⟩:=OwI.form o2;clear o2 g2 p2)
      | (at_builtin;refine push_ints rfl (.tmp 47) (.tmp 49) rfl (w0:=wr) HO5.out (by omega) (B2.out.alloc (by omega) _) rfl _ _ _ rfl (O2.out.alloc _) (Nat.le_refl _) (cell_new1 _ _ _) rfl (by omega) ?_;intro vz wz oz gz;obtain⟨Az,cz,rfl,_⟩:=OwnL.len oz;obtain⟨hcz,hfz⟩:=cell_grown_alloc gz (b:=w1.heap.size) (by omega) (fun h=>by have:=(HO5.out.lt h).1;omega);have hzz:=gz.size;simp at hzz;have hzz2:w1.heap.size<wz.heap.size:=(by omega);have OZ:=hDD oz;have GZ:=hDD gz;clear oz gz))
     go_roundw
     case rel=>
      have q0:=(hcz 0).trans ((B2.out.cell (p:=⟨w1.heap.size,0,none⟩) hg5).trans h0)
      have q1:=(hcz 1).trans ((B2.out.cell (p:=⟨w1.heap.size,1,none⟩) hg5).trans h1)
      have qf:=fun o=>(hfz o).trans ((B2.out.frozen (p:=⟨w1.heap.size,o,none⟩) hg5).trans (hf o))
      refine⟨k+1,by omega,by go_num, .slice Az (acc.length+1) cz,by simp[go_sem,q0],by simp[go_sem,q1],by simp[go_sem,qf],?_,?_,by simp;omega⟩
      ·rw[HIM.out,HW3.out]
       have h9:=OZ.out
       simp only[List.length_append,List.length_singleton] at h9
       have h:=h9.keep EI.stable (w':=wz.setCell ⟨w1.heap.size,1,none⟩ (.slice Az (acc.length+1) cz)) fun b hb _=>by rw[setCell_block _ _ _ b (by show b≠w1.heap.size;omega)]
       exact h.widen (Nat.le_refl _) (by simp)
      ·exact(((HB5.out.trans (B2.out.mono (by omega))).alloc (by omega) _).grown GZ.out (by simp;omega) (fun j hj=>Nat.le_of_lt (HO5.out.lt hj).1)).setCell (Nat.le_refl _) _
     case measure=>simp[intOf];omega
    ·go_wp2_with (first
      | (go_at_call 52;refine(CPP.out _ (HSX.out.below B2.out)).mono ?_;rintro e w' ⟨rfl,rfl⟩)
      | ((at_builtin;refine push_int rfl (.tmp 27) (.tmp 31) rfl _ _ _ (OwI.alloc HOA.out _) rfl _ _ rfl (cell_new1 _ _ _) HI1.out (by first | omega | (simp<;>omega)) (by first | omega | (simp<;>omega)) ?_;intro v1 wv1 o1 g1 p1);have B1:=hDD (bel_push HBA.out (by omega) HOA.out.1 (Nat.le_refl _) g1);obtain⟨hc1,hf1⟩:=bcell B1.out;have hz1:=B1.out.size;have O1:=hDD o1;obtain⟨A1,c1,rfl,_⟩:=OwI.form o1;clear o1 g1 p1)
      | ((at_builtin;refine push_int rfl (.tmp 33) (.tmp 35) rfl _ _ _ (OwI.alloc O1.out _) rfl _ _ rfl (cell_new1 _ _ _) HI2.out (by first | omega | (simp<;>omega)) (by first | omega | (simp<;>omega)) ?_;intro v2 wv2 o2 g2 p2);have B2:=hDD (bel_push B1.out (by omega) O1.out.1 (Nat.le_refl _) g2);obtain⟨hc2,hf2⟩:=bcell B2.out;have hz2:=B2.out.size;have O2:=hDD o2;obtain⟨A2,c2,rfl,_⟩:=OwI.form o2;clear o2 g2 p2)
      | (at_builtin;refine push_ints rfl (.tmp 47) (.tmp 49) rfl (w0:=wr) HO5.out (by omega) (B2.out.alloc (by omega) _) rfl _ _ _ rfl (O2.out.alloc _) (Nat.le_refl _) (cell_new1 _ _ _) rfl (by omega) ?_;intro vz wz oz gz;obtain⟨Az,cz,rfl,_⟩:=OwnL.len oz;obtain⟨hcz,hfz⟩:=cell_grown_alloc gz (b:=w1.heap.size) (by omega) (fun h=>by have:=(HO5.out.lt h).1;omega);have hzz:=gz.size;simp at hzz;have hzz2:w1.heap.size<wz.heap.size:=(by omega);have OZ:=hDD oz;have GZ:=hDD gz;clear oz gz))
     go_roundw
     case rel=>
      have q0:=(hcz 0).trans ((B2.out.cell (p:=⟨w1.heap.size,0,none⟩) hg5).trans h0)
      have q1:=(hcz 1).trans ((B2.out.cell (p:=⟨w1.heap.size,1,none⟩) hg5).trans h1)
      have qf:=fun o=>(hfz o).trans ((B2.out.frozen (p:=⟨w1.heap.size,o,none⟩) hg5).trans (hf o))
      refine⟨k+1,by omega,by go_num, .slice Az (acc.length+1) cz,by simp[go_sem,q0],by simp[go_sem,q1],by simp[go_sem,qf],?_,?_,by simp;omega⟩
      ·rw[HIM.out,HW3.out]
       have h9:=OZ.out
       simp only[List.length_append,List.length_singleton] at h9
       have h:=h9.keep EI.stable (w':=wz.setCell ⟨w1.heap.size,1,none⟩ (.slice Az (acc.length+1) cz)) fun b hb _=>by rw[setCell_block _ _ _ b (by show b≠w1.heap.size;omega)]
       exact h.widen (Nat.le_refl _) (by simp)
      ·exact(((HB5.out.trans (B2.out.mono (by omega))).alloc (by omega) _).grown GZ.out (by simp;omega) (fun j hj=>Nat.le_of_lt (HO5.out.lt hj).1)).setCell (Nat.le_refl _) _
     case measure=>simp[intOf];omega
    ·go_wp2_with (first
      | (go_at_call 52;refine(CPP.out _ (HSX.out.below B2.out)).mono ?_;rintro e w' ⟨rfl,rfl⟩)
      | ((at_builtin;refine push_int rfl (.tmp 27) (.tmp 31) rfl _ _ _ (OwI.alloc HOA.out _) rfl _ _ rfl (cell_new1 _ _ _) HI1.out (by first | omega | (simp<;>omega)) (by first | omega | (simp<;>omega)) ?_;intro v1 wv1 o1 g1 p1);have B1:=hDD (bel_push HBA.out (by omega) HOA.out.1 (Nat.le_refl _) g1);obtain⟨hc1,hf1⟩:=bcell B1.out;have hz1:=B1.out.size;have O1:=hDD o1;obtain⟨A1,c1,rfl,_⟩:=OwI.form o1;clear o1 g1 p1)
      | ((at_builtin;refine push_int rfl (.tmp 33) (.tmp 35) rfl _ _ _ (OwI.alloc O1.out _) rfl _ _ rfl (cell_new1 _ _ _) HI2.out (by first | omega | (simp<;>omega)) (by first | omega | (simp<;>omega)) ?_;intro v2 wv2 o2 g2 p2);have B2:=hDD (bel_push B1.out (by omega) O1.out.1 (Nat.le_refl _) g2);obtain⟨hc2,hf2⟩:=bcell B2.out;have hz2:=B2.out.size;have O2:=hDD o2;obtain⟨A2,c2,rfl,_⟩:=OwI.form o2;clear o2 g2 p2)
      | ((at_builtin;refine push_int rfl (.tmp 41) (.tmp 44) rfl _ _ _ (OwI.alloc O2.out _) rfl _ _ rfl (cell_new1 _ _ _) HLI.out (by first | omega | (simp<;>omega)) (by first | omega | (simp<;>omega)) ?_;intro v3 wv3 o3 g3 p3);have B3:=hDD (bel_push B2.out (by omega) O2.out.1 (Nat.le_refl _) g3);obtain⟨hc3,hf3⟩:=bcell B3.out;have hz3:=B3.out.size;have O3:=hDD o3;obtain⟨A3,c3,rfl,_⟩:=OwI.form o3;clear o3 g3 p3)
      | (at_builtin;refine push_ints rfl (.tmp 47) (.tmp 49) rfl (w0:=wr) HO5.out (by omega) (B3.out.alloc (by omega) _) rfl _ _ _ rfl (O3.out.alloc _) (Nat.le_refl _) (cell_new1 _ _ _) rfl (by omega) ?_;intro vz wz oz gz;obtain⟨Az,cz,rfl,_⟩:=OwnL.len oz;obtain⟨hcz,hfz⟩:=cell_grown_alloc gz (b:=w1.heap.size) (by omega) (fun h=>by have:=(HO5.out.lt h).1;omega);have hzz:=gz.size;simp at hzz;have hzz2:w1.heap.size<wz.heap.size:=(by omega);have OZ:=hDD oz;have GZ:=hDD gz;clear oz gz))
     go_roundw
     case rel=>
      have q0:=(hcz 0).trans ((B3.out.cell (p:=⟨w1.heap.size,0,none⟩) hg5).trans h0)
      have q1:=(hcz 1).trans ((B3.out.cell (p:=⟨w1.heap.size,1,none⟩) hg5).trans h1)
      have qf:=fun o=>(hfz o).trans ((B3.out.frozen (p:=⟨w1.heap.size,o,none⟩) hg5).trans (hf o))
      refine⟨k+1,by omega,by go_num, .slice Az (acc.length+1) cz,by simp[go_sem,q0],by simp[go_sem,q1],by simp[go_sem,qf],?_,?_,by simp;omega⟩
      ·rw[HIM.out,HW3.out]
       have h9:=OZ.out
       simp only[List.length_append,List.length_singleton] at h9
       have h:=h9.keep EI.stable (w':=wz.setCell ⟨w1.heap.size,1,none⟩ (.slice Az (acc.length+1) cz)) fun b hb _=>by rw[setCell_block _ _ _ b (by show b≠w1.heap.size;omega)]
       exact h.widen (Nat.le_refl _) (by simp)
      ·exact(((HB5.out.trans (B3.out.mono (by omega))).alloc (by omega) _).grown GZ.out (by simp;omega) (fun j hj=>Nat.le_of_lt (HO5.out.lt hj).1)).setCell (Nat.le_refl _) _
     case measure=>simp[intOf];omega
   ·obtain rfl:k=n:=by omega
    have hq0:wr.cell? ⟨w.heap.size+1,0,none⟩=some (.int .i64 0):=by rw[hcr _ _ hzz,hc1 _ _ (by simp)];simp[go_sem]
    have hq1:wr.cell? ⟨w.heap.size+1,1,none⟩=some (.slice none 0 0):=by rw[hcr _ _ hzz,hc1 _ _ (by simp)];simp[go_sem]
    have hqf: ∀o,wr.frozen? ⟨w.heap.size+1,o,none⟩=false:=fun o=>by rw[hfr _ _ hzz,hf1 _ _ (by simp)];simp[go_sem]
    have hbw:Below w.heap.size w wr:=by
     refine Below.trans ?_ (HB5.out.mono (by omega))
     exact(by repeat(first | exact Below.refl _ _ | (refine Below.setCell ?_ (by first | omega | (simp<;>omega)) _) | (refine bel_drewN ?_ _) | (refine Below.drew ?_) | (refine Below.alloc ?_ (by first | omega | (simp<;>omega)) _) | (refine Below.trans ?_ (Below.mono (Hid.out B1) (by first | omega | (simp<;>omega))))))
    have HBW:=hDD hbw
    have hzq:w.heap.size+1<wr.heap.size:=by omega
    clear hcr hfr hc1 hf1 hs hb5 hbw
    go_wp2
    refine bodyPost_ret (v:= .tuple #[.agg #[.int .i64 k, .slice A5 k cap5], .bool true]) (by simp[results,Tryz.results7,go_sem,hzq,hq0,hq1]) rfl ⟨_,by rw[F.out],?_,?_⟩
    ·rw[F.out]
     have h0:=HO5.out
     rw[hlen] at h0
     have h:OwII (w1.heap.size+1) wr.heap.size (.slice A5 k cap5) (whImgs (L,xs) k) ((wr.setCell ⟨w.heap.size+1,0,none⟩ (.int .i64 k)).setCell ⟨w.heap.size+1,1,none⟩ (.slice A5 k cap5)):=
      h0.keep EI.stable fun b hb _=>by rw[setCell_block _ _ _ b (by show b≠w.heap.size+1;omega),setCell_block _ _ _ b (by show b≠w.heap.size+1;omega)]
     exact h.widen (by omega) (by simp)
    ·exact(by repeat(first | exact Below.refl _ _ | (refine Below.setCell ?_ (by first | omega | (simp<;>omega)) _) | (refine bel_drewN ?_ _) | (refine Below.drew ?_) | (refine Below.alloc ?_ (by first | omega | (simp<;>omega)) _) | (refine Below.trans ?_ (Below.mono (Hid.out HBW) (by first | omega | (simp<;>omega))))))
end Go.Proofs.YtlgcflpaekbopaaGreat
namespace Go.Proofs.YtlgcflpaekbopaaGreat
set_option maxRecDepth 20000
set_option linter.unusedVariables false
set_option linter.unusedSimpArgs false
open Go.RowKit
set_option maxHeartbeats 2000000 in
theorem specWhiteheadMorphism_any (r:Int) (v:Value) (d:WhD) (w:World) (hr:I64 r) (h:ArgWh w v d) (hl:d.2.length≤1073741824):
  Calls Tryz.prog 8 #[.int .i64 r,v] w fun e w'=> ∃s,e= .returned (.tuple #[.agg #[.int .i64 (whM r d).1,s], .bool (whB r d)])∧OwII w.heap.size w'.heap.size s (whM r d).2 w'∧Below w.heap.size w w':=by
 have H:=hDD h
 obtain⟨s,rfl,hd,ha⟩:=h
 obtain⟨L,xs⟩:=d
 have HS:=hDD ha
 obtain⟨A,cap,rfl,hcap,hm,_⟩:=ha
 unfold maxLen at hm
 have HI:=hDD hd
 clear hd
 rcases eb:whB r (L,xs) with _ | _
 ·have F:Hid (whM r (L,xs)=(0,[])):=hDD (by unfold whM;rw[eb];rfl)
  go_enter Tryz.func8,Tryz.ntmps8
  go_wp2_with fail
  have C:=fun W (h:ArgWh W (.agg #[.int .i64 L, .slice A xs.length cap]) (L,xs))=>specIsWhitehead_any r _ (L,xs) W h hl
  simp only[eb] at C
  refine(C _ (H.out.below (by repeat(first | exact Below.refl _ _ | (refine Below.setCell ?_ (by first | omega | (simp<;>omega)) _) | (refine bel_drewN ?_ _) | (refine Below.drew ?_) | (refine Below.alloc ?_ (by first | omega | (simp<;>omega)) _))))).mono ?_
  rintro e w1 ⟨rfl,b1⟩
  clear C
  have B1:=hDD b1
  obtain⟨hc1,hf1⟩:=bcell b1
  have hz1:=b1.size
  simp at hz1
  have hzz:w.heap.size+1<w1.heap.size:=by omega
  clear b1
  have hq0:w1.cell? ⟨w.heap.size+1,0,none⟩=some (.int .i64 0):=by rw[hc1 _ _ (by simp)];simp[go_sem]
  have hq1:w1.cell? ⟨w.heap.size+1,1,none⟩=some (.slice none 0 0):=by rw[hc1 _ _ (by simp)];simp[go_sem]
  go_wp2
  refine bodyPost_ret (v:= .tuple #[.agg #[.int .i64 0, .slice none 0 0], .bool false]) (by simp[results,Tryz.results8,go_sem,hzz,hq0,hq1]) rfl ⟨_,by rw[F.out],by rw[F.out];exact OwII_none _ _ _,?_⟩
  exact(by repeat(first | exact Below.refl _ _ | (refine Below.setCell ?_ (by first | omega | (simp<;>omega)) _) | (refine bel_drewN ?_ _) | (refine Below.drew ?_) | (refine Below.alloc ?_ (by first | omega | (simp<;>omega)) _) | (refine Below.trans ?_ (Below.mono (Hid.out B1) (by first | omega | (simp<;>omega))))))
 ·have hrk:=whB_rank eb
  have hr3:=inB_iff.1 hrk.1
  have hL:=(letB_iff hrk.1).1 hrk.2
  have hL1: -3≤L:=by have:=hL.2.1;simp at this;omega
  have hL2:L≤3:=by have:=hL.2.2;simp at this;omega
  obtain⟨n,rfl⟩: ∃n:Nat,r=n:=⟨r.toNat,by omega⟩
  have F:Hid (whM n (L,xs)=((n:Int),whImgs (L,xs) n)):=hDD (by unfold whM;rw[eb];rfl)
  have HNL:Hid (wrap64 (-L)= -L):=hDD (IntWalk.wrap64_in _ ⟨by omega,by omega⟩)
  have hn3:n≤3:=by omega
  have hn1:1≤n:=by omega
  clear hrk hr3 hL hr
  go_enter Tryz.func8,Tryz.ntmps8
  go_wp2_with fail
  have C:=fun W (h:ArgWh W (.agg #[.int .i64 L, .slice A xs.length cap]) (L,xs))=>specIsWhitehead_any n _ (L,xs) W h hl
  simp only[eb] at C
  refine(C _ (H.out.below (by repeat(first | exact Below.refl _ _ | (refine Below.setCell ?_ (by first | omega | (simp<;>omega)) _) | (refine bel_drewN ?_ _) | (refine Below.drew ?_) | (refine Below.alloc ?_ (by first | omega | (simp<;>omega)) _))))).mono ?_
  rintro e w1 ⟨rfl,b1⟩
  clear C
  have B1:=hDD b1
  obtain⟨hc1,hf1⟩:=bcell b1
  have hz1:=b1.size
  simp at hz1
  have hzz:w.heap.size+1<w1.heap.size:=by omega
  have hzz0:w.heap.size<w1.heap.size:=by omega
  clear b1
  go_wp2_with fail
  go_loopw [7] (fun i wr=> ∃k:Nat,k≤n∧i= .int .i64 (k+1)∧ ∃s:Value,wr.cell? ⟨w1.heap.size,0,none⟩=some (.int .i64 n)∧wr.cell? ⟨w1.heap.size,1,none⟩=some s∧(∀o,wr.frozen? ⟨w1.heap.size,o,none⟩=false)∧OwII (w1.heap.size+1) wr.heap.size s (whImgs (L,xs) k) wr∧Below w1.heap.size w1 wr∧w1.heap.size<wr.heap.size)
   (fun i _=>n+1-(intOf i).toNat)
  case atStart=>
   refine⟨0,Nat.zero_le _,rfl, .slice none 0 0,by simp[go_sem],by simp[go_sem],by simp[go_sem],OwII_none _ _ _,(by repeat(first | exact Below.refl _ _ | (refine Below.setCell ?_ (by first | omega | (simp<;>omega)) _) | (refine bel_drewN ?_ _) | (refine Below.drew ?_) | (refine Below.alloc ?_ (by first | omega | (simp<;>omega)) _))),by simp⟩
  case round=>
   obtain⟨k,hk,rfl,s,h0,h1,hf,hs,hb5,hg5⟩:=hrel
   have hlen:=whImgs_len (L,xs) k
   have HB5:=hDD hb5
   have HO5:=hDD hs
   obtain⟨A5,cap5,rfl,_⟩:=hs.len
   obtain⟨hcr,hfr⟩:=bcell hb5
   by_cases hlt:k<n
   ·have hr0:wr.cell? ⟨w.heap.size,0,none⟩=some (.int .i64 L):=by rw[hcr _ _ hzz0,hc1 _ _ (by simp;omega)];simp[go_sem]
    have hr1:wr.cell? ⟨w.heap.size,1,none⟩=some (.slice A xs.length cap):=by rw[hcr _ _ hzz0,hc1 _ _ (by simp;omega)];simp[go_sem]
    have hbw:Below w.heap.size w wr:=by
     refine Below.trans ?_ (hb5.mono (by omega))
     exact(by repeat(first | exact Below.refl _ _ | (refine Below.setCell ?_ (by first | omega | (simp<;>omega)) _) | (refine bel_drewN ?_ _) | (refine Below.drew ?_) | (refine Below.alloc ?_ (by first | omega | (simp<;>omega)) _) | (refine Below.trans ?_ (Below.mono (Hid.out B1) (by first | omega | (simp<;>omega))))))
    have HSX:=hDD (HS.out.below hbw)
    have hsz0:w.heap.size<wr.heap.size:=by omega
    have HIM:Hid (whImgs (L,xs) (k+1)=whImgs (L,xs) k++ [whImg (L,xs) ((k:Int)+1)]):=hDD rfl
    have HWI:Hid (whImg (L,xs) ((k:Int)+1)=(if hasB xs (-((k:Int)+1)) then [-L] else [])++ [(k:Int)+1]++(if hasB xs ((k:Int)+1) then [L] else [])):=hDD (by unfold whImg;rw[HNL.out])
    have HI1:Hid (I64 (-L)):=hDD ⟨by omega,by omega⟩
    have HI2:Hid (I64 ((k:Int)+1)):=hDD ⟨by omega,by omega⟩
    clear hcr hfr hc1 hf1 hs hb5
    have hlk:(whImgs (L,xs) k).length≤3:=by omega
    clear hlen
    generalize whImgs (L,xs) k=acc at HO5 HIM hlk h1
    have HLI:Hid (I64 L):=hDD ⟨by omega,by omega⟩
    have hcs0:=hr0
    have HOA:Hid (OwI (wr.alloc (Obj.cells #[] 3)) wr.heap.size (.slice (some ⟨wr.heap.size,0,none⟩) 0 0) []):=hDD (OwI_lit wr [] I64s_nil (by simp) (Nat.le_refl _))
    have HBA:Hid (Below wr.heap.size wr (wr.alloc (Obj.cells #[] 3))):=hDD ((Below.refl _ _).alloc (Nat.le_refl _) _)
    have HEQ:Hid (∀(W:World) (p1 p2:Bool),hasB xs (-((k:Int)+1))=p1→True):=hDD fun _ _ _ _=>trivial
    rcases e1:hasB xs (-((k:Int)+1)) with _ | _<;>rcases e2:hasB xs ((k:Int)+1) with _ | _
    all_goals
     have HW2:=HWI.out
     rw[e1,e2] at HW2
     simp only[Bool.false_eq_true,if_false,if_true,List.nil_append,List.append_nil] at HW2
     have HW3:=hDD HW2
     have CN:=fun W (h:ArgI W (.slice A xs.length cap) xs)=>l4Has_any _ xs (-((k:Int)+1)) W h hl
     rw[e1] at CN
     have CNN:=hDD CN
     have CP:=fun W (h:ArgI W (.slice A xs.length cap) xs)=>l4Has_any _ xs ((k:Int)+1) W h hl
     rw[e2] at CP
     have CPP:=hDD CP
     clear HW2 CN CP e1 e2 HWI HEQ
     go_wp2_with fail
     generalize wr.alloc (Obj.cells #[] 3)=wa at HOA HBA⊢
     have hza:=HBA.out.size
     obtain⟨hca,hfa⟩:=bcell HBA.out
     refine(CNN.out _ (HSX.out.below HBA.out)).mono ?_
     rintro e w' ⟨rfl,rfl⟩
    ·go_wp2_with (first
      | (go_at_call 54;refine(CPP.out _ (HSX.out.below B1.out)).mono ?_;rintro e w' ⟨rfl,rfl⟩)
      | ((at_builtin;refine push_int rfl (.tmp 33) (.tmp 35) rfl _ _ _ (OwI.alloc HOA.out _) rfl _ _ rfl (cell_new1 _ _ _) HI2.out (by first | omega | (simp<;>omega)) (by first | omega | (simp<;>omega)) ?_;intro v1 wv1 o1 g1 p1);have B1:=hDD (bel_push HBA.out (by omega) HOA.out.1 (Nat.le_refl _) g1);obtain⟨hc1,hf1⟩:=bcell B1.out;have hz1:=B1.out.size;have O1:=hDD o1;obtain⟨A1,c1,rfl,_⟩:=OwI.form o1;clear o1 g1 p1)
      | (at_builtin;refine push_ints rfl (.tmp 47) (.tmp 49) rfl (w0:=wr) HO5.out (by omega) (B1.out.alloc (by omega) _) rfl _ _ _ rfl (O1.out.alloc _) (Nat.le_refl _) (cell_new1 _ _ _) rfl (by omega) ?_;intro vz wz oz gz;obtain⟨Az,cz,rfl,_⟩:=OwnL.len oz;obtain⟨hcz,hfz⟩:=cell_grown_alloc gz (b:=w1.heap.size) (by omega) (fun h=>by have:=(HO5.out.lt h).1;omega);have hzz:=gz.size;simp at hzz;have hzz2:w1.heap.size<wz.heap.size:=(by omega);have OZ:=hDD oz;have GZ:=hDD gz;clear oz gz))
     go_roundw
     case rel=>
      have q0:=(hcz 0).trans ((B1.out.cell (p:=⟨w1.heap.size,0,none⟩) hg5).trans h0)
      have q1:=(hcz 1).trans ((B1.out.cell (p:=⟨w1.heap.size,1,none⟩) hg5).trans h1)
      have qf:=fun o=>(hfz o).trans ((B1.out.frozen (p:=⟨w1.heap.size,o,none⟩) hg5).trans (hf o))
      refine⟨k+1,by omega,by go_num, .slice Az (acc.length+1) cz,by simp[go_sem,q0],by simp[go_sem,q1],by simp[go_sem,qf],?_,?_,by simp;omega⟩
      ·rw[HIM.out,HW3.out]
       have h9:=OZ.out
       simp only[List.length_append,List.length_singleton] at h9
       have h:=h9.keep EI.stable (w':=wz.setCell ⟨w1.heap.size,1,none⟩ (.slice Az (acc.length+1) cz)) fun b hb _=>by rw[setCell_block _ _ _ b (by show b≠w1.heap.size;omega)]
       exact h.widen (Nat.le_refl _) (by simp)
      ·exact(((HB5.out.trans (B1.out.mono (by omega))).alloc (by omega) _).grown GZ.out (by simp;omega) (fun j hj=>Nat.le_of_lt (HO5.out.lt hj).1)).setCell (Nat.le_refl _) _
     case measure=>simp[intOf];omega
    ·go_wp2_with (first
      | (go_at_call 54;refine(CPP.out _ (HSX.out.below B1.out)).mono ?_;rintro e w' ⟨rfl,rfl⟩)
      | ((at_builtin;refine push_int rfl (.tmp 33) (.tmp 35) rfl _ _ _ (OwI.alloc HOA.out _) rfl _ _ rfl (cell_new1 _ _ _) HI2.out (by first | omega | (simp<;>omega)) (by first | omega | (simp<;>omega)) ?_;intro v1 wv1 o1 g1 p1);have B1:=hDD (bel_push HBA.out (by omega) HOA.out.1 (Nat.le_refl _) g1);obtain⟨hc1,hf1⟩:=bcell B1.out;have hz1:=B1.out.size;have O1:=hDD o1;obtain⟨A1,c1,rfl,_⟩:=OwI.form o1;clear o1 g1 p1)
      | ((at_builtin;refine push_int rfl (.tmp 41) (.tmp 44) rfl _ _ _ (OwI.alloc O1.out _) rfl _ _ rfl (cell_new1 _ _ _) HLI.out (by first | omega | (simp<;>omega)) (by first | omega | (simp<;>omega)) ?_;intro v2 wv2 o2 g2 p2);have B2:=hDD (bel_push B1.out (by omega) O1.out.1 (Nat.le_refl _) g2);obtain⟨hc2,hf2⟩:=bcell B2.out;have hz2:=B2.out.size;have O2:=hDD o2;obtain⟨A2,c2,rfl,_⟩:=OwI.form o2;clear o2 g2 p2)
      | (at_builtin;refine push_ints rfl (.tmp 47) (.tmp 49) rfl (w0:=wr) HO5.out (by omega) (B2.out.alloc (by omega) _) rfl _ _ _ rfl (O2.out.alloc _) (Nat.le_refl _) (cell_new1 _ _ _) rfl (by omega) ?_;intro vz wz oz gz;obtain⟨Az,cz,rfl,_⟩:=OwnL.len oz;obtain⟨hcz,hfz⟩:=cell_grown_alloc gz (b:=w1.heap.size) (by omega) (fun h=>by have:=(HO5.out.lt h).1;omega);have hzz:=gz.size;simp at hzz;have hzz2:w1.heap.size<wz.heap.size:=(by omega);have OZ:=hDD oz;have GZ:=hDD gz;clear oz gz))
     go_roundw
     case rel=>
      have q0:=(hcz 0).trans ((B2.out.cell (p:=⟨w1.heap.size,0,none⟩) hg5).trans h0)
      have q1:=(hcz 1).trans ((B2.out.cell (p:=⟨w1.heap.size,1,none⟩) hg5).trans h1)
      have qf:=fun o=>(hfz o).trans ((B2.out.frozen (p:=⟨w1.heap.size,o,none⟩) hg5).trans (hf o))
      refine⟨k+1,by omega,by go_num, .slice Az (acc.length+1) cz,by simp[go_sem,q0],by simp[go_sem,q1],by simp[go_sem,qf],?_,?_,by simp;omega⟩
      ·rw[HIM.out,HW3.out]
       have h9:=OZ.out
       simp only[List.length_append,List.length_singleton] at h9
       have h:=h9.keep EI.stable (w':=wz.setCell ⟨w1.heap.size,1,none⟩ (.slice Az (acc.length+1) cz)) fun b hb _=>by rw[setCell_block _ _ _ b (by show b≠w1.heap.size;omega)]
       exact h.widen (Nat.le_refl _) (by simp)
      ·exact(((HB5.out.trans (B2.out.mono (by omega))).alloc (by omega) _).grown GZ.out (by simp;omega) (fun j hj=>Nat.le_of_lt (HO5.out.lt hj).1)).setCell (Nat.le_refl _) _
     case measure=>simp[intOf];omega
    ·go_wp2_with (first
      | (go_at_call 54;refine(CPP.out _ (HSX.out.below B2.out)).mono ?_;rintro e w' ⟨rfl,rfl⟩)
      | ((at_builtin;refine push_int rfl (.tmp 27) (.tmp 31) rfl _ _ _ (OwI.alloc HOA.out _) rfl _ _ rfl (cell_new1 _ _ _) HI1.out (by first | omega | (simp<;>omega)) (by first | omega | (simp<;>omega)) ?_;intro v1 wv1 o1 g1 p1);have B1:=hDD (bel_push HBA.out (by omega) HOA.out.1 (Nat.le_refl _) g1);obtain⟨hc1,hf1⟩:=bcell B1.out;have hz1:=B1.out.size;have O1:=hDD o1;obtain⟨A1,c1,rfl,_⟩:=OwI.form o1;clear o1 g1 p1)
      | ((at_builtin;refine push_int rfl (.tmp 33) (.tmp 35) rfl _ _ _ (OwI.alloc O1.out _) rfl _ _ rfl (cell_new1 _ _ _) HI2.out (by first | omega | (simp<;>omega)) (by first | omega | (simp<;>omega)) ?_;intro v2 wv2 o2 g2 p2);have B2:=hDD (bel_push B1.out (by omega) O1.out.1 (Nat.le_refl _) g2);obtain⟨hc2,hf2⟩:=bcell B2.out;have hz2:=B2.out.size;have O2:=hDD o2;obtain⟨A2,c2,rfl,_⟩:=OwI.form o2;clear o2 g2 p2)
      | (at_builtin;refine push_ints rfl (.tmp 47) (.tmp 49) rfl (w0:=wr) HO5.out (by omega) (B2.out.alloc (by omega) _) rfl _ _ _ rfl (O2.out.alloc _) (Nat.le_refl _) (cell_new1 _ _ _) rfl (by omega) ?_;intro vz wz oz gz;obtain⟨Az,cz,rfl,_⟩:=OwnL.len oz;obtain⟨hcz,hfz⟩:=cell_grown_alloc gz (b:=w1.heap.size) (by omega) (fun h=>by have:=(HO5.out.lt h).1;omega);have hzz:=gz.size;simp at hzz;have hzz2:w1.heap.size<wz.heap.size:=(by omega);have OZ:=hDD oz;have GZ:=hDD gz;clear oz gz))
     go_roundw
     case rel=>
      have q0:=(hcz 0).trans ((B2.out.cell (p:=⟨w1.heap.size,0,none⟩) hg5).trans h0)
      have q1:=(hcz 1).trans ((B2.out.cell (p:=⟨w1.heap.size,1,none⟩) hg5).trans h1)
      have qf:=fun o=>(hfz o).trans ((B2.out.frozen (p:=⟨w1.heap.size,o,none⟩) hg5).trans (hf o))
      refine⟨k+1,by omega,by go_num, .slice Az (acc.length+1) cz,by simp[go_sem,q0],by simp[go_sem,q1],by simp[go_sem,qf],?_,?_,by simp;omega⟩
      ·rw[HIM.out,HW3.out]
       have h9:=OZ.out
       simp only[List.length_append,List.length_singleton] at h9
       have h:=h9.keep EI.stable (w':=wz.setCell ⟨w1.heap.size,1,none⟩ (.slice Az (acc.length+1) cz)) fun b hb _=>by rw[setCell_block _ _ _ b (by show b≠w1.heap.size;omega)]
       exact h.widen (Nat.le_refl _) (by simp)
      ·exact(((HB5.out.trans (B2.out.mono (by omega))).alloc (by omega) _).grown GZ.out (by simp;omega) (fun j hj=>Nat.le_of_lt (HO5.out.lt hj).1)).setCell (Nat.le_refl _) _
     case measure=>simp[intOf];omega
    ·go_wp2_with (first
      | (go_at_call 54;refine(CPP.out _ (HSX.out.below B2.out)).mono ?_;rintro e w' ⟨rfl,rfl⟩)
      | ((at_builtin;refine push_int rfl (.tmp 27) (.tmp 31) rfl _ _ _ (OwI.alloc HOA.out _) rfl _ _ rfl (cell_new1 _ _ _) HI1.out (by first | omega | (simp<;>omega)) (by first | omega | (simp<;>omega)) ?_;intro v1 wv1 o1 g1 p1);have B1:=hDD (bel_push HBA.out (by omega) HOA.out.1 (Nat.le_refl _) g1);obtain⟨hc1,hf1⟩:=bcell B1.out;have hz1:=B1.out.size;have O1:=hDD o1;obtain⟨A1,c1,rfl,_⟩:=OwI.form o1;clear o1 g1 p1)
      | ((at_builtin;refine push_int rfl (.tmp 33) (.tmp 35) rfl _ _ _ (OwI.alloc O1.out _) rfl _ _ rfl (cell_new1 _ _ _) HI2.out (by first | omega | (simp<;>omega)) (by first | omega | (simp<;>omega)) ?_;intro v2 wv2 o2 g2 p2);have B2:=hDD (bel_push B1.out (by omega) O1.out.1 (Nat.le_refl _) g2);obtain⟨hc2,hf2⟩:=bcell B2.out;have hz2:=B2.out.size;have O2:=hDD o2;obtain⟨A2,c2,rfl,_⟩:=OwI.form o2;clear o2 g2 p2)
      | ((at_builtin;refine push_int rfl (.tmp 41) (.tmp 44) rfl _ _ _ (OwI.alloc O2.out _) rfl _ _ rfl (cell_new1 _ _ _) HLI.out (by first | omega | (simp<;>omega)) (by first | omega | (simp<;>omega)) ?_;intro v3 wv3 o3 g3 p3);have B3:=hDD (bel_push B2.out (by omega) O2.out.1 (Nat.le_refl _) g3);obtain⟨hc3,hf3⟩:=bcell B3.out;have hz3:=B3.out.size;have O3:=hDD o3;obtain⟨A3,c3,rfl,_⟩:=OwI.form o3;clear o3 g3 p3)
      | (at_builtin;refine push_ints rfl (.tmp 47) (.tmp 49) rfl (w0:=wr) HO5.out (by omega) (B3.out.alloc (by omega) _) rfl _ _ _ rfl (O3.out.alloc _) (Nat.le_refl _) (cell_new1 _ _ _) rfl (by omega) ?_;intro vz wz oz gz;obtain⟨Az,cz,rfl,_⟩:=OwnL.len oz;obtain⟨hcz,hfz⟩:=cell_grown_alloc gz (b:=w1.heap.size) (by omega) (fun h=>by have:=(HO5.out.lt h).1;omega);have hzz:=gz.size;simp at hzz;have hzz2:w1.heap.size<wz.heap.size:=(by omega);have OZ:=hDD oz;have GZ:=hDD gz;clear oz gz))
     go_roundw
     case rel=>
      have q0:=(hcz 0).trans ((B3.out.cell (p:=⟨w1.heap.size,0,none⟩) hg5).trans h0)
      have q1:=(hcz 1).trans ((B3.out.cell (p:=⟨w1.heap.size,1,none⟩) hg5).trans h1)
      have qf:=fun o=>(hfz o).trans ((B3.out.frozen (p:=⟨w1.heap.size,o,none⟩) hg5).trans (hf o))
      refine⟨k+1,by omega,by go_num, .slice Az (acc.length+1) cz,by simp[go_sem,q0],by simp[go_sem,q1],by simp[go_sem,qf],?_,?_,by simp;omega⟩
      ·rw[HIM.out,HW3.out]
       have h9:=OZ.out
       simp only[List.length_append,List.length_singleton] at h9
       have h:=h9.keep EI.stable (w':=wz.setCell ⟨w1.heap.size,1,none⟩ (.slice Az (acc.length+1) cz)) fun b hb _=>by rw[setCell_block _ _ _ b (by show b≠w1.heap.size;omega)]
       exact h.widen (Nat.le_refl _) (by simp)
      ·exact(((HB5.out.trans (B3.out.mono (by omega))).alloc (by omega) _).grown GZ.out (by simp;omega) (fun j hj=>Nat.le_of_lt (HO5.out.lt hj).1)).setCell (Nat.le_refl _) _
     case measure=>simp[intOf];omega
   ·obtain rfl:k=n:=by omega
    have hq0:wr.cell? ⟨w.heap.size+1,0,none⟩=some (.int .i64 0):=by rw[hcr _ _ hzz,hc1 _ _ (by simp)];simp[go_sem]
    have hq1:wr.cell? ⟨w.heap.size+1,1,none⟩=some (.slice none 0 0):=by rw[hcr _ _ hzz,hc1 _ _ (by simp)];simp[go_sem]
    have hqf: ∀o,wr.frozen? ⟨w.heap.size+1,o,none⟩=false:=fun o=>by rw[hfr _ _ hzz,hf1 _ _ (by simp)];simp[go_sem]
    have hbw:Below w.heap.size w wr:=by
     refine Below.trans ?_ (HB5.out.mono (by omega))
     exact(by repeat(first | exact Below.refl _ _ | (refine Below.setCell ?_ (by first | omega | (simp<;>omega)) _) | (refine bel_drewN ?_ _) | (refine Below.drew ?_) | (refine Below.alloc ?_ (by first | omega | (simp<;>omega)) _) | (refine Below.trans ?_ (Below.mono (Hid.out B1) (by first | omega | (simp<;>omega))))))
    have HBW:=hDD hbw
    have hzq:w.heap.size+1<wr.heap.size:=by omega
    clear hcr hfr hc1 hf1 hs hb5 hbw
    go_wp2
    refine bodyPost_ret (v:= .tuple #[.agg #[.int .i64 k, .slice A5 k cap5], .bool true]) (by simp[results,Tryz.results8,go_sem,hzq,hq0,hq1]) rfl ⟨_,by rw[F.out],?_,?_⟩
    ·rw[F.out]
     have h0:=HO5.out
     rw[hlen] at h0
     have h:OwII (w1.heap.size+1) wr.heap.size (.slice A5 k cap5) (whImgs (L,xs) k) ((wr.setCell ⟨w.heap.size+1,0,none⟩ (.int .i64 k)).setCell ⟨w.heap.size+1,1,none⟩ (.slice A5 k cap5)):=
      h0.keep EI.stable fun b hb _=>by rw[setCell_block _ _ _ b (by show b≠w.heap.size+1;omega),setCell_block _ _ _ b (by show b≠w.heap.size+1;omega)]
     exact h.widen (by omega) (by simp)
    ·exact(by repeat(first | exact Below.refl _ _ | (refine Below.setCell ?_ (by first | omega | (simp<;>omega)) _) | (refine bel_drewN ?_ _) | (refine Below.drew ?_) | (refine Below.alloc ?_ (by first | omega | (simp<;>omega)) _) | (refine Below.trans ?_ (Below.mono (Hid.out HBW) (by first | omega | (simp<;>omega))))))
end Go.Proofs.YtlgcflpaekbopaaGreat
namespace Go.Proofs.YtlgcflpaekbopaaGreat
set_option maxRecDepth 20000
set_option linter.unusedVariables false
set_option linter.unusedSimpArgs false
open Go.RowKit
theorem whM_I64 {r:Int} (d:WhD) (hr:I64 r):I64 (whM r d).1:=by
 unfold whM;split
 ·exact hr
 ·unfold I64;simp
end Go.Proofs.YtlgcflpaekbopaaGreat
namespace Go.Proofs.YtlgcflpaekbopaaGreat
set_option maxRecDepth 20000
set_option linter.unusedVariables false
set_option linter.unusedSimpArgs false
open Go.RowKit
set_option maxHeartbeats 1000000 in
theorem specEqualWords_any (v u:Value) (xs ys:List Int) (w:World) (h:ArgI w v xs) (h':ArgI w u ys):
  Calls Tryz.prog 96 #[v,u] w fun e w'=>e= .returned (.bool (decide (xs=ys)))∧ ∃n,w'=w.drewN n:=by
 obtain⟨A,cap,rfl,hcap,hm,hr,hb⟩:=h
 obtain⟨A',cap',rfl,hcap',hm',hr',hb'⟩:=h'
 unfold maxLen at hm hm'
 by_cases hne:xs.length=ys.length
 ·have hd:((xs.length:Int) != (ys.length:Int))=false:=by simp[hne]
  have HNE:=hDD hne
  clear hne
  go_enter Tryz.func96,Tryz.ntmps96
  go_wp2
  go_loopw [5] (fun i wr=> ∃k:Nat,k≤xs.length∧i= .int .i64 k∧xs.take k=ys.take k∧ ∃n,wr=w.drewN n) (fun i _=>xs.length-(intOf i).toNat)
  case atStart=>exact⟨0,Nat.zero_le _,rfl,by simp,0,rfl⟩
  case round=>
   obtain⟨k,hk,rfl,heq,n,rfl⟩:=hrel
   have HEQ:=hDD heq
   clear heq
   by_cases hlt:k<xs.length
   ·obtain⟨b,off,rfl,hc⟩:=hb (by omega)
    have hlt':k<ys.length:=by have:=HNE.out;omega
    obtain⟨b',off',rfl,hc'⟩:=hb' (by omega)
    have hcell:=hc k hlt
    have hcell':=hc' k hlt'
    clear hc hc' hb hb'
    by_cases hx:xs[k]=ys[k]
    ·have hx1:(xs[k] != ys[k])=false:=by simp[hx]
     have HX:=hDD hx
     clear hx
     go_wp2
     go_quiet (fail)
     go_wp2
     go_roundw
     case rel=>exact⟨k+1,by omega,by go_num,take_eq_succ HEQ.out hlt hlt' HX.out,_,rfl⟩
     case measure=>simp[intOf];omega
    ·have hx1:(xs[k] != ys[k])=true:=by simp[hx]
     go_wp2
     go_quiet (fail)
     go_wp2
     go_ret
     exact⟨ret_bool (by symm;rw[decide_eq_false_iff_not];rintro rfl;exact hx rfl),_,World.drewN_drewN _ _ _⟩
   ·obtain rfl:k=xs.length:=by omega
    go_wp2
    go_ret
    refine⟨ret_bool ?_,n,rfl⟩
    have h1:=HEQ.out
    rw[List.take_length,HNE.out,List.take_length] at h1
    simp[h1]
 ·have hd:((xs.length:Int) != (ys.length:Int))=true:=by simp;omega
  go_enter Tryz.func96,Tryz.ntmps96
  go_wp2
  go_ret
  exact⟨ret_bool (by symm;rw[decide_eq_false_iff_not];rintro rfl;exact hne rfl),0,rfl⟩
def okL (es:List Int):Bool:=es.all (fun e=>decide (lt e≠ []))
theorem okL_bad {es:List Int} (i:Nat) (hi:i<es.length) (h:lt es[i]= []):okL es=false:=by
 unfold okL
 simp
 exact⟨es[i],by simp,h⟩
theorem okL_ok {es:List Int} (h: ∀j (hj:j<es.length),lt es[j]≠ []):okL es=true:=by
 unfold okL
 simp
 intro x hx
 obtain⟨j,hj,rfl⟩:=List.getElem_of_mem hx
 exact h j hj
theorem lt_len (e:Int):(lt e).length≤1:=by
 rcases lt_cases e with ⟨_,h⟩ | ⟨_,h⟩ | ⟨_,h⟩ | ⟨_,h⟩ | ⟨_,h⟩ | ⟨_,h⟩ | ⟨_,h⟩<;>rw[h]<;>simp
theorem lt_one (e:Int) (h:lt e≠ []): ∃c,lt e= [c]:=by
 have h1:=lt_len e
 match hc:lt e with
 | []=>exact absurd hc h
 | [c]=>exact⟨c,rfl⟩
 | a::b::l=>rw[hc] at h1;simp at h1
theorem flatL_succ (es:List Int) (k:Nat) (h:k<es.length):(es.take (k+1)).flatMap lt=(es.take k).flatMap lt++lt es[k]:=by
 rw[List.take_succ_eq_append_getElem h,List.flatMap_append]
 simp
theorem flatL_len (es:List Int):(es.flatMap lt).length≤es.length:=by
 induction es with
 | nil=>simp
 | cons e es ih=>have:=lt_len e;simp only[List.flatMap_cons,List.length_append,List.length_cons];omega
def fmtW (es:List Int):List UInt8:=if okL es then(if es= [] then [49] else es.flatMap lt) else []
end Go.Proofs.YtlgcflpaekbopaaGreat
