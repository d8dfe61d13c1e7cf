/- Parts of the proof: LawE, Frame, FrameB. -/
import Derived.Test.YtlgcflpaekbopaaGreatW01
import Derived.Test.YtlgcflpaekbopaaGreatW02
import Derived.ProofKit
import Derived.OpenShut
import Derived.ShutString
import Derived.ChangeOld
namespace Go.Proofs.YtlgcflpaekbopaaGreat
set_option maxRecDepth 20000
set_option linter.unusedVariables false
set_option linter.unusedSimpArgs false
open Go.RowKit
theorem lt_cell0 {w:World} {b o:Nat} {v:Value} (h:w.cell? ⟨b,o,none⟩=some v):b<w.heap.size:=by
 rcases Nat.lt_or_ge b w.heap.size with h' | h'
 ·exact h'
 ·simp[World.cell?,Array.getElem?_eq_none h'] at h
theorem ArgC.below {w w':World} {v:Value} {cs:List Int} (h:ArgC w v cs) (hb:Below w.heap.size w w'):ArgC w' v cs:=by
 obtain⟨A,cap,hv,h1,h2,h3,h4⟩:=h
 refine⟨A,cap,hv,h1,h2,h3,fun h0=> ?_⟩
 obtain⟨b,off,hA,hc⟩:=h4 h0
 exact⟨b,off,hA,fun i hi=>(World.cell?_of_block (w:=w) (hb.block b (lt_cell0 (hc 0 h0)))).trans (hc i hi)⟩
set_option maxHeartbeats 400000 in
theorem sameInts_any (v u:Value) (xs ys:List Int) (w:World) (h:ArgI w v xs) (h':ArgI w u ys):
  Calls Tryz.prog 23 #[v,u] w fun e w'=>e= .returned (.bool (decide (xs=ys)))∧ ∃n,w'=w.drewN n:=by
 obtain⟨A,cap,rfl,hcap,hm,hr,hb⟩:=h
 obtain⟨A',cap',rfl,hcap',hm',hr',hb'⟩:=h'
 unfold maxLen at hm hm'
 by_cases hne:xs.length=ys.length
 ·have hd:((xs.length:Int) != (ys.length:Int))=false:=by simp[hne]
  have HNE:=hDD hne
  clear hne
  go_enter Tryz.func23,Tryz.ntmps23
  go_wp2
  go_loopw [5] (fun i wr=> ∃k:Nat,k≤xs.length∧i= .int .i64 k∧xs.take k=ys.take k∧ ∃n,wr=w.drewN n) (fun i _=>xs.length-(intOf i).toNat)
  case atStart=>exact⟨0,Nat.zero_le _,rfl,by simp,0,rfl⟩
  case round=>
   obtain⟨k,hk,rfl,heq,n,rfl⟩:=hrel
   have HEQ:=hDD heq
   clear heq
   by_cases hlt:k<xs.length
   ·obtain⟨b,off,rfl,hc⟩:=hb (by omega)
    have hlt':k<ys.length:=by have:=HNE.out;omega
    obtain⟨b',off',rfl,hc'⟩:=hb' (by omega)
    have hcell:=hc k hlt
    have hcell':=hc' k hlt'
    clear hc hc' hb hb'
    by_cases hx:xs[k]=ys[k]
    ·have hx1:(xs[k] != ys[k])=false:=by simp[hx]
     have HX:=hDD hx
     clear hx
     go_wp2
     go_quiet (fail)
     go_wp2
     go_roundw
     case rel=>exact⟨k+1,by omega,by go_num,take_eq_succ HEQ.out hlt hlt' HX.out,_,rfl⟩
     case measure=>simp[intOf];omega
    ·have hx1:(xs[k] != ys[k])=true:=by simp[hx]
     go_wp2
     go_quiet (fail)
     go_wp2
     go_ret
     exact⟨ret_bool (by symm;rw[decide_eq_false_iff_not];rintro rfl;exact hx rfl),_,World.drewN_drewN _ _ _⟩
   ·obtain rfl:k=xs.length:=by omega
    go_wp2
    go_ret
    refine⟨ret_bool ?_,n,rfl⟩
    have h1:=HEQ.out
    rw[List.take_length,HNE.out,List.take_length] at h1
    simp[h1]
 ·have hd:((xs.length:Int) != (ys.length:Int))=true:=by simp;omega
  go_enter Tryz.func23,Tryz.ntmps23
  go_wp2
  go_ret
  exact⟨ret_bool (by symm;rw[decide_eq_false_iff_not];rintro rfl;exact hne rfl),0,rfl⟩
set_option maxHeartbeats 1000000 in
theorem lawAt_any (v:Value) (cs:List Int) (i:Nat) (w:World) (h:ArgC w v cs) (hl:cs.length≤1048576) (hi:i≤1000):
  Calls Tryz.prog 18 #[v, .int .i64 i] w fun e w'=> ∃x:Int,e= .returned (.int .i64 x)∧(0≤x∧x≤255)∧w=w':=by
 obtain⟨A,cap,rfl,hcap,hm,hby,hat⟩:=h
 unfold maxLen at hm
 by_cases hlt:i<cs.length
 ·obtain⟨b,off,rfl,hc⟩:=hat (by omega)
  have hcell:=hc i hlt
  have hz:=hby _ (List.getElem_mem hlt)
  generalize cs[i]=z at*
  have hcv:IntKind.i64.wrap z=z:=by rw[IntKind.wrap_i64];omega
  clear hc hby hat
  go_enter Tryz.func18,Tryz.ntmps18
  go_wp2
  exact bodyPost_ret (v:= .int .i64 z) (by simp[results,Tryz.results18,go_sem]) rfl ⟨z,rfl,hz,rfl⟩
 ·clear hby hat
  have h1:IntKind.i64.wrap ((i:Int)*37)=(i:Int)*37:=by rw[IntKind.wrap_i64];omega
  have h2:IntKind.i64.wrap ((cs.length:Int)*11)=(cs.length:Int)*11:=by rw[IntKind.wrap_i64];omega
  have h3:IntKind.i64.wrap ((i:Int)*37+(cs.length:Int)*11)=(i:Int)*37+(cs.length:Int)*11:=by rw[IntKind.wrap_i64];omega
  go_enter Tryz.func18,Tryz.ntmps18
  go_wp2
  exact bodyPost_ret (v:= .int .i64 (((i:Int)*37+(cs.length:Int)*11)%256)) (by simp[results,Tryz.results18,go_sem]) rfl ⟨_,rfl,⟨Int.emod_nonneg _ (by decide),by have:=Int.emod_lt_of_pos ((i:Int)*37+(cs.length:Int)*11) (b:=256) (by decide);omega⟩,rfl⟩
theorem sameI (v u:Value) (xs ys:List Int) (w:World) (h:RdI w v xs) (h':RdI w u ys):
  Calls Tryz.prog 23 #[v,u] w fun e w'=>e= .returned (.bool (decide (xs=ys)))∧Below w.heap.size w w':=
 (sameInts_any v u xs ys w h.arg h'.arg).mono fun _ _ ⟨he,n,hn⟩=>⟨he,by rw[hn];exact bel_drewN (Below.refl _ _) _⟩
theorem big_any (v:Value) (cs:List Int) (w:World) (h:ArgC w v cs):
  Calls Tryz.prog 5 #[v] w fun e w'=>e= .returned (.bool (decide ((1048576:Int)<cs.length)))∧w=w':=by
 obtain⟨A,cap,rfl,_⟩:=h
 go_enter Tryz.func5,Tryz.ntmps5
 go_wp2
 exact bodyPost_ret (v:= .bool (decide ((1048576:Int)<cs.length))) (by simp[results,Tryz.results5,go_sem]) rfl ⟨rfl,rfl⟩
end Go.Proofs.YtlgcflpaekbopaaGreat
namespace Go.Proofs.YtlgcflpaekbopaaGreat
set_option maxRecDepth 20000
set_option linter.unusedVariables false
set_option linter.unusedSimpArgs false
open Go.ChangeShapes Go.WideShapes Go.ChangeAt Go.RowKit
theorem laidOut:laidOutB Tryz.prog=true:=by kernel_rfl
theorem own:ownKnob Tryz.prog.godebug=none:=by kernel_rfl
end Go.Proofs.YtlgcflpaekbopaaGreat
namespace Go.Proofs.YtlgcflpaekbopaaGreat
set_option maxRecDepth 20000
set_option linter.unusedVariables false
set_option linter.unusedSimpArgs false
open Go.ChangeShapes Go.WideShapes Go.ChangeAt Go.RowKit
theorem open_argB {H:Type} {enc:TypeId×Value→H} {W:World} {base:Nat} {spare:Nat→Bool} {held:Bool} {v:Value} {d:DataW H} {p:List MemPlace}
  (hv:Value.okWide Tryz.prog W .any base 22 v) (h:DataW.Trod enc Tryz.prog W 0 spare held 22 v d p): ∃xs,ArgC W v xs:=by
 obtain⟨a,len,cap,rfl⟩:=okWide_slice Tryz.underlying22 hv
 obtain⟨fuel,hf⟩:=h
 have hf:DataW.trod enc Tryz.prog W 0 spare held fuel 22 [.slice a len cap]=some (d,p):=by simpa[Value.cells] using hf
 rcases open_ints Tryz.underlying22 Tryz.underlying5 (by kernel_rfl) hf with ⟨hcs,_⟩ | ⟨x,l,c,zs,hcs,_,hl,hm,hz,_,hcell,hwz⟩
 ·simp at hcs
  obtain⟨rfl,rfl,rfl⟩:=hcs
  exact⟨[],none,0,rfl,by simp,by simp[maxLen],by simp,by simp⟩
 ·simp at hcs
  obtain⟨rfl,rfl,rfl⟩:=hcs
  have hlz:len≤zs.length:=by rw[hz];split<;>omega
  have hlen:(zs.take len).length=len:=by simp;omega
  refine⟨zs.take len,_,cap,by rw[hlen],by omega,hm,fun n hn=> ?_,fun h0=> ?_⟩
  ·have:=hwz n (List.mem_of_mem_take hn)
   simpa[Lit.wf,IntKind.min,IntKind.max,IntKind.signed,IntKind.bits] using this
  ·obtain⟨b,off,sp⟩:=x
   have hsp:sp=none:=by simpa[Addr.add] using World.cell?_spot (hcell 0 (by omega))
   subst hsp
   refine⟨b,off,rfl,fun i hi=> ?_⟩
   have:=hcell i (by omega)
   rw[Addr.add_lit] at this
   rw[this]
   simp[List.getD,show i<zs.length by omega]
end Go.Proofs.YtlgcflpaekbopaaGreat
