/- Parts of the proof: AllWh, IsWh, WhP, WhS, Mor, MorS, MorL, EqW, ExpB, Rel, RelI, CanS. -/
import Derived.Test.YtlgcflpaekbopaaGreatV02
import Derived.Test.YtlgcflpaekbopaaGreatV01
import Derived.Deep.RegionLaw
import Derived.Deep.RegionHeld3
import Derived.Outline
set_option maxRecDepth 100000
set_option maxHeartbeats 16000000
set_option linter.unusedVariables false
set_option linter.unusedSimpArgs false
namespace Go.Proofs.YtlgcflpaekbopaaGreat
open Go.RowKit
open _root_.Nat renaming le_refl→zaa,zero_le→zad,lt_of_lt_of_le→zal,mul_le_mul_right→zam,le_of_lt→zaq,lt_or_eq_of_le→zaD,le_of_lt_succ→zaF,le_trans→zaR
open Go.RowKit.Below renaming drew→zab,heap_alloc→zag,refl→zaj,trans→zaO
open _root_.List renaming length_append→zac,take_length→zae,take_succ_eq_append_getElem→zaf,length_singleton→zah,mem_singleton→zao,length_take→zap,append_nil→zar,getD→zas,flatMap_cons→zau,length_filter_le→zav,flatMap_append→zaw,length_cons→zaz,mem_append→zaA,length_map→zaB,append_assoc→zaE,getElem?_eq_some_iff→zaG,mem_flatMap→zaH,getElem_mem→zaI,getElem?_eq_getElem→zaJ,nil_append→zaM,map_append→zaN,take_of_length_le→zaP,filter_append→zaQ
open Go.World renaming cell?_of_block→zai,frozen?_of_block→zat,ownsRow_lit→zax,block_lt_of_cell?→zaK,drewN_drewN→zaS
open Go.Value renaming ownBlock→zak,slice→zan
open _root_.Bool renaming and_eq_true→zay,false_eq_true→zaC,eq_iff_iff→zaL
def EWh:El WhD:=fun w cs d F=> ∃s,cs= [.int .i64 d.1,s]∧I64 d.1∧OwI w 0 s d.2∧F=s.ownBlock.toList
theorem EWh.stable:qDL EWh:=by
 rintro w w' cs d F ⟨s,rfl,hd,ho,rfl⟩ hb;exact⟨s,rfl,hd,⟨qZ ho.1 fun b h=>hb b (by rw[h];simp),ho.2⟩,rfl⟩
theorem EWh.of {w:World} {L:Int} {s:Value} {xs:List Int} {base:Nat} (hL:I64 L) (h:OwI w base s xs):EWh w [.int .i64 L,s] (L,xs) s.ownBlock.toList:=⟨s,rfl,hL,h.mono (zad _),rfl⟩
theorem qET (o:Option Nat):o.toList.Nodup:=by cases o<;>simp
theorem qHg:(Tryz.prog.info? 26).map (fun i=>(i.zero,i.size,i.bytes))=some (some (.agg #[.int .i64 0, .slice none 0 0]),2,32):=by kernel_rfl
abbrev OWhS (lo hi:Nat) (v:Value) (ds:List WhD) (w:World):Prop:=OwnL EWh 26 2 lo hi w v ds
theorem qEd (w:World) {lo:Nat} (h:lo≤w.heap.size):OWhS lo (w.heap.size+1) (.slice (some ⟨w.heap.size,0,none⟩) 0 0) [] (w.alloc (.cells #[] 26)):=by
 refine OwnL.nil ?_ fun b hb=> ?_
 ·have:=zax (e:=26) (size:=2) (base:=0) w #[] 0 (zad _) (by unfold maxLen;omega) (by simp)
  simpa using this
 ·simp[zak] at hb;omega
def bitB (m i:Nat):Bool:=decide (m/2^i%2=1)
def qBZ (os:List Int) (m:Nat):Nat→List Int
 | 0=> []
 | k+1=>qBZ os m k++(if bitB m k then [os.getD k 0] else [])
def qBU (l:Int) (os:List Int) (M:Nat):List WhD:=(List.range M).map fun m=>(l,qBZ os m os.length)
def othL (ls:List Int) (l:Int):List Int:=ls.filter fun x=>x != l&&x != -l
def allK (ls:List Int) (k:Nat):List WhD:=(ls.take k).flatMap fun l=>qBU l (othL ls l) (2^(othL ls l).length)
def qh (r:Int):List WhD:=if inB r 1 3 then allK (qD r.toNat) (2*r.toNat) else []
theorem qEZ (os:List Int) (m k:Nat):(qBZ os m k).length≤k:=by
 induction k with
 | zero=>simp[qBZ]
 | succ k ih=>simp only[qBZ,zac];split<;>simp<;>omega
theorem qGb (l:Int) (os:List Int) (m:Nat):qBU l os (m+1)=qBU l os m++ [(l,qBZ os m os.length)]:=by simp[qBU,List.range_succ]
theorem qEv (l:Int) (os:List Int) (m:Nat):(qBU l os m).length=m:=by simp[qBU]
theorem qPp (n:Nat) (h1:1≤n) (h3:n≤3): ∀l∈qD n,(othL (qD n) l).length≤4:=by
 have:n=1∨n=2∨n=3:=tO
 rcases this with rfl | rfl | rfl<;>decide
theorem qPV {x l:Int} (h1: -3≤x) (h2:x≤3) (h3: -3≤l) (h4:l≤3):(qBa x != qBa l)=(x != l&&x != -l):=by
 have hx:qBa x=if x<0 then-x else x:=by unfold qBa;split<;>first | rfl | rw[IntWalk.wrap64_in _ ⟨tO,tO⟩]
 have hl:qBa l=if l<0 then-l else l:=by unfold qBa;split<;>first | rfl | rw[IntWalk.wrap64_in _ ⟨tO,tO⟩]
 rw[hx,hl,zaL];simp only[bne_iff_ne,zay,ne_eq];split<;>split<;>omega
theorem qGT (n:Nat) (h1:1≤n) (h3:n≤3): ∀l∈qD n,(othL (qD n) l).length≤4∧((qD n).filter fun x=>qBa x != qBa l)=othL (qD n) l:=by
 intro l hl;refine⟨qPp n h1 h3 l hl,?_⟩;unfold othL;refine List.filter_congr fun x hx=> ?_;have:=qAm hx
 have:=qAm hl
 exact qPV tO tO tO tO
theorem qGI (ls:List Int) (k:Nat) (h:k<ls.length):allK ls (k+1)=allK ls k++qBU ls[k] (othL ls ls[k]) (2^(othL ls ls[k]).length):=by
 unfold allK;rw[zaf h,zaw];simp only[zau,List.flatMap_nil,zar]
theorem qFv {n:Nat} (h:n≤4):2^n≤16:=by
 have:=Nat.pow_le_pow_right (show 0<2 by omega) h
 simpa using this
theorem qKZ (n:Nat) (h1:1≤n) (h3:n≤3) (k:Nat) (hk:k≤(qD n).length):(allK (qD n) k).length≤16*k:=by
 induction k with
 | zero=>simp[allK]
 | succ k ih=>
   rw[qGI _ _ tO,zac,qEv];have h2:=(qGT n h1 h3 (qD n)[k] (by simp)).1;have:=qFv h2
   have:=ih tO
   omega
theorem qJM (ls:List Int) (x:Int) (m:Nat) (h:m<ls.length):othL (ls.take (m+1)) x=othL (ls.take m) x++(if ls[m] != x&&ls[m] != -x then [ls[m]] else []):=by
 unfold othL;rw[zaf h,zaQ];congr 1
 simp only[List.filter_cons,List.filter_nil]
theorem OwnL.row {α:Type} {E:El α} {t:TypeId} {width lo hi:Nat} {w:World} {v:Value} {ds:List α} (h:OwnL E t width lo hi w v ds): ∃cs,w.ownsRow 0 t width v ds.length cs:=by
 obtain⟨F,⟨es,h1,h2,h3,rfl⟩,cF,hF⟩:=h;have hl:es.length=ds.length:=by rw[←h1];simp
 exact⟨_,hl▸h3⟩
theorem qj {w w':World} {o:Obj} {row:Option Nat} (hg:(w.alloc o).grownBy w' row) {b:Nat} (hb:b<w.heap.size) (ai:row≠some b):(∀o,w'.cell? ⟨b,o,none⟩=w.cell? ⟨b,o,none⟩)∧(∀o,w'.frozen? ⟨b,o,none⟩=w.frozen? ⟨b,o,none⟩):=
 have h:w'.heap[b]? =w.heap[b]? :=(hg.block b (by simp;omega) ai.symm).trans (zag w o b hb);⟨fun _=>zai h,fun _=>zat h⟩
theorem qDF {w w':World} {o:Obj} {row:Option Nat} (hg:(w.alloc o).drew.grownBy w' row) {b:Nat} (hb:b<w.heap.size) (ai:row≠some b):(∀o,w'.cell? ⟨b,o,none⟩=w.cell? ⟨b,o,none⟩)∧(∀o,w'.frozen? ⟨b,o,none⟩=w.frozen? ⟨b,o,none⟩):=
 have h:w'.heap[b]? =w.heap[b]? :=(hg.block b (zal hb ((zaj w.heap.size w).alloc (zaa _) o).size) ai.symm).trans (zag w o b hb);⟨fun _=>zai h,fun _=>zat h⟩
theorem qHR (os:List Int) (m k:Nat) (h:k<os.length):qBZ os m (k+1)=qBZ os m k++(if bitB m k then [os[k]] else []):=by
 simp[qBZ,zas,h]
theorem qPJ {c i:Nat} (hc:c<16) (hi:i<4):bits BinOp.and IntKind.i64 ((c:Int)/2^i) 1=if bitB c i then 1 else 0:=by
 have: ∀c<16,∀i<4,bits BinOp.and IntKind.i64 (((c:Nat):Int)/2^i) 1=if bitB c i then 1 else 0:=by decide
 exact this c hc i hi
theorem qHV {L:Nat} (h:L≤4):IntKind.i64.wrap ((2:Int)^L)=((2^L:Nat):Int):=by
 have h3:(2:Int)^L=((2^L:Nat):Int):=by simp
 have:=qFv h
 rw[qJz,h3];generalize 2^L=M at this⊢;exact IntWalk.wrap64_in _ ⟨tO,tO⟩
theorem qBh (r:Int) (w:World):
  Calls Tryz.prog 32 #[.int .i64 r] w fun e w'=> ∃v,e= .returned v∧OWhS w.heap.size w'.heap.size v (qh r) w'∧Below w.heap.size w w':=by
 rcases e1:inB r 1 3 with _ | _
 ·have F:Hid (qh r= []):=qA (by unfold qh;rw[e1];rfl);go_enter Tryz.func32,Tryz.ntmps32
  go_wp2_with (go_at_call 56;refine(qX _ _ _ _).mono ?_;rintro e w' ⟨rfl,rfl⟩)
  go_ret;exact⟨_,rfl,by rw[F.out];exact(qEd w (zaa _)).widen (zaa _) (by simp),(zaj _ _).alloc (zaa _) _⟩
 ·have gQ:=(qP.1 e1).1;have cS:=(qP.1 e1).2;obtain⟨n,rfl⟩: ∃n:Nat,r=n:=⟨r.toNat,tO⟩;have F:Hid (qh n=allK (qD n) (qD n).length):=qA (by unfold qh;rw[e1,qo];simp);have fH:1≤n:=tO;have pC:n≤3:=tO;have nI:=qA (qGT n fH pC);have fl:=qA (qKZ n fH pC);have nk:(qD n).length≤6:=by rw[qo];omega
  have eM:Hid (∀x∈qD n,-3≤x∧x≤3):=qA (fun x hx=>by have:=qAm hx;omega);have cd: ∀W:World,Calls Tryz.prog 81 #[.int .i64 n] W fun e w'=> ∃r,e= .returned r∧OwI w' W.heap.size r (qD n)∧Below W.heap.size W w':=fun W=>qEA n W tO;generalize qD n=ls at F nI fl nk eM cd;have eu:=qA cd;clear cd;obtain⟨i0,a7,aS,ao,aP⟩:=info_parts qHg;go_enter Tryz.func32,Tryz.ntmps32
  go_wp2_with (first
   | (go_at_call 56;refine(qX _ _ _ _).mono ?_;rintro e w' ⟨rfl,rfl⟩)
   | (go_at_call 81;refine(eu.out _).mono ?_;rintro e w1 ⟨lv,rfl,ol,bl⟩;have OL:=qA ol;have BL:=qA bl;obtain⟨A,cap,rfl,aj,hm,_⟩:=OwI.form ol;clear ol bl))
  go_loopw [3,21] (fun out i wr=> ∃k:Nat,k≤ls.length∧i= .int .i64 k∧OWhS w.heap.size wr.heap.size out (allK ls k) wr∧RdI wr (.slice A ls.length cap) ls∧Below w.heap.size w wr)
   (fun _ i _=>ls.length-(intOf i).toNat)
  case atStart=>
   refine⟨0,zad _,rfl,((qEd w (zaa _)).keep EWh.stable (fun b _ hb=>BL.out.block b (by simpa using hb))).widen (zaa _) (by have:=BL.out.size;simp at this;omega),OL.out.rd,((zaj _ _).alloc (zaa _) _).trans (BL.out.mono (by simp))⟩
  case round=>
   obtain⟨k,hk,rfl,ab,pM,aa⟩:=hrel;have ak:=aa.size;by_cases ac:k<ls.length
   ·have du:=fl.out k hk;obtain⟨b,off,rfl,aM,hc⟩:=pM.at tO;have ae:=hc k ac;have fD:=(nI.out ls[k] (by simp)).1;have HS:=qA (qGI ls k ac);have aQ:=(eM.out ls[k] (by simp)).1;have bU:=(eM.out ls[k] (by simp)).2;have HR:=qA pM;have HO:=qA ab;have HB:=qA aa;clear hc pM ab aa;generalize ls[k]=x at ae fD HS aQ bU;generalize allK ls k=acc at HO HS du;obtain⟨wo,rfl⟩: ∃wo:World,wo=wr:=⟨_,rfl⟩;go_wp2_with (go_at_call 81;refine(eu.out _).mono ?_;rintro e w2 ⟨EY,rfl,ol,bl⟩;have zr:=qA ol;have Dq:=qA bl;obtain⟨A2,am,rfl,ky,dQ,_,dq⟩:=OwI.form ol;obtain⟨g2,rfl,dC,xu⟩:=dq tO;clear ol bl)
    go_loopw [6,29] (fun oth j wi=> ∃m:Nat,m≤ls.length∧j= .int .i64 m∧OwI wi wo.heap.size oth (othL (ls.take m) x)∧RdI wi (.slice (some ⟨g2,0,none⟩) ls.length am) ls∧oth.ownBlock≠some g2∧Below wo.heap.size wo wi∧g2<wi.heap.size)
     (fun _ j _=>ls.length-(intOf j).toNat)
    case atStart=>
     exact⟨0,zad _,rfl,(qW wo [] qS (by simp) (zaa _)).below Dq.out,zr.out.rd,by simp[zak];simp at dC;omega,((zaj _ _).alloc (zaa _) _).trans (Dq.out.mono (by simp)),xu⟩
    case round=>
     obtain⟨m,ch,rfl,ho,hr,ai,hb,hg⟩:=hrel;have ir:=hb.size;have pr:(othL (ls.take m) x).length≤m:=by unfold othL;have:=zav (fun z=>z != x&&z != -x) (ls.take m);rw[zap] at this;omega
     by_cases an:m<ls.length
     ·obtain⟨b',off',eT,sO,cH⟩:=hr.at tO;obtain⟨rfl,rfl⟩:g2=b'∧0=off':=by simpa using eT
      have aB:=cH m an;rw[Nat.zero_add] at aB;have gK:=qA (qJM ls x m an);have jO:=(eM.out ls[m] (by simp)).1;have vQ:=(eM.out ls[m] (by simp)).2;have pR:=qA hr;have gh:=qA ho;have ns:=qA hb;have wC:=qA ai;clear cH hr hb eT ai;generalize ls[m]=y at aB gK jO vQ;generalize othL (ls.take m) x=acc' at ho gh gK pr;obtain⟨A3,aU,rfl,gx,nu,_,_⟩:=ho.form;clear ho;have HY:Hid (I64 y):=qA ⟨tO,tO⟩;rcases e2:(y != x) with _ | _
      ·have FF:Hid ((y != x&&y != -x)=false):=qA (by rw[e2];rfl);go_wp2;go_roundw
       case rel=>exact⟨m+1,tO,by go_num,by rw[gK.out,FF.out];simpa using gh.out,pR.out,wC.out,ns.out,hg⟩
       case measure=>simp[intOf];omega
      ·rcases e3:(y != -x) with _ | _
       ·have FF:Hid ((y != x&&y != -x)=false):=qA (by rw[e2,e3];rfl);go_wp2;go_roundw
        case rel=>exact⟨m+1,tO,by go_num,by rw[gK.out,FF.out];simpa using gh.out,pR.out,wC.out,ns.out,hg⟩
        case measure=>simp[intOf];omega
       ·have FF:Hid ((y != x&&y != -x)=true):=qA (by rw[e2,e3];rfl);go_wp2_with (at_builtin;refine qN rfl (.tmp 42) (.tmp 44) rfl _ _ _ (OwI.alloc gh.out _) rfl _ _ rfl (qG _ _ _) HY.out (by first | omega | (simp<;>omega)) (by first | omega | (simp<;>omega)) ?_;intro v1 eq o1 g1 p1)
        go_roundw
        case rel=>
         refine⟨m+1,tO,by go_num,by rw[gK.out,FF.out];exact o1,(pR.out.alloc _).grown g1 (fun b h1 h2=>wC.out (by simp[zak] at h1;subst h1;exact h2)),?_,qQ ns.out ir gh.out.1 (zaa _) g1,by have:=g1.size;simp at this;omega⟩;rcases p1 with p1 | p1
         ·rw[p1];exact wC.out
         ·rw[p1];simp;omega
        case measure=>simp[intOf];omega
     ·obtain rfl:m=ls.length:=tO
      rw[zae] at ho;have vF:Hid (RdI wr (.slice (some ⟨b,off,none⟩) ls.length cap) ls):=qA (HR.out.below hb);have lw:Hid (OWhS w.heap.size wr.heap.size _ acc wr):=qA ((HO.out.keep EWh.stable fun b _ ac=>hb.block b ac).widen (zaa _) ir);have ax:Hid (Below w.heap.size w wr):=qA (HB.out.trans (hb.mono ak));have r7:=ax.out.size;have aw:=qA ho.rd;have ia:=qA ho.2;generalize IP:othL ls x=os at HS fD aw ia ho;obtain⟨A3,aU,rfl,gx,nu,_⟩:=ho.form;clear ho hr ai hb HR HO HB;have cC:=qHV fD;have hM:=qFv fD;generalize 2^os.length=M at HS hM cC;go_wp2_with fail;go_loopw [3,9] (fun out q w3=> ∃c:Nat,c≤M∧q= .int .i64 c∧OWhS w.heap.size w3.heap.size out (acc++qBU x os c) w3∧RdI w3 (.slice (some ⟨b,off,none⟩) ls.length cap) ls∧RdI w3 (.slice A3 os.length aU) os∧Below w.heap.size w w3)
       (fun _ q _=>M-(intOf q).toNat)
      case atStart=>exact⟨0,zad _,rfl,by simpa[qBU] using lw.out,vF.out,aw.out,ax.out⟩
      case round=>
       obtain⟨c,hc,rfl,ho,hr,lJ,hb⟩:=hrel;have ki:=hb.size;by_cases gV:c<M
       ·have pH:(acc++qBU x os c).length≤16*k+c:=by rw[zac,qEv];omega
        generalize kN:acc++qBU x os c=acc3 at ho pH;have sT:Hid (acc++qBU x os (c+1)=acc3++ [(x,qBZ os c os.length)]):=qA (by rw[qGb,←zaE,kN]);have oV:=qA ho;have jk:=qA hr;have fm:=qA lJ;have eO:=qA hb;obtain⟨GY,gp⟩:=ho.row;have yT:=qA gp;obtain⟨A4,jm,rfl,_⟩:=ho.len;clear ho hr lJ hb kN gp;obtain⟨wm,rfl⟩: ∃wm:World,wm=wr:=⟨_,rfl⟩;go_wp2_with fail;go_loopw [58] (fun j w4=> ∃i:Nat,i≤os.length∧j= .int .i64 i∧ ∃s:Value,w4.cell? ⟨wm.heap.size,0,none⟩=some (.int .i64 x)∧w4.cell? ⟨wm.heap.size,1,none⟩=some s∧(∀o,w4.frozen? ⟨wm.heap.size,o,none⟩=false)∧OwI w4 (wm.heap.size+1) s (qBZ os c i)∧Below wm.heap.size wm w4∧wm.heap.size<w4.heap.size)
         (fun j _=>os.length-(intOf j).toNat)
        case atStart=> 
         refine⟨0,zad _,rfl, .slice none 0 0,by simp[go_sem],by simp[go_sem],by simp[go_sem],⟨⟨rfl, .inl ⟨rfl,rfl⟩⟩,qS⟩,(by repeat(first | exact .refl _ _ | (refine BxS ?_ _) | (refine qB ?_ _) | (refine zab ?_) | (refine BxA ?_ _))),by simp⟩
        case round=>
         obtain⟨i,hi,rfl,s,h0,h1,hf,hs,bC,bn⟩:=hrel;have lH:=qEZ os c i;by_cases i9:i<os.length
         ·obtain⟨b3,fv,rfl,mF,jx⟩:=(fm.out.below bC).at tO;have ie:=jx i i9;have fS:=qA (qHR os c i i9);have HI:=qA (ia.out os[i] (by simp));have aI:=qA bC;generalize qBZ os c i=sacc at hs fS lH;have aR:=qA hs;obtain⟨A5,ay,rfl,k8,zH,_,_⟩:=hs.form;generalize os[i]=o at ie fS HI;clear jx bC hs;have AX:i<4:=tO;have nU:c<16:=tO;have ko:=qPJ nU AX;rcases e4:bitB c i with _ | _
          ·rw[e4] at fS ko;go_wp2;go_roundw
           case rel=>exact⟨i+1,tO,by go_num,_,h0,h1,hf,by rw[fS.out];simpa using aR.out,aI.out,bn⟩
           case measure=>simp[intOf];omega
          ·rw[e4] at fS ko;go_wp2_with ((at_builtin;refine qN rfl (.tmp 69) (.tmp 71) rfl _ _ _ (OwI.alloc aR.out _) rfl _ _ rfl (qG _ _ _) HI.out (by first | omega | (simp<;>omega)) (by first | omega | (simp<;>omega)) ?_;intro v1 eq o1 g1 p1);have aY:(zan A5 sacc.length ay).ownBlock≠some wm.heap.size:=(fun h=>by have:=(aR.out.1.lt _ h).1;omega);obtain⟨kQ,xB⟩:=qj g1 bn aY;have ao:=g1.size;simp at ao;obtain⟨A6,cT,rfl,_⟩:=OwI.form o1;have O1:=qA o1;have bR:=qA (qQ aI.out aI.out.size aR.out.1 (Nat.le_succ _) g1);clear o1 g1 p1)
           go_roundw
           case rel=>exact⟨i+1,tO,by go_num, .slice A6 (sacc.length+1) cT,by simp[go_sem,kQ,h0],by simp[go_sem,kQ,h1],by simp[go_sem,xB,hf],by rw[fS.out];have h:=O1.out.far (p:=⟨wm.heap.size,1,none⟩) (by simp) (.slice A6 (sacc.length+1) cT);simpa using h,(by repeat(first | exact .refl _ _ | (refine BxS ?_ _) | (refine qB ?_ _) | (refine zab ?_) | (refine BxA ?_ _) | (refine BxT ?_ (Hid.out bR)))),by simp;omega⟩
           case measure=>simp[intOf];omega
         ·obtain rfl:i=os.length:=tO
          have fS:=qA hs;have aI:=qA bC;have lH:=qEZ os c os.length;obtain⟨A5,ay,rfl,k8,zH,_,_⟩:=hs.form;have fR:=fun b h=>hs.1.lt b h;have zh:=qA fR;clear hs bC fR;go_wp2_with (at_builtin;refine qEr EWh.stable rfl (.tmp 75) (.tmp 77) rfl Tryz.underlying47 a7 aS ao aP rfl (by decide) (by decide) oV.out ki (aI.out.alloc aI.out.size _) rfl _ [.int .i64 x,_] (x,qBZ os c os.length) _ rfl (EWh.of ⟨tO,tO⟩ (fS.out.alloc _)) rfl (qET _) ?_ ?_ ?_ tO ?_;(intro b hb;have:=zh.out b (by simpa using hb);simp;omega);(intro j u hj;match j,hj with | 0,hj=>(simp at hj;subst hj;simp[go_sem]) | 1,hj=>(simp at hj;subst hj;simp[go_sem]));(intro u hu;simp at hu;rcases hu with rfl | rfl<;>rfl);intro v2 w2 o2 g2)
          go_roundw
          case rel=>
           have km:=aI.out.alloc aI.out.size (.cells #[.int .i64 x,zan A5 (qBZ os c os.length).length ay] 26);have uF:=qZ yT.out (w':=_) fun b hb=>km.block b (oV.out.lt hb).2;have ai:(26:TypeId)≠3:=by decide
           exact⟨c+1,tO,by go_num,by rw[sT.out];exact o2,⟨(jk.out.below km).1.grown_ty uF ai g2,jk.out.2⟩,⟨(fm.out.below km).1.grown_ty uF ai g2,fm.out.2⟩,qEx (eO.out.trans (km.mono ki)) oV.out (zaa _) (by have:=km.size;omega) g2⟩
          case measure=>simp[intOf];omega
       ·obtain rfl:c=M:=tO
        go_wp2;go_roundw
        case rel=>exact⟨k+1,tO,by go_num,by rw[HS.out];exact ho,hr,hb⟩
        case measure=>simp[intOf];omega
   ·obtain rfl:k=ls.length:=tO
    go_wp2;go_ret;exact⟨_,rfl,by rw[F.out];exact ab,aa⟩
theorem qAR (r:Int) (w:World):
  Calls Tryz.prog 33 #[.int .i64 r] w fun e w'=> ∃v,e= .returned v∧OWhS w.heap.size w'.heap.size v (qh r) w'∧Below w.heap.size w w':=by
 rcases e1:inB r 1 3 with _ | _
 ·have F:Hid (qh r= []):=qA (by unfold qh;rw[e1];rfl);go_enter Tryz.func33,Tryz.ntmps33
  go_wp2_with (go_at_call 64;refine(qI _ _ _ _).mono ?_;rintro e w' ⟨rfl,rfl⟩)
  go_ret;exact⟨_,rfl,by rw[F.out];exact(qEd w (zaa _)).widen (zaa _) (by simp),(zaj _ _).alloc (zaa _) _⟩
 ·have gQ:=(qP.1 e1).1;have cS:=(qP.1 e1).2;obtain⟨n,rfl⟩: ∃n:Nat,r=n:=⟨r.toNat,tO⟩;have F:Hid (qh n=allK (qD n) (qD n).length):=qA (by unfold qh;rw[e1,qo];simp);have fH:1≤n:=tO;have pC:n≤3:=tO;have nI:=qA (qGT n fH pC);have fl:=qA (qKZ n fH pC);have nk:(qD n).length≤6:=by rw[qo];omega
  have eM:Hid (∀x∈qD n,-3≤x∧x≤3):=qA (fun x hx=>by have:=qAm hx;omega);have cd: ∀W:World,Calls Tryz.prog 82 #[.int .i64 n] W fun e w'=> ∃r,e= .returned r∧OwI w' W.heap.size r (qD n)∧Below W.heap.size W w':=fun W=>qEt n W tO;generalize qD n=ls at F nI fl nk eM cd;have eu:=qA cd;clear cd;obtain⟨i0,a7,aS,ao,aP⟩:=info_parts qHg;go_enter Tryz.func33,Tryz.ntmps33
  go_wp2_with (first
   | (go_at_call 64;refine(qI _ _ _ _).mono ?_;rintro e w' ⟨rfl,rfl⟩)
   | (go_at_call 82;refine(eu.out _).mono ?_;rintro e w1 ⟨lv,rfl,ol,bl⟩;have OL:=qA ol;have BL:=qA bl;obtain⟨A,cap,rfl,aj,hm,_⟩:=OwI.form ol;clear ol bl))
  go_loopw [3,5] (fun out i wr=> ∃k:Nat,k≤ls.length∧i= .int .i64 k∧OWhS w.heap.size wr.heap.size out (allK ls k) wr∧RdI wr (.slice A ls.length cap) ls∧Below w.heap.size w wr)
   (fun _ i _=>ls.length-(intOf i).toNat)
  case atStart=>
   refine⟨0,zad _,rfl,((qEd w (zaa _)).keep EWh.stable (fun b _ hb=>BL.out.block b (by simpa using hb))).widen (zaa _) (by have:=BL.out.size;simp at this;omega),OL.out.rd,((zaj _ _).alloc (zaa _) _).trans (BL.out.mono (by simp))⟩
  case round=>
   obtain⟨k,hk,rfl,ab,pM,aa⟩:=hrel;have ak:=aa.size;by_cases ac:k<ls.length
   ·have du:=fl.out k hk;obtain⟨b,off,rfl,aM,hc⟩:=pM.at tO;have ae:=hc k ac;have fD:=(nI.out ls[k] (by simp)).1;have HS:=qA (qGI ls k ac);have aQ:=(eM.out ls[k] (by simp)).1;have bU:=(eM.out ls[k] (by simp)).2;have HR:=qA pM;have HO:=qA ab;have HB:=qA aa;clear hc pM ab aa;generalize Bh:ls[k]=x at ae fD HS aQ bU;have GQ:=qA Bh;clear Bh;generalize allK ls k=acc at HO HS du;obtain⟨wo,rfl⟩: ∃wo:World,wo=wr:=⟨_,rfl⟩;go_wp2_with fail;go_loopw [6,7] (fun oth j wi=> ∃m:Nat,m≤ls.length∧j= .int .i64 m∧OwI wi wo.heap.size oth (othL (ls.take m) x)∧Below wo.heap.size wo wi)
     (fun _ j _=>ls.length-(intOf j).toNat)
    case atStart=>
     exact⟨0,zad _,rfl,qW wo [] qS (by simp) (zaa _),(zaj _ _).alloc (zaa _) _⟩
    case round=>
     obtain⟨m,ch,rfl,ho,hb⟩:=hrel;have ir:=hb.size;have pr:(othL (ls.take m) x).length≤m:=by unfold othL;have:=zav (fun z=>z != x&&z != -x) (ls.take m);rw[zap] at this;omega
     by_cases an:m<ls.length
     ·have yg:=(hb.cell aM).trans ae;obtain⟨b',off',eT,sO,cH⟩:=(HR.out.below hb).at tO;obtain⟨rfl,rfl⟩:b=b'∧off=off':=by simpa using eT
      have aB:=cH m an;have gK:=qA (qJM ls x m an);have jO:=(eM.out ls[m] (by simp)).1;have vQ:=(eM.out ls[m] (by simp)).2;have gh:=qA ho;have ns:=qA hb;clear cH hb eT;generalize ls[m]=y at aB gK jO vQ;generalize othL (ls.take m) x=acc' at ho gh gK pr;obtain⟨A3,aU,rfl,gx,nu,_,_⟩:=ho.form;clear ho;have HY:Hid (I64 y):=qA ⟨tO,tO⟩;have CY:=qA (qPV jO vQ aQ bU);rcases e2:(qBa y != qBa x) with _ | _
      ·have FF:Hid ((y != x&&y != -x)=false):=qA (by rw[←CY.out,e2]);go_wp2;go_quiet ((go_at_call 83;first | exact qJ (qa _ _) | exact qF (qa _ _)))
       go_wp2;go_roundw
       case rel=>exact⟨m+1,tO,by go_num,by rw[gK.out,FF.out];simp only[zaC,if_false,zar];exact gh.out.drewN _,qB ns.out _⟩
       case measure=>simp[intOf];omega
      ·have FF:Hid ((y != x&&y != -x)=true):=qA (by rw[←CY.out,e2]);go_wp2;go_quiet ((go_at_call 83;first | exact qJ (qa _ _) | exact qF (qa _ _)))
       have aN:(wr.drewN nq).cell? ⟨b,off+m,none⟩=some (.int .i64 y):=aB;have aw:=qA (gh.out.drewN nq);have au:=qA (qB ns.out nq);have dM:=au.out.size;generalize wr.drewN nq=w9 at aN aw au dM⊢;go_wp2_with (at_builtin;refine qN rfl (.tmp 42) (.tmp 47) rfl _ _ _ (OwI.alloc aw.out _) rfl _ _ rfl (qG _ _ _) HY.out (by first | omega | (simp<;>omega)) (by first | omega | (simp<;>omega)) ?_;intro v1 eq o1 g1 p1)
       go_roundw
       case rel=>exact⟨m+1,tO,by go_num,by rw[gK.out,FF.out];exact o1,qQ au.out dM aw.out.1 (zaa _) g1⟩
       case measure=>simp[intOf];omega
     ·obtain rfl:m=ls.length:=tO
      rw[zae] at ho;have vF:Hid (RdI wr (.slice (some ⟨b,off,none⟩) ls.length cap) ls):=qA (HR.out.below hb);have lw:Hid (OWhS w.heap.size wr.heap.size _ acc wr):=qA ((HO.out.keep EWh.stable fun b _ ac=>hb.block b ac).widen (zaa _) ir);have ax:Hid (Below w.heap.size w wr):=qA (HB.out.trans (hb.mono ak));have r7:=ax.out.size;have aw:=qA ho.rd;have ia:=qA ho.2;generalize IP:othL ls x=os at HS fD aw ia ho;obtain⟨A3,aU,rfl,gx,nu,_⟩:=ho.form;clear ho hb HR HO HB;have cC:=qHV fD;have hM:=qFv fD;generalize 2^os.length=M at HS hM cC;go_wp2_with fail;go_loopw [3,8] (fun out q w3=> ∃c:Nat,c≤M∧q= .int .i64 c∧OWhS w.heap.size w3.heap.size out (acc++qBU x os c) w3∧RdI w3 (.slice (some ⟨b,off,none⟩) ls.length cap) ls∧RdI w3 (.slice A3 os.length aU) os∧Below w.heap.size w w3)
       (fun _ q _=>M-(intOf q).toNat)
      case atStart=>exact⟨0,zad _,rfl,by simpa[qBU] using lw.out,vF.out,aw.out,ax.out⟩
      case round=>
       obtain⟨c,hc,rfl,ho,hr,lJ,hb⟩:=hrel;have ki:=hb.size;by_cases gV:c<M
       ·have pH:(acc++qBU x os c).length≤16*k+c:=by rw[zac,qEv];omega
        generalize kN:acc++qBU x os c=acc3 at ho pH;have sT:Hid (acc++qBU x os (c+1)=acc3++ [(x,qBZ os c os.length)]):=qA (by rw[qGb,←zaE,kN]);have oV:=qA ho;have jk:=qA hr;have fm:=qA lJ;have eO:=qA hb;obtain⟨GY,gp⟩:=ho.row;have yT:=qA gp;obtain⟨A4,jm,rfl,_⟩:=ho.len;obtain⟨b9,xS,BJ,Em,Bz⟩:=hr.at tO;obtain⟨rfl,rfl⟩:b=b9∧off=xS:=by simpa using BJ
        have ii:=Bz k ac;rw[GQ.out] at ii;clear ho hr lJ hb kN gp Bz BJ;obtain⟨wm,rfl⟩: ∃wm:World,wm=wr:=⟨_,rfl⟩;go_wp2_with fail;go_loopw [10] (fun j w4=> ∃i:Nat,i≤os.length∧j= .int .i64 i∧ ∃s:Value,w4.cell? ⟨wm.heap.size,0,none⟩=some (.int .i64 x)∧w4.cell? ⟨wm.heap.size,1,none⟩=some s∧(∀o,w4.frozen? ⟨wm.heap.size,o,none⟩=false)∧OwI w4 (wm.heap.size+1) s (qBZ os c i)∧Below wm.heap.size wm w4∧wm.heap.size<w4.heap.size)
         (fun j _=>os.length-(intOf j).toNat)
        case atStart=> 
         refine⟨0,zad _,rfl, .slice none 0 0,by simp[go_sem],by simp[go_sem],by simp[go_sem],⟨⟨rfl, .inl ⟨rfl,rfl⟩⟩,qS⟩,(by repeat(first | exact .refl _ _ | (refine BxS ?_ _) | (refine qB ?_ _) | (refine zab ?_) | (refine BxA ?_ _))),by simp⟩
        case round=>
         obtain⟨i,hi,rfl,s,h0,h1,hf,hs,bC,bn⟩:=hrel;have lH:=qEZ os c i;by_cases i9:i<os.length
         ·obtain⟨b3,fv,rfl,mF,jx⟩:=fm.out.at tO;have ie:=(bC.cell mF).trans (jx i i9);have fS:=qA (qHR os c i i9);have HI:=qA (ia.out os[i] (by simp));have aI:=qA bC;generalize qBZ os c i=sacc at hs fS lH;have aR:=qA hs;obtain⟨A5,ay,rfl,k8,zH,_,_⟩:=hs.form;generalize os[i]=o at ie fS HI;clear jx bC hs;have AX:i<4:=tO;have nU:c<16:=tO;have ko:=qPJ nU AX;rcases e4:bitB c i with _ | _
          ·rw[e4] at fS ko;go_wp2;go_roundw
           case rel=>exact⟨i+1,tO,by go_num,_,h0,h1,hf,by rw[fS.out];simpa using aR.out,aI.out,bn⟩
           case measure=>simp[intOf];omega
          ·rw[e4] at fS ko;have Eg: ∀ob o',(wr.drew.alloc ob).cell? ⟨wm.heap.size,o',none⟩=wr.cell? ⟨wm.heap.size,o',none⟩:=fun ob o'=>zai (zag wr.drew ob _ bn);have Dw: ∀ob o',(wr.drew.alloc ob).cell? ⟨b3,o',none⟩=wr.cell? ⟨b3,o',none⟩:=fun ob o'=>zai (zag wr.drew ob _ (zal mF aI.out.size));have Jk:=qA Eg;have Jn:=qA Dw;clear Eg Dw;go_wp2_with fail;go_region_law
            (first | (refine qAN rfl (.tmp 73) (.tmp 78) rfl (wm.heap.size+1) (.slice A5 sacc.length ay) sacc (by repeat(first | exact(Hid.out aR) | exact(Hid.out aR).drewN _ | (refine OwI.far ?_ (by first | omega | (simp<;>omega)) _) | (refine OwI.alloc ?_ _) | (refine OwI.drew ?_) | (refine OwI.drewN ?_ _))) (by rfl) (.slice (some ⟨wr.heap.size,0,none⟩) 1 1) [o] (qHs wr o HI.out) (by rfl) (by simp;omega) (by simp;omega) ?_;intro v1 w1 o1 g1 p1;have aY:(zan A5 sacc.length ay).ownBlock≠some wm.heap.size:=(fun h=>by have:=(aR.out.1.lt _ h).1;omega);have bJ:(zan A5 sacc.length ay).ownBlock≠some b3:=(fun h=>by have:=(aR.out.1.lt _ h).1;omega);obtain⟨kQ,xB⟩:=qDF g1 bn aY;obtain⟨Fu,Jd⟩:=qDF g1 (zal mF aI.out.size) bJ;have ao:=g1.size;simp at ao;have ei:=qA kQ;have Je:=qA Fu;obtain⟨A6,cT,rfl,_⟩:=OwI.form o1;have O1:=qA o1;have bR:=qA (qQ aI.out.drew aI.out.size aR.out.1 (Nat.le_succ _) g1)))
           all_goals
            go_wp2;go_roundw
            case rel=>exact⟨i+1,tO,by go_num, .slice A6 (sacc.length+1) cT,by simp[go_sem,kQ,h0],by simp[go_sem,kQ,h1],by simp[go_sem,xB,hf],by rw[fS.out];have h:=O1.out.far (p:=⟨wm.heap.size,1,none⟩) (by simp) (.slice A6 (sacc.length+1) cT);simpa using h,(by repeat(first | exact .refl _ _ | (refine BxS ?_ _) | (refine qB ?_ _) | (refine zab ?_) | (refine BxA ?_ _) | (refine BxT ?_ (Hid.out bR)))),by simp;omega⟩
            case measure=>simp[intOf];omega
         ·obtain rfl:i=os.length:=tO
          have fS:=qA hs;have aI:=qA bC;have lH:=qEZ os c os.length;obtain⟨A5,ay,rfl,k8,zH,_,_⟩:=hs.form;have fR:=fun b h=>hs.1.lt b h;have zh:=qA fR;clear hs bC fR;go_wp2_with (at_builtin;refine qEr EWh.stable rfl (.tmp 81) (.tmp 83) rfl Tryz.underlying47 a7 aS ao aP rfl (by decide) (by decide) oV.out ki (aI.out.alloc aI.out.size _) rfl _ [.int .i64 x,_] (x,qBZ os c os.length) _ rfl (EWh.of ⟨tO,tO⟩ (fS.out.alloc _)) rfl (qET _) ?_ ?_ ?_ tO ?_;(intro b hb;have:=zh.out b (by simpa using hb);simp;omega);(intro j u hj;match j,hj with | 0,hj=>(simp at hj;subst hj;simp[go_sem]) | 1,hj=>(simp at hj;subst hj;simp[go_sem]));(intro u hu;simp at hu;rcases hu with rfl | rfl<;>rfl);intro v2 w2 o2 g2)
          go_roundw
          case rel=>
           have km:=aI.out.alloc aI.out.size (.cells #[.int .i64 x,zan A5 (qBZ os c os.length).length ay] 26);have uF:=qZ yT.out (w':=_) fun b hb=>km.block b (oV.out.lt hb).2;have ai:(26:TypeId)≠3:=by decide
           exact⟨c+1,tO,by go_num,by rw[sT.out];exact o2,⟨(jk.out.below km).1.grown_ty uF ai g2,jk.out.2⟩,⟨(fm.out.below km).1.grown_ty uF ai g2,fm.out.2⟩,qEx (eO.out.trans (km.mono ki)) oV.out (zaa _) (by have:=km.size;omega) g2⟩
          case measure=>simp[intOf];omega
       ·obtain rfl:c=M:=tO
        have HQ:=qA (And.intro ho (And.intro hr hb));clear ho hr lJ hb ia aw lw vF ax ae;go_wp2;go_roundw
        case rel=>exact⟨k+1,tO,by go_num,by rw[HS.out];exact HQ.out.1,HQ.out.2.1,HQ.out.2.2⟩
        case measure=>simp[intOf];omega
   ·obtain rfl:k=ls.length:=tO
    go_wp2;go_ret;exact⟨_,rfl,by rw[F.out];exact ab,aa⟩
def whAt (r t:Int) (S:List Int) (i:Nat):Bool:=
 letB r (S.getD i 0)&&(S.getD i 0 != t)&&(S.getD i 0 != -t)&& !(decide (0<i)&&decide (0≤cmpL (S.getD (i-1) 0) (S.getD i 0)))
def whB (r:Int) (d:WhD):Bool:=inB r 1 3&&letB r d.1&&(List.range d.2.length).all (whAt r d.1 d.2)
theorem qLM {r t:Int} {S:List Int} (h1:inB r 1 3=true) (h2:letB r t=true) (h: ∀i,i<S.length→whAt r t S i=true):whB r (t,S)=true:=by
 unfold whB;rw[h1,h2];simp
 exact h
theorem qJH {r t:Int} {S:List Int} (i:Nat) (hi:i<S.length) (h:inB r 1 3=true→letB r t=true→whAt r t S i=false):whB r (t,S)=false:=by
 unfold whB;rcases h1:inB r 1 3 with _ | _
 ·rfl
 ·rcases h2:letB r t with _ | _
  ·rfl
  ·simp
   exact⟨i,hi,h h1 h2⟩
theorem qJX {r t:Int} {S:List Int} (h:0<S.length):whAt r t S 0=(letB r S[0]&&(S[0] != t)&&(S[0] != -t)):=by
 simp[whAt,zas,h]
theorem qKq {r t:Int} {S:List Int} {k:Nat} (h0:0<k) (h:k<S.length):whAt r t S k=(letB r S[k]&&(S[k] != t)&&(S[k] != -t)&& !decide (0≤cmpL S[k-1] S[k])):=by
 have:k-1<S.length:=tO
 simp[whAt,zas,h,h0,this]
theorem qOF {r t:Int} {S:List Int} {k:Nat} (h:k<S.length) (hw:whAt r t S k=true):letB r S[k]=true:=by
 unfold whAt at hw;simp only[zay] at hw;have:=hw.1.1.1
 simpa[zas,h] using this
theorem qBv (r:Int) (v:Value) (d:WhD) (w:World) (h:qCv w v d) (hl:d.2.length≤1073741824):
  Calls Tryz.prog 10 #[.int .i64 r,v] w fun e w'=>e= .returned (.bool (whB r d))∧Below w.heap.size w w':=by
 obtain⟨s,rfl,hd,ha⟩:=h;obtain⟨t,S⟩:=d;simp only at hd ha hl
 obtain⟨A,cap,rfl,aj,hm,hr,hb⟩:=ha;have HR:=qA hr;have HB:=qA hb;have HT:=qA hd;clear hr hb hd;rcases e1:inB r 1 3 with _ | _
 ·have F:Hid (whB r (t,S)=false):=qA (by unfold whB;rw[e1];rfl);go_enter Tryz.func10,Tryz.ntmps10
  go_wp2_with (go_at_call 56;refine(qX _ _ _ _).mono ?_;rintro e w' ⟨rfl,rfl⟩)
  go_ret;exact⟨qC F.out.symm,(by repeat(first | exact .refl _ _ | (refine BxS ?_ _) | (refine qB ?_ _) | (refine zab ?_) | (refine BxA ?_ _)))⟩
 ·rcases e2:letB r t with _ | _
  ·have F:Hid (whB r (t,S)=false):=qA (by unfold whB;rw[e1,e2];rfl);go_enter Tryz.func10,Tryz.ntmps10
   go_wp2_with (first | (go_at_call 56;refine(qX _ _ _ _).mono ?_;rintro e w' ⟨rfl,rfl⟩) | (go_at_call 57;refine(qd _ _ _).mono ?_;rintro e w' ⟨rfl,rfl⟩))
   go_ret;exact⟨qC F.out.symm,(by repeat(first | exact .refl _ _ | (refine BxS ?_ _) | (refine qB ?_ _) | (refine zab ?_) | (refine BxA ?_ _)))⟩
  ·have ht:=(qAB e1).1 e2;have cS:=qP.1 e1;have hn:wrap64 (-t)= -t:=IntWalk.wrap64_in _ ⟨tO,tO⟩;have HN:=qA hn;have Ji: -3≤t:=tO;have Ja:t≤3:=tO;clear hn ht cS;go_enter Tryz.func10,Tryz.ntmps10
   go_wp2_with (first | (go_at_call 56;refine(qX _ _ _ _).mono ?_;rintro e w' ⟨rfl,rfl⟩) | (go_at_call 57;refine(qd _ _ _).mono ?_;rintro e w' ⟨rfl,rfl⟩))
   go_loop [20] (fun i=> ∃k:Nat,k≤S.length∧i= .int .i64 k∧(∀j,j<k→whAt r t S j=true)) (fun i=>S.length-(intOf i).toNat)
   case atStart=>exact⟨0,zad _,rfl,fun j hj=>absurd hj tO⟩
   case round=>
    obtain⟨k,hk,rfl,ar⟩:=hrel;have bG:=qA ar;clear ar;by_cases ac:k<S.length
    ·obtain⟨b,off,rfl,hc⟩:=HB.out tO;have aM:b<w.heap.size:=zaK w _ (hc k ac);have ae:=hc k ac;have ST:Hid (whAt r t S k=true→ ∀j,j<k+1→whAt r t S j=true):=fun F j hj=>by
      rcases zaD (zaF hj) with hj | rfl
      ·exact bG.out j hj
      ·exact F
     have FA:Hid (whAt r t S k=false→whB r (t,S)=false):=fun F=>qJH k ac fun _ _=>F;have HX:=qA (HR.out S[k] (by simp));by_cases h0:0<k
     ·have aN:=hc (k-1) tO;have HZ:=qA (qKq (r:=r) (t:=t) h0 ac);have HY:=qA (HR.out S[k-1] (by simp));clear hc;generalize S[k-1]=y at aN HZ HY;generalize hx:S[k]=x at ae HZ HX;clear hx;rcases e3:letB r x with _ | _
      ·have F:=qA (FA.out (by rw[HZ.out,e3];rfl));go_wp2_with (go_at_call 57;refine(qd _ _ _).mono ?_;rintro e w' ⟨rfl,rfl⟩)
       go_ret;exact⟨qC F.out.symm,(by repeat(first | exact .refl _ _ | (refine BxS ?_ _) | (refine qB ?_ _) | (refine zab ?_) | (refine BxA ?_ _)))⟩
      ·rcases e4:(x==t) with _ | _
       ·rcases e5:(x== -t) with _ | _
        ·rcases e6:decide (0≤cmpL y x) with _ | _
         ·have F:=qA (ST.out (by rw[HZ.out,e3,e6];simp only[bne,e4,e5];rfl));go_wp2_with (first | (go_at_call 57;refine(qd _ _ _).mono ?_;rintro e w' ⟨rfl,rfl⟩) | (go_at_call 58;refine(qAF _ _ _ HY.out HX.out).mono ?_;rintro e w' ⟨rfl,rfl⟩))
          go_round
          case rel=>exact⟨k+1,tO,by go_num,F.out⟩
          case measure=>simp[intOf];omega
         ·have F:=qA (FA.out (by rw[HZ.out,e6];simp));go_wp2_with (first | (go_at_call 57;refine(qd _ _ _).mono ?_;rintro e w' ⟨rfl,rfl⟩) | (go_at_call 58;refine(qAF _ _ _ HY.out HX.out).mono ?_;rintro e w' ⟨rfl,rfl⟩))
          go_ret;exact⟨qC F.out.symm,(by repeat(first | exact .refl _ _ | (refine BxS ?_ _) | (refine qB ?_ _) | (refine zab ?_) | (refine BxA ?_ _)))⟩
        ·have F:=qA (FA.out (by rw[HZ.out];simp only[bne,e5];simp));go_wp2_with (go_at_call 57;refine(qd _ _ _).mono ?_;rintro e w' ⟨rfl,rfl⟩)
         go_ret;exact⟨qC F.out.symm,(by repeat(first | exact .refl _ _ | (refine BxS ?_ _) | (refine qB ?_ _) | (refine zab ?_) | (refine BxA ?_ _)))⟩
       ·have F:=qA (FA.out (by rw[HZ.out];simp only[bne,e4];simp));go_wp2_with (go_at_call 57;refine(qd _ _ _).mono ?_;rintro e w' ⟨rfl,rfl⟩)
        go_ret;exact⟨qC F.out.symm,(by repeat(first | exact .refl _ _ | (refine BxS ?_ _) | (refine qB ?_ _) | (refine zab ?_) | (refine BxA ?_ _)))⟩
     ·obtain rfl:k=0:=tO
      rw[Nat.add_zero] at ae;have HZ:=qA (qJX (r:=r) (t:=t) ac);clear hc;generalize hx:S[0]=x at ae HZ HX;clear hx;rcases e3:letB r x with _ | _
      ·have F:=qA (FA.out (by rw[HZ.out,e3];rfl));go_wp2_with (go_at_call 57;refine(qd _ _ _).mono ?_;rintro e w' ⟨rfl,rfl⟩)
       go_ret;exact⟨qC F.out.symm,(by repeat(first | exact .refl _ _ | (refine BxS ?_ _) | (refine qB ?_ _) | (refine zab ?_) | (refine BxA ?_ _)))⟩
      ·rcases e4:(x==t) with _ | _
       ·rcases e5:(x== -t) with _ | _
        ·have F:=qA (ST.out (by rw[HZ.out,e3];simp only[bne,e4,e5];rfl));go_wp2_with (go_at_call 57;refine(qd _ _ _).mono ?_;rintro e w' ⟨rfl,rfl⟩)
         go_round
         case rel=>exact⟨1,tO,by go_num,F.out⟩
         case measure=>simp[intOf];omega
        ·have F:=qA (FA.out (by rw[HZ.out];simp only[bne,e5];simp));go_wp2_with (go_at_call 57;refine(qd _ _ _).mono ?_;rintro e w' ⟨rfl,rfl⟩)
         go_ret;exact⟨qC F.out.symm,(by repeat(first | exact .refl _ _ | (refine BxS ?_ _) | (refine qB ?_ _) | (refine zab ?_) | (refine BxA ?_ _)))⟩
       ·have F:=qA (FA.out (by rw[HZ.out];simp only[bne,e4];simp));go_wp2_with (go_at_call 57;refine(qd _ _ _).mono ?_;rintro e w' ⟨rfl,rfl⟩)
        go_ret;exact⟨qC F.out.symm,(by repeat(first | exact .refl _ _ | (refine BxS ?_ _) | (refine qB ?_ _) | (refine zab ?_) | (refine BxA ?_ _)))⟩
    ·obtain rfl:k=S.length:=tO
     have F:=qA (qLM e1 e2 bG.out);go_wp2;go_ret;exact⟨qC F.out.symm,(by repeat(first | exact .refl _ _ | (refine BxS ?_ _) | (refine qB ?_ _) | (refine zab ?_) | (refine BxA ?_ _)))⟩
theorem qIt {x:Int} (h1: -3≤x) (h2:x≤3):qBa x=if x<0 then-x else x:=by
 unfold qBa;split
 ·exact IntWalk.wrap64_in _ ⟨tO,tO⟩
 ·rfl
theorem qJO {r t x:Int} (h1:inB r 1 3=true) (h2:letB r t=true):
  (letB r x&&(x != t)&&(x != -t))=((x != 0)&&inB x (wrap64 (-r)) r&& !(qBa x==qBa t)):=by
 rcases h3:letB r x with _ | _
 ·unfold letB at h3;rw[h3];rfl
 ·have ht:=(qAB h1).1 h2;have hx:=(qAB h1).1 h3;have hr:=qP.1 h1;unfold letB at h3;rw[h3,qIt tO tO,qIt (x:=t) tO tO,zaL];simp
  repeat' split
  all_goals omega
theorem qPc {r x y:Int} (h1:inB r 1 3=true) (h3:letB r x=true) (h2:letB r y=true):decide (0≤cmpL y x)=decide (rk x≤rk y):=by
 have hx:=(qAB h1).1 h3;have hy:=(qAB h1).1 h2;have hr:=qP.1 h1;have:=qQi (a:=y) (b:=x) tO tO hy.1 tO tO hx.1
 rw[zaL];simp[this]
theorem qBw (r:Int) (v:Value) (d:WhD) (w:World) (h:qCv w v d) (hl:d.2.length≤1073741824):
  Calls Tryz.prog 53 #[.int .i64 r,v] w fun e w'=>e= .returned (.bool (whB r d))∧Below w.heap.size w w':=by
 obtain⟨s,rfl,hd,ha⟩:=h;obtain⟨t,S⟩:=d;simp only at hd ha hl
 obtain⟨A,cap,rfl,aj,hm,hr,hb⟩:=ha;have HB:=qA hb;have HT:=qA hd;clear hr hb hd;go_enter Tryz.func53,Tryz.ntmps53
 go_wp2;go_loopw [5] (fun i wr=> ∃k:Nat,k≤S.length∧i= .int .i64 k∧(inB r 1 3=true→letB r t=true→ ∀j,j<k→whAt r t S j=true)∧ ∃n,wr=(w.alloc (.cells #[.int .i64 t, .slice A S.length cap] 26)).drewN n) (fun i _=>S.length-(intOf i).toNat)
 case atStart=>exact⟨0,zad _,rfl,fun _ _ j hj=>absurd hj tO,0,rfl⟩
 case round=>
  obtain⟨k,hk,rfl,ar,n,rfl⟩:=hrel;have bG:=qA ar;clear ar;by_cases ac:k<S.length
  ·obtain⟨b,off,rfl,hc⟩:=HB.out tO;have aM:b<w.heap.size:=zaK w _ (hc k ac);have ae:=hc k ac;have ST:Hid ((inB r 1 3=true→letB r t=true→whAt r t S k=true)→inB r 1 3=true→letB r t=true→ ∀j,j<k+1→whAt r t S j=true):=fun F q1 q2 j hj=>by
    rcases zaD (zaF hj) with hj | rfl
    ·exact bG.out q1 q2 j hj
    ·exact F q1 q2
   have FA:Hid ((inB r 1 3=true→letB r t=true→whAt r t S k=false)→whB r (t,S)=false):=fun F=>qJH k ac F;by_cases h0:0<k
   ·have aN:=hc (k-1) tO;have nA:decide ((0:Int)<(k:Int))=true:=by simp;omega
    have HP:Hid (inB r 1 3=true→letB r t=true→letB r S[k-1]=true):=fun q1 q2=>qOF tO (bG.out q1 q2 (k-1) tO);have HZ:=qA (qKq (r:=r) (t:=t) h0 ac);clear hc;generalize S[k-1]=y at aN HZ HP;generalize hx:S[k]=x at ae HZ;clear hx;have key:Hid (∀c:Bool,((x != 0)&&inB x (wrap64 (-r)) r&& !(qBa x==qBa t)&& !decide (rk x≤rk y))=c→inB r 1 3=true→letB r t=true→whAt r t S k=c):=fun c hc q1 q2=>by
     rw[HZ.out,qJO q1 q2];rcases e:((x != 0)&&inB x (wrap64 (-r)) r&& !(qBa x==qBa t)) with _ | _
     ·rw[e] at hc;rw[←hc];rfl
     ·have zX:letB r x=true:=by
       simp only[zay] at e;unfold letB;rw[e.1.1,e.1.2];rfl
      rw[e] at hc;rw[qPc q1 zX (HP.out q1 q2)];exact hc
    rcases e1:(x==0) with _ | _
    ·rcases e2:inB x (wrap64 (-r)) r with _ | _
     ·have F:=qA (FA.out (key.out false (by rw[e2];simp)));go_wp2;go_quiet ((first | (go_at_call 64;first | exact qJ (qI _ _ _ _) | exact qF (qI _ _ _ _)) | (go_at_call 83;first | exact qJ (qa _ _) | exact qF (qa _ _)) | (go_at_call 100;first | exact qJ (qq _ _) | exact qF (qq _ _))))
      go_wp2;go_ret;exact⟨qC F.out.symm,(by repeat(first | exact .refl _ _ | (refine BxS ?_ _) | (refine qB ?_ _) | (refine zab ?_) | (refine BxA ?_ _)))⟩
     ·rcases e3:(qBa x==qBa t) with _ | _
      ·rcases e4:decide (rk x≤rk y) with _ | _
       ·have F:=qA (ST.out (key.out true (by rw[e2,e3,e4];simp only[bne,e1];rfl)));go_wp2;go_quiet ((first | (go_at_call 64;first | exact qJ (qI _ _ _ _) | exact qF (qI _ _ _ _)) | (go_at_call 83;first | exact qJ (qa _ _) | exact qF (qa _ _)) | (go_at_call 100;first | exact qJ (qq _ _) | exact qF (qq _ _))))
        go_wp2;go_roundw
        case rel=>exact⟨k+1,tO,by go_num,F.out,_,rfl⟩
        case measure=>simp[intOf];omega
       ·have F:=qA (FA.out (key.out false (by rw[e4];simp)));go_wp2;go_quiet ((first | (go_at_call 64;first | exact qJ (qI _ _ _ _) | exact qF (qI _ _ _ _)) | (go_at_call 83;first | exact qJ (qa _ _) | exact qF (qa _ _)) | (go_at_call 100;first | exact qJ (qq _ _) | exact qF (qq _ _))))
        go_wp2;go_ret;exact⟨qC F.out.symm,(by repeat(first | exact .refl _ _ | (refine BxS ?_ _) | (refine qB ?_ _) | (refine zab ?_) | (refine BxA ?_ _)))⟩
      ·have F:=qA (FA.out (key.out false (by rw[e3];simp)));go_wp2;go_quiet ((first | (go_at_call 64;first | exact qJ (qI _ _ _ _) | exact qF (qI _ _ _ _)) | (go_at_call 83;first | exact qJ (qa _ _) | exact qF (qa _ _)) | (go_at_call 100;first | exact qJ (qq _ _) | exact qF (qq _ _))))
       go_wp2;go_ret;exact⟨qC F.out.symm,(by repeat(first | exact .refl _ _ | (refine BxS ?_ _) | (refine qB ?_ _) | (refine zab ?_) | (refine BxA ?_ _)))⟩
    ·have F:=qA (FA.out (key.out false (by simp only[bne,e1];rfl)));go_wp2;go_quiet ((first | (go_at_call 64;first | exact qJ (qI _ _ _ _) | exact qF (qI _ _ _ _)) | (go_at_call 83;first | exact qJ (qa _ _) | exact qF (qa _ _)) | (go_at_call 100;first | exact qJ (qq _ _) | exact qF (qq _ _))))
     go_wp2;go_ret;exact⟨qC F.out.symm,(by repeat(first | exact .refl _ _ | (refine BxS ?_ _) | (refine qB ?_ _) | (refine zab ?_) | (refine BxA ?_ _)))⟩
   ·obtain rfl:k=0:=tO
    rw[Nat.add_zero] at ae;have HZ:=qA (qJX (r:=r) (t:=t) ac);clear hc;generalize hx:S[0]=x at ae HZ;clear hx;have key:Hid (∀c:Bool,((x != 0)&&inB x (wrap64 (-r)) r&& !(qBa x==qBa t))=c→inB r 1 3=true→letB r t=true→whAt r t S 0=c):=fun c hc q1 q2=>by
     rw[HZ.out,qJO q1 q2];exact hc
    rcases e1:(x==0) with _ | _
    ·rcases e2:inB x (wrap64 (-r)) r with _ | _
     ·have F:=qA (FA.out (key.out false (by rw[e2];simp)));go_wp2;go_quiet ((first | (go_at_call 64;first | exact qJ (qI _ _ _ _) | exact qF (qI _ _ _ _)) | (go_at_call 83;first | exact qJ (qa _ _) | exact qF (qa _ _)) | (go_at_call 100;first | exact qJ (qq _ _) | exact qF (qq _ _))))
      go_wp2;go_ret;exact⟨qC F.out.symm,(by repeat(first | exact .refl _ _ | (refine BxS ?_ _) | (refine qB ?_ _) | (refine zab ?_) | (refine BxA ?_ _)))⟩
     ·rcases e3:(qBa x==qBa t) with _ | _
      ·have F:=qA (ST.out (key.out true (by rw[e2,e3];simp only[bne,e1];rfl)));go_wp2;go_quiet ((first | (go_at_call 64;first | exact qJ (qI _ _ _ _) | exact qF (qI _ _ _ _)) | (go_at_call 83;first | exact qJ (qa _ _) | exact qF (qa _ _)) | (go_at_call 100;first | exact qJ (qq _ _) | exact qF (qq _ _))))
       go_wp2;go_roundw
       case rel=>exact⟨1,tO,by go_num,F.out,_,rfl⟩
       case measure=>simp[intOf];omega
      ·have F:=qA (FA.out (key.out false (by rw[e3];simp)));go_wp2;go_quiet ((first | (go_at_call 64;first | exact qJ (qI _ _ _ _) | exact qF (qI _ _ _ _)) | (go_at_call 83;first | exact qJ (qa _ _) | exact qF (qa _ _)) | (go_at_call 100;first | exact qJ (qq _ _) | exact qF (qq _ _))))
       go_wp2;go_ret;exact⟨qC F.out.symm,(by repeat(first | exact .refl _ _ | (refine BxS ?_ _) | (refine qB ?_ _) | (refine zab ?_) | (refine BxA ?_ _)))⟩
    ·have F:=qA (FA.out (key.out false (by simp only[bne,e1];rfl)));go_wp2;go_quiet ((first | (go_at_call 64;first | exact qJ (qI _ _ _ _) | exact qF (qI _ _ _ _)) | (go_at_call 83;first | exact qJ (qa _ _) | exact qF (qa _ _)) | (go_at_call 100;first | exact qJ (qq _ _) | exact qF (qq _ _))))
     go_wp2;go_ret;exact⟨qC F.out.symm,(by repeat(first | exact .refl _ _ | (refine BxS ?_ _) | (refine qB ?_ _) | (refine zab ?_) | (refine BxA ?_ _)))⟩
  ·obtain rfl:k=S.length:=tO
   rcases e1:inB r 1 3 with _ | _
   ·have F:Hid (whB r (t,S)=false):=qA (by unfold whB;rw[e1];rfl);go_wp2_with (go_at_call 64;refine(qI _ _ _ _).mono ?_;rintro e w' ⟨rfl,rfl⟩)
    go_ret;exact⟨qC F.out.symm,(by repeat(first | exact .refl _ _ | (refine BxS ?_ _) | (refine qB ?_ _) | (refine zab ?_) | (refine BxA ?_ _)))⟩
   ·rcases e2:(t != 0) with _ | _
    ·have F:Hid (whB r (t,S)=false):=qA (by unfold whB letB;rw[e1,e2];rfl);go_wp2_with (go_at_call 64;refine(qI _ _ _ _).mono ?_;rintro e w' ⟨rfl,rfl⟩)
     go_ret;exact⟨qC F.out.symm,(by repeat(first | exact .refl _ _ | (refine BxS ?_ _) | (refine qB ?_ _) | (refine zab ?_) | (refine BxA ?_ _)))⟩
    ·rcases e3:inB t (wrap64 (-r)) r with _ | _
     ·have F:Hid (whB r (t,S)=false):=qA (by unfold whB letB;rw[e1,e2,e3];rfl);go_wp2_with (go_at_call 64;refine(qI _ _ _ _).mono ?_;rintro e w' ⟨rfl,rfl⟩)
      go_ret;exact⟨qC F.out.symm,(by repeat(first | exact .refl _ _ | (refine BxS ?_ _) | (refine qB ?_ _) | (refine zab ?_) | (refine BxA ?_ _)))⟩
     ·have F:=qA (qLM e1 (by unfold letB;rw[e2,e3];rfl) (bG.out e1 (by unfold letB;rw[e2,e3];rfl)));go_wp2_with (go_at_call 64;refine(qI _ _ _ _).mono ?_;rintro e w' ⟨rfl,rfl⟩)
      go_ret;exact⟨qC F.out.symm,(by repeat(first | exact .refl _ _ | (refine BxS ?_ _) | (refine qB ?_ _) | (refine zab ?_) | (refine BxA ?_ _)))⟩
abbrev MoD:=Int×List (List Int)
def qAt (B:List (List Int)) (k:Int):List (List Int):=
 if 1≤k∧k≤B.length then [B.getD (k-1).toNat []] else if k<0∧ -(B.length:Int)≤k then [invL (B.getD (-k-1).toNat [])] else []
def qDg (B:List (List Int)) (l:List Int):List (List Int):=(l.take 200).flatMap (qAt B)
def expL (B:List (List Int)) (l:List Int):List Int:=qEX (qDg B l)
theorem qLV (B:List (List Int)) (l:List Int) (k:Nat) (h:k<l.length):(l.take (k+1)).flatMap (qAt B)=(l.take k).flatMap (qAt B)++qAt B l[k]:=by
 rw[zaf h,zaw];simp
theorem qML (B:List (List Int)) (k:Int):(qAt B k).length≤1:=by
 unfold qAt;repeat' split
 all_goals simp
theorem qEu (B:List (List Int)) (l:List Int):(l.flatMap (qAt B)).length≤l.length:=by
 induction l with
 | nil=>simp
 | cons x l ih=>have:=qML B x;simp only[zau,zac,zaz];omega
theorem qIy (xs:List Int):(invL xs).length=xs.length:=by simp[invL,negL]
theorem qNj {B:List (List Int)} {M:Nat} (h: ∀b∈B,b.length≤M) (i:Nat):(B.getD i []).length≤M:=by
 by_cases hi:i<B.length
 ·have e:B.getD i []=B[i]:=by simp[zas,hi]
  rw[e];exact h _ (by simp)
 ·have e:B.getD i []= []:=by simp[zas,Nat.not_lt.1 hi]
  rw[e];simp
theorem qLp {B:List (List Int)} {M:Nat} (h: ∀b∈B,b.length≤M) (k:Int): ∀p∈qAt B k,p.length≤M:=by
 intro p hp;unfold qAt at hp;repeat' split at hp
 ·simp at hp;subst hp;exact qNj h _
 ·simp at hp;subst hp;rw[qIy];exact qNj h _
 ·cases hp
theorem qFz {L:List (List Int)} {M:Nat} (h: ∀p∈L,p.length≤M):qu L≤L.length*M:=by
 induction L with
 | nil=>simp[qu]
 | cons a L ih=>
   have h1:=h a (by simp);have h2:=ih fun p hp=>h p (by simp[hp]);unfold qu at h2⊢;simp only[List.map_cons,List.sum_cons,zaz,Nat.add_mul];omega
theorem qGw {B:List (List Int)} {M:Nat} (h: ∀b∈B,b.length≤M) (l:List Int): ∀p∈l.flatMap (qAt B),p.length≤M:=by
 intro p hp;obtain⟨k,_,hp⟩:=zaH.1 hp;exact qLp h k p hp
theorem qLJ {B:List (List Int)} {M:Nat} (h: ∀b∈B,b.length≤M) (l:List Int):(expL B l).length≤(l.take 200).length*M:=by
 have h1:=qIU (qDg B l);have h2:=qFz (qGw h (l.take 200));have h3:=zam M (qEu B (l.take 200));unfold expL qDg at*;omega
theorem qKs {B:List (List Int)} {l:List Int} {x:Int} (h:x∈expL B l): ∃b∈B,x∈b∨x∈invL b:=by
 unfold expL qEX at h;rcases qIC h with h | h
 ·cases h
 ·obtain⟨p,hp,hx⟩:=List.mem_flatten.1 h;obtain⟨k,_,hp⟩:=zaH.1 hp;unfold qAt at hp;have mem: ∀i:Nat,x∈B.getD i []∨x∈invL (B.getD i [])→ ∃b∈B,x∈b∨x∈invL b:=by
   intro i hi;by_cases hl:i<B.length
   ·have e:B.getD i []=B[i]:=by simp[zas,hl]
    rw[e] at hi;exact⟨_,by simp,hi⟩
   ·have e:B.getD i []= []:=by simp[zas,Nat.not_lt.1 hl]
    rw[e] at hi;simp[invL,negL] at hi
  repeat' split at hp
  ·simp at hp;subst hp;exact mem _ (.inl hx)
  ·simp at hp;subst hp;exact mem _ (.inr hx)
  ·cases hp
def qEw (d:WhD) (x:Int):List Int:=(if hasB d.2 (-x) then [wrap64 (-d.1)] else [])++ [x]++(if hasB d.2 x then [d.1] else [])
def qAi (d:WhD):Nat→List (List Int)
 | 0=> []
 | n+1=>qAi d n++ [qEw d ((n:Int)+1)]
def whM (r:Int) (d:WhD):MoD:=if whB r d then(r,qAi d r.toNat) else(0,[])
theorem qDb (d:WhD) (n:Nat):(qAi d n).length=n:=by
 induction n with
 | zero=>rfl
 | succ n ih=>simp[qAi,ih]
theorem qNK (d:WhD) (x:Int):(qEw d x).length≤3:=by
 unfold qEw;repeat' split
 all_goals simp
theorem qGa (d:WhD) (n:Nat): ∀p∈qAi d n,p.length≤3:=by
 induction n with
 | zero=>intro p hp;cases hp
 | succ n ih=>
   intro p hp;rcases zaA.1 hp with hp | hp
   ·exact ih p hp
   ·simp at hp;subst hp;exact qNK _ _
theorem qCi {r:Int} {d:WhD} (h:whB r d=true):inB r 1 3=true∧letB r d.1=true:=by
 unfold whB at h;simp only[zay] at h;exact h.1
theorem qFG {d:WhD} {n:Nat} {r:Int} (h:letB r d.1=true) (hr:inB r 1 3=true) (hn:(n:Int)≤r): ∀p∈qAi d n,∀x∈p,letB r x=true:=by
 have hb:=qP.1 hr;have hd:=(qAB hr).1 h;have hw:wrap64 (-d.1)= -d.1:=IntWalk.wrap64_in _ ⟨tO,tO⟩;induction n with
 | zero=>intro p hp;cases hp
 | succ n ih=>
   intro p hp x hx;rcases zaA.1 hp with hp | hp
   ·exact ih tO p hp x hx
   ·simp at hp
    subst hp;unfold qEw at hx;rw[hw] at hx;simp only[zaA,zao] at hx;have:x= -d.1∨x=(n:Int)+1∨x=d.1:=by
     rcases hx with (hx | hx) | hx
     ·split at hx<;>simp at hx;exact .inl hx
     ·exact .inr (.inl hx)
     ·split at hx<;>simp at hx;exact .inr (.inr hx)
    refine(qAB hr).2 ?_
    omega
theorem qKt {r x:Int} {p:List Int} (hr:inB r 1 3=true) (h: ∀y∈p,letB r y=true) (hx:x∈invL p):letB r x=true:=by
 unfold invL negL at hx;simp only[List.mem_reverse,List.mem_map] at hx;obtain⟨y,hy,rfl⟩:=hx;have hb:=qP.1 hr;have:=(qAB hr).1 (h y hy)
 rw[IntWalk.wrap64_in (-y) ⟨tO,tO⟩];exact(qAB hr).2 tO
theorem qIA {r x:Int} (hr:inB r 1 3=true) (h:letB r x=true):I64 x:=by
 have hb:=qP.1 hr;have:=(qAB hr).1 h
 unfold I64;omega
def whX (r:Int) (d:WhD) (c:List Int):List Int:=expL (whM r d).2 c
def qAh (r:Int) (c:List Int):Option WhD:=(qh r).find? fun d=>decide ((qAL (whX r d c)).length<c.length)
def shF (r:Int) (w:List Int):WhD×Bool:=if qY r w then(match qAh r (cycF w) with | some d=>(d,true) | none=>((0,[]),false)) else((0,[]),false)
def qDi (r:Int):Nat→List Int→List WhD→List Int×List WhD
 | 0,c,l=>(c,l)
 | n+1,c,l=>match qAh r c with
   | none=>(c,l)
   | some d=>qDi r n (cycF (whX r d c)) (l++ [d])
def redF (r:Int) (w:List Int):List Int×List WhD:=if qY r w then qDi r 24 (cycF w) [] else([],[])
def qDG (r:Int) (c:List Int):Prop:=inB r 1 3=true∧(∀x∈c,letB r x=true)∧c.length≤24∧cycF c=c
theorem qDG.I64 {r:Int} {c:List Int} (h:qDG r c):I64s c:=fun x hx=>qIA h.1 (h.2.1 x hx)
theorem qDG.word {r:Int} {c:List Int} (h:qDG r c):qY r c=true:=by
 have:=qNl h.1 h.2.1 h.I64 (by rw[h.2.2.2];exact h.2.2.1)
 rw[h.2.2.2] at this;exact this
theorem qGL {r:Int} {w:List Int} (h:qY r w=true):qDG r (cycF w):=by
 have hr:=qDc h;have lB:inB r 1 3=true:=qP.2 hr;have hI:I64s w:=fun x hx=>qIA lB (qGh h hx);exact⟨lB,fun x hx=>qGh h (qFu hx),zaR (qFp w) (qCW h),qIw hI⟩
theorem qMN {r:Int} {d:WhD} {c:List Int} (hr:inB r 1 3=true): ∀x∈whX r d c,letB r x=true:=by
 intro x hx;obtain⟨b,hb,hx⟩:=qKs hx;unfold whM at hb;split at hb
 ·rename_i hw
  have h1:=qCi hw;have mV:=qP.1 hr;have hm:=qFG h1.2 hr (by omega:((r.toNat:Nat):Int)≤r) b hb;rcases hx with hx | hx
  ·exact hm x hx
  ·exact qKt hr hm hx
 ·cases hb
theorem qNF {r:Int} {c:List Int} {d:WhD} (h:qAh r c=some d):(qAL (whX r d c)).length<c.length:=by
 have:=List.find?_some h
 simpa using this
theorem qFC {r:Int} {c:List Int} {d:WhD} (h:qDG r c) (hs:qAh r c=some d):qDG r (cycF (whX r d c)):=by
 have hl:=qNF hs;have hx: ∀x∈whX r d c,letB r x=true:=qMN h.1;have hI:I64s (whX r d c):=fun x iU=>qIA h.1 (hx x iU);refine⟨h.1,fun x iU=>hx x (qFu iU),?_,qIw hI⟩;rw[qGp];have:=h.2.2.1
 omega
theorem qKz {r:Int} {c:List Int} (h:qDG r c):shF r c=match qAh r c with | some d=>(d,true) | none=>((0,[]),false):=by
 unfold shF;rw[h.word,if_pos rfl,h.2.2.2]
theorem qJY (r:Int) (c:List Int) (k:Nat) (h:k<(qh r).length):
  ((qh r).drop k).find? (fun d=>decide ((qAL (whX r d c)).length<c.length))=if decide ((qAL (whX r (qh r)[k] c)).length<c.length) then some (qh r)[k] else((qh r).drop (k+1)).find? (fun d=>decide ((qAL (whX r d c)).length<c.length)):=by
 rw[List.drop_eq_getElem_cons h,List.find?_cons];cases decide ((qAL (whX r (qh r)[k] c)).length<c.length)<;>rfl
def cW (d:WhD):Nat:=d.2.length+1
theorem EWh.at {w:World} {cs:List Value} {d:WhD} {F:List Nat} (h:EWh w cs d F): ∃s,cs= [.int .i64 d.1,s]∧I64 d.1∧OwI w 0 s d.2∧F=s.ownBlock.toList:=h
theorem qMq (r:Int):cntL cW (qh r)≤1073741824:=by
 rcases h:inB r 1 3 with _ | _
 ·have:qh r= []:=by unfold qh;rw[h];rfl
  rw[this];simp[cntL]
 ·have hb:=qP.1 h;have:r=1∨r=2∨r=3:=tO
  rcases this with rfl | rfl | rfl<;>decide+kernel
theorem OwI.alone {w:World} {base:Nat} {v:Value} {xs:List Int} (h:OwI w 0 v xs) (hb: ∀b,v.ownBlock=some b→base≤b):OwI w base v xs:=by
 refine⟨⟨h.1.1,?_⟩,h.2⟩;rcases h.1.2 with h0 | ⟨g,cap,cur,hv,hg,r⟩
 ·exact .inl h0
 ·exact .inr ⟨g,cap,cur,hv,hb g (by rw[hv];rfl),r⟩
theorem qBs (w:World) (lo hi:Nat):OwII lo hi (.slice none 0 0) [] w:=
 OwnL.nil ⟨rfl, .inl ⟨rfl,rfl⟩⟩ fun b hb=>by simp[zak] at hb
theorem qAw (r:Int) (v:Value) (d:WhD) (w:World) (hr:I64 r) (h:qCv w v d) (hl:d.2.length≤1073741824):
  Calls Tryz.prog 7 #[.int .i64 r,v] w fun e w'=> ∃s,e= .returned (.tuple #[.agg #[.int .i64 (whM r d).1,s], .bool (whB r d)])∧OwII w.heap.size w'.heap.size s (whM r d).2 w'∧Below w.heap.size w w':=by
 have H:=qA h;obtain⟨s,rfl,hd,ha⟩:=h;obtain⟨L,xs⟩:=d;have HS:=qA ha;obtain⟨A,cap,rfl,aj,hm,_⟩:=ha;unfold maxLen at hm;have HI:=qA hd;clear hd;rcases eb:whB r (L,xs) with _ | _
 ·have F:Hid (whM r (L,xs)=(0,[])):=qA (by unfold whM;rw[eb];rfl);go_enter Tryz.func7,Tryz.ntmps7
  go_wp2_with fail;have C:=fun W (h:qCv W (.agg #[.int .i64 L, .slice A xs.length cap]) (L,xs))=>qBv r _ (L,xs) W h hl;simp only[eb] at C;refine(C _ (H.out.below (by repeat(first | exact .refl _ _ | (refine BxS ?_ _) | (refine qB ?_ _) | (refine zab ?_) | (refine BxA ?_ _))))).mono ?_
  rintro e w1 ⟨rfl,b1⟩;clear C;have B1:=qA b1;obtain⟨aC,d7⟩:=qBM b1;have ao:=b1.size;simp at ao
  have cG:w.heap.size+1<w1.heap.size:=tO;clear b1;have d5:w1.cell? ⟨w.heap.size+1,0,none⟩=some (.int .i64 0):=by rw[aC _ _ (by simp)];simp[go_sem]
  have dN:w1.cell? ⟨w.heap.size+1,1,none⟩=some (.slice none 0 0):=by rw[aC _ _ (by simp)];simp[go_sem]
  go_wp2;refine bodyPost_ret (v:= .tuple #[.agg #[.int .i64 0, .slice none 0 0], .bool false]) (by simp[results,Tryz.results7,go_sem,cG,d5,dN]) rfl ⟨_,by rw[F.out],by rw[F.out];exact qBs _ _ _,?_⟩;exact(by repeat(first | exact .refl _ _ | (refine BxS ?_ _) | (refine qB ?_ _) | (refine zab ?_) | (refine BxA ?_ _) | (refine BxT ?_ (Hid.out B1))))
 ·have jU:=qCi eb;have cS:=qP.1 jU.1;have hL:=(qAB jU.1).1 jU.2;have Gc: -3≤L:=by have:=hL.2.1;simp at this;omega
  have Ei:L≤3:=by have:=hL.2.2;simp at this;omega
  obtain⟨n,rfl⟩: ∃n:Nat,r=n:=⟨r.toNat,tO⟩;have F:Hid (whM n (L,xs)=((n:Int),qAi (L,xs) n)):=qA (by unfold whM;rw[eb];rfl);have rr:Hid (wrap64 (-L)= -L):=qA (IntWalk.wrap64_in _ ⟨tO,tO⟩);have pC:n≤3:=tO;have fH:1≤n:=tO;clear jU cS hL hr;go_enter Tryz.func7,Tryz.ntmps7
  go_wp2_with fail;have C:=fun W (h:qCv W (.agg #[.int .i64 L, .slice A xs.length cap]) (L,xs))=>qBv n _ (L,xs) W h hl;simp only[eb] at C;refine(C _ (H.out.below (by repeat(first | exact .refl _ _ | (refine BxS ?_ _) | (refine qB ?_ _) | (refine zab ?_) | (refine BxA ?_ _))))).mono ?_
  rintro e w1 ⟨rfl,b1⟩;clear C;have B1:=qA b1;obtain⟨aC,d7⟩:=qBM b1;have ao:=b1.size;simp at ao
  have cG:w.heap.size+1<w1.heap.size:=tO;have kK:w.heap.size<w1.heap.size:=tO;clear b1;go_wp2_with fail;go_loopw [7] (fun i wr=> ∃k:Nat,k≤n∧i= .int .i64 (k+1)∧ ∃s:Value,wr.cell? ⟨w1.heap.size,0,none⟩=some (.int .i64 n)∧wr.cell? ⟨w1.heap.size,1,none⟩=some s∧(∀o,wr.frozen? ⟨w1.heap.size,o,none⟩=false)∧OwII (w1.heap.size+1) wr.heap.size s (qAi (L,xs) k) wr∧Below w1.heap.size w1 wr∧w1.heap.size<wr.heap.size)
   (fun i _=>n+1-(intOf i).toNat)
  case atStart=>
   refine⟨0,zad _,rfl, .slice none 0 0,by simp[go_sem],by simp[go_sem],by simp[go_sem],qBs _ _ _,(by repeat(first | exact .refl _ _ | (refine BxS ?_ _) | (refine qB ?_ _) | (refine zab ?_) | (refine BxA ?_ _))),by simp⟩
  case round=>
   obtain⟨k,hk,rfl,s,h0,h1,hf,hs,bC,bn⟩:=hrel;have aH:=qDb (L,xs) k;have aI:=qA bC;have aR:=qA hs;obtain⟨A5,ay,rfl,_⟩:=hs.len;obtain⟨gC,lG⟩:=qBM bC;by_cases ac:k<n
   ·have tH:wr.cell? ⟨w.heap.size,0,none⟩=some (.int .i64 L):=by rw[gC _ _ kK,aC _ _ (by simp;omega)];simp[go_sem]
    have gQ:wr.cell? ⟨w.heap.size,1,none⟩=some (.slice A xs.length cap):=by rw[gC _ _ kK,aC _ _ (by simp;omega)];simp[go_sem]
    have dp:Below w.heap.size w wr:=by
     refine zaO ?_ (bC.mono tO);exact(by repeat(first | exact .refl _ _ | (refine BxS ?_ _) | (refine qB ?_ _) | (refine zab ?_) | (refine BxA ?_ _) | (refine BxT ?_ (Hid.out B1))))
    have io:=qA (HS.out.below dp);have yh:w.heap.size<wr.heap.size:=tO;have cY:Hid (qAi (L,xs) (k+1)=qAi (L,xs) k++ [qEw (L,xs) ((k:Int)+1)]):=qA rfl;have tT:Hid (qEw (L,xs) ((k:Int)+1)=(if hasB xs (-((k:Int)+1)) then [-L] else [])++ [(k:Int)+1]++(if hasB xs ((k:Int)+1) then [L] else [])):=qA (by unfold qEw;rw[rr.out]);have sS:Hid (I64 (-L)):=qA ⟨tO,tO⟩;have gM:Hid (I64 ((k:Int)+1)):=qA ⟨tO,tO⟩;clear gC lG aC d7 hs bC;have iT:(qAi (L,xs) k).length≤3:=tO;clear aH;generalize qAi (L,xs) k=acc at aR cY iT h1;have jS:Hid (I64 L):=qA ⟨tO,tO⟩;have yy:=tH;have eN:Hid (OwI (wr.alloc (.cells #[] 3)) wr.heap.size (.slice (some ⟨wr.heap.size,0,none⟩) 0 0) []):=qA (qW wr [] qS (by simp) (zaa _));have bv:Hid (Below wr.heap.size wr (wr.alloc (.cells #[] 3))):=qA ((zaj _ _).alloc (zaa _) _);have bN:Hid (∀(W:World) (p1 p2:Bool),hasB xs (-((k:Int)+1))=p1→True):=qA fun _ _ _ _=>trivial;rcases e1:hasB xs (-((k:Int)+1)) with _ | _<;>rcases e2:hasB xs ((k:Int)+1) with _ | _
    all_goals
     have mp:=tT.out;rw[e1,e2] at mp;simp only[zaC,if_false,if_true,zaM,zar] at mp;have ji:=qA mp;have CN:=fun W (h:ArgI W (.slice A xs.length cap) xs)=>qBG _ xs (-((k:Int)+1)) W h hl;rw[e1] at CN;have CNN:=qA CN;have CP:=fun W (h:ArgI W (.slice A xs.length cap) xs)=>qBG _ xs ((k:Int)+1) W h hl;rw[e2] at CP;have CPP:=qA CP;clear mp CN CP e1 e2 tT bN;go_wp2_with fail;generalize wr.alloc (.cells #[] 3)=wa at eN bv⊢;have GK:=bv.out.size;obtain⟨Ds,lM⟩:=qBM bv.out;refine(CNN.out _ (io.out.below bv.out)).mono ?_
     rintro e w' ⟨rfl,rfl⟩
    ·go_wp2_with (first
      | (go_at_call 52;refine(CPP.out _ (io.out.below B1.out)).mono ?_;rintro e w' ⟨rfl,rfl⟩)
      | ((at_builtin;refine qN rfl (.tmp 33) (.tmp 35) rfl _ _ _ (OwI.alloc eN.out _) rfl _ _ rfl (qG _ _ _) gM.out (by first | omega | (simp<;>omega)) (by first | omega | (simp<;>omega)) ?_;intro v1 eq o1 g1 p1);have B1:=qA (qQ bv.out tO eN.out.1 (zaa _) g1);obtain⟨aC,d7⟩:=qBM B1.out;have ao:=B1.out.size;have O1:=qA o1;obtain⟨A1,c1,rfl,_⟩:=OwI.form o1;clear o1 g1 p1)
      | (at_builtin;refine qAV rfl (.tmp 47) (.tmp 49) rfl (w0:=wr) aR.out tO (B1.out.alloc tO _) rfl _ _ _ rfl (O1.out.alloc _) (zaa _) (qG _ _ _) rfl tO ?_;intro vz wz oz gz;obtain⟨Az,cz,rfl,_⟩:=OwnL.len oz;obtain⟨dY,dE⟩:=qj gz (b:=w1.heap.size) tO (fun h=>by have:=(aR.out.lt h).1;omega);have cG:=gz.size;simp at cG;have gw:w1.heap.size<wz.heap.size:=tO;have OZ:=qA oz;have GZ:=qA gz;clear oz gz))
     go_roundw
     case rel=>
      have q0:=(dY 0).trans ((B1.out.cell (p:=⟨w1.heap.size,0,none⟩) bn).trans h0);have q1:=(dY 1).trans ((B1.out.cell (p:=⟨w1.heap.size,1,none⟩) bn).trans h1);have qf:=fun o=>(dE o).trans ((B1.out.frozen (p:=⟨w1.heap.size,o,none⟩) bn).trans (hf o));refine⟨k+1,tO,by go_num, .slice Az (acc.length+1) cz,by simp[go_sem,q0],by simp[go_sem,q1],by simp[go_sem,qf],?_,?_,by simp;omega⟩
      ·rw[cY.out,ji.out];have h9:=OZ.out;simp only[zac,zah] at h9;have h:=h9.keep EI.stable (w':=wz.setCell ⟨w1.heap.size,1,none⟩ (.slice Az (acc.length+1) cz)) fun b hb _=>by rw[qL _ _ _ b (by show b≠w1.heap.size;omega)]
       exact h.widen (zaa _) (by simp)
      ·exact(((aI.out.trans (B1.out.mono tO)).alloc tO _).grown GZ.out (by simp;omega) (fun j hj=>zaq (aR.out.lt hj).1)).setCell (zaa _) _
     case measure=>simp[intOf];omega
    ·go_wp2_with (first
      | (go_at_call 52;refine(CPP.out _ (io.out.below B1.out)).mono ?_;rintro e w' ⟨rfl,rfl⟩)
      | ((at_builtin;refine qN rfl (.tmp 33) (.tmp 35) rfl _ _ _ (OwI.alloc eN.out _) rfl _ _ rfl (qG _ _ _) gM.out (by first | omega | (simp<;>omega)) (by first | omega | (simp<;>omega)) ?_;intro v1 eq o1 g1 p1);have B1:=qA (qQ bv.out tO eN.out.1 (zaa _) g1);obtain⟨aC,d7⟩:=qBM B1.out;have ao:=B1.out.size;have O1:=qA o1;obtain⟨A1,c1,rfl,_⟩:=OwI.form o1;clear o1 g1 p1)
      | ((at_builtin;refine qN rfl (.tmp 41) (.tmp 44) rfl _ _ _ (OwI.alloc O1.out _) rfl _ _ rfl (qG _ _ _) jS.out (by first | omega | (simp<;>omega)) (by first | omega | (simp<;>omega)) ?_;intro v2 wv2 o2 g2 p2);have B2:=qA (qQ B1.out tO O1.out.1 (zaa _) g2);obtain⟨dG,dq⟩:=qBM B2.out;have aP:=B2.out.size;have O2:=qA o2;obtain⟨A2,c2,rfl,_⟩:=OwI.form o2;clear o2 g2 p2)
      | (at_builtin;refine qAV rfl (.tmp 47) (.tmp 49) rfl (w0:=wr) aR.out tO (B2.out.alloc tO _) rfl _ _ _ rfl (O2.out.alloc _) (zaa _) (qG _ _ _) rfl tO ?_;intro vz wz oz gz;obtain⟨Az,cz,rfl,_⟩:=OwnL.len oz;obtain⟨dY,dE⟩:=qj gz (b:=w1.heap.size) tO (fun h=>by have:=(aR.out.lt h).1;omega);have cG:=gz.size;simp at cG;have gw:w1.heap.size<wz.heap.size:=tO;have OZ:=qA oz;have GZ:=qA gz;clear oz gz))
     go_roundw
     case rel=>
      have q0:=(dY 0).trans ((B2.out.cell (p:=⟨w1.heap.size,0,none⟩) bn).trans h0);have q1:=(dY 1).trans ((B2.out.cell (p:=⟨w1.heap.size,1,none⟩) bn).trans h1);have qf:=fun o=>(dE o).trans ((B2.out.frozen (p:=⟨w1.heap.size,o,none⟩) bn).trans (hf o));refine⟨k+1,tO,by go_num, .slice Az (acc.length+1) cz,by simp[go_sem,q0],by simp[go_sem,q1],by simp[go_sem,qf],?_,?_,by simp;omega⟩
      ·rw[cY.out,ji.out];have h9:=OZ.out;simp only[zac,zah] at h9;have h:=h9.keep EI.stable (w':=wz.setCell ⟨w1.heap.size,1,none⟩ (.slice Az (acc.length+1) cz)) fun b hb _=>by rw[qL _ _ _ b (by show b≠w1.heap.size;omega)]
       exact h.widen (zaa _) (by simp)
      ·exact(((aI.out.trans (B2.out.mono tO)).alloc tO _).grown GZ.out (by simp;omega) (fun j hj=>zaq (aR.out.lt hj).1)).setCell (zaa _) _
     case measure=>simp[intOf];omega
    ·go_wp2_with (first
      | (go_at_call 52;refine(CPP.out _ (io.out.below B2.out)).mono ?_;rintro e w' ⟨rfl,rfl⟩)
      | ((at_builtin;refine qN rfl (.tmp 27) (.tmp 31) rfl _ _ _ (OwI.alloc eN.out _) rfl _ _ rfl (qG _ _ _) sS.out (by first | omega | (simp<;>omega)) (by first | omega | (simp<;>omega)) ?_;intro v1 eq o1 g1 p1);have B1:=qA (qQ bv.out tO eN.out.1 (zaa _) g1);obtain⟨aC,d7⟩:=qBM B1.out;have ao:=B1.out.size;have O1:=qA o1;obtain⟨A1,c1,rfl,_⟩:=OwI.form o1;clear o1 g1 p1)
      | ((at_builtin;refine qN rfl (.tmp 33) (.tmp 35) rfl _ _ _ (OwI.alloc O1.out _) rfl _ _ rfl (qG _ _ _) gM.out (by first | omega | (simp<;>omega)) (by first | omega | (simp<;>omega)) ?_;intro v2 wv2 o2 g2 p2);have B2:=qA (qQ B1.out tO O1.out.1 (zaa _) g2);obtain⟨dG,dq⟩:=qBM B2.out;have aP:=B2.out.size;have O2:=qA o2;obtain⟨A2,c2,rfl,_⟩:=OwI.form o2;clear o2 g2 p2)
      | (at_builtin;refine qAV rfl (.tmp 47) (.tmp 49) rfl (w0:=wr) aR.out tO (B2.out.alloc tO _) rfl _ _ _ rfl (O2.out.alloc _) (zaa _) (qG _ _ _) rfl tO ?_;intro vz wz oz gz;obtain⟨Az,cz,rfl,_⟩:=OwnL.len oz;obtain⟨dY,dE⟩:=qj gz (b:=w1.heap.size) tO (fun h=>by have:=(aR.out.lt h).1;omega);have cG:=gz.size;simp at cG;have gw:w1.heap.size<wz.heap.size:=tO;have OZ:=qA oz;have GZ:=qA gz;clear oz gz))
     go_roundw
     case rel=>
      have q0:=(dY 0).trans ((B2.out.cell (p:=⟨w1.heap.size,0,none⟩) bn).trans h0);have q1:=(dY 1).trans ((B2.out.cell (p:=⟨w1.heap.size,1,none⟩) bn).trans h1);have qf:=fun o=>(dE o).trans ((B2.out.frozen (p:=⟨w1.heap.size,o,none⟩) bn).trans (hf o));refine⟨k+1,tO,by go_num, .slice Az (acc.length+1) cz,by simp[go_sem,q0],by simp[go_sem,q1],by simp[go_sem,qf],?_,?_,by simp;omega⟩
      ·rw[cY.out,ji.out];have h9:=OZ.out;simp only[zac,zah] at h9;have h:=h9.keep EI.stable (w':=wz.setCell ⟨w1.heap.size,1,none⟩ (.slice Az (acc.length+1) cz)) fun b hb _=>by rw[qL _ _ _ b (by show b≠w1.heap.size;omega)]
       exact h.widen (zaa _) (by simp)
      ·exact(((aI.out.trans (B2.out.mono tO)).alloc tO _).grown GZ.out (by simp;omega) (fun j hj=>zaq (aR.out.lt hj).1)).setCell (zaa _) _
     case measure=>simp[intOf];omega
    ·go_wp2_with (first
      | (go_at_call 52;refine(CPP.out _ (io.out.below B2.out)).mono ?_;rintro e w' ⟨rfl,rfl⟩)
      | ((at_builtin;refine qN rfl (.tmp 27) (.tmp 31) rfl _ _ _ (OwI.alloc eN.out _) rfl _ _ rfl (qG _ _ _) sS.out (by first | omega | (simp<;>omega)) (by first | omega | (simp<;>omega)) ?_;intro v1 eq o1 g1 p1);have B1:=qA (qQ bv.out tO eN.out.1 (zaa _) g1);obtain⟨aC,d7⟩:=qBM B1.out;have ao:=B1.out.size;have O1:=qA o1;obtain⟨A1,c1,rfl,_⟩:=OwI.form o1;clear o1 g1 p1)
      | ((at_builtin;refine qN rfl (.tmp 33) (.tmp 35) rfl _ _ _ (OwI.alloc O1.out _) rfl _ _ rfl (qG _ _ _) gM.out (by first | omega | (simp<;>omega)) (by first | omega | (simp<;>omega)) ?_;intro v2 wv2 o2 g2 p2);have B2:=qA (qQ B1.out tO O1.out.1 (zaa _) g2);obtain⟨dG,dq⟩:=qBM B2.out;have aP:=B2.out.size;have O2:=qA o2;obtain⟨A2,c2,rfl,_⟩:=OwI.form o2;clear o2 g2 p2)
      | ((at_builtin;refine qN rfl (.tmp 41) (.tmp 44) rfl _ _ _ (OwI.alloc O2.out _) rfl _ _ rfl (qG _ _ _) jS.out (by first | omega | (simp<;>omega)) (by first | omega | (simp<;>omega)) ?_;intro v3 wv3 o3 g3 p3);have B3:=qA (qQ B2.out tO O2.out.1 (zaa _) g3);obtain⟨jx,Fv⟩:=qBM B3.out;have mC:=B3.out.size;have O3:=qA o3;obtain⟨A3,c3,rfl,_⟩:=OwI.form o3;clear o3 g3 p3)
      | (at_builtin;refine qAV rfl (.tmp 47) (.tmp 49) rfl (w0:=wr) aR.out tO (B3.out.alloc tO _) rfl _ _ _ rfl (O3.out.alloc _) (zaa _) (qG _ _ _) rfl tO ?_;intro vz wz oz gz;obtain⟨Az,cz,rfl,_⟩:=OwnL.len oz;obtain⟨dY,dE⟩:=qj gz (b:=w1.heap.size) tO (fun h=>by have:=(aR.out.lt h).1;omega);have cG:=gz.size;simp at cG;have gw:w1.heap.size<wz.heap.size:=tO;have OZ:=qA oz;have GZ:=qA gz;clear oz gz))
     go_roundw
     case rel=>
      have q0:=(dY 0).trans ((B3.out.cell (p:=⟨w1.heap.size,0,none⟩) bn).trans h0);have q1:=(dY 1).trans ((B3.out.cell (p:=⟨w1.heap.size,1,none⟩) bn).trans h1);have qf:=fun o=>(dE o).trans ((B3.out.frozen (p:=⟨w1.heap.size,o,none⟩) bn).trans (hf o));refine⟨k+1,tO,by go_num, .slice Az (acc.length+1) cz,by simp[go_sem,q0],by simp[go_sem,q1],by simp[go_sem,qf],?_,?_,by simp;omega⟩
      ·rw[cY.out,ji.out];have h9:=OZ.out;simp only[zac,zah] at h9;have h:=h9.keep EI.stable (w':=wz.setCell ⟨w1.heap.size,1,none⟩ (.slice Az (acc.length+1) cz)) fun b hb _=>by rw[qL _ _ _ b (by show b≠w1.heap.size;omega)]
       exact h.widen (zaa _) (by simp)
      ·exact(((aI.out.trans (B3.out.mono tO)).alloc tO _).grown GZ.out (by simp;omega) (fun j hj=>zaq (aR.out.lt hj).1)).setCell (zaa _) _
     case measure=>simp[intOf];omega
   ·obtain rfl:k=n:=tO
    have d5:wr.cell? ⟨w.heap.size+1,0,none⟩=some (.int .i64 0):=by rw[gC _ _ cG,aC _ _ (by simp)];simp[go_sem]
    have dN:wr.cell? ⟨w.heap.size+1,1,none⟩=some (.slice none 0 0):=by rw[gC _ _ cG,aC _ _ (by simp)];simp[go_sem]
    have Cc: ∀o,wr.frozen? ⟨w.heap.size+1,o,none⟩=false:=fun o=>by rw[lG _ _ cG,d7 _ _ (by simp)];simp[go_sem]
    have dp:Below w.heap.size w wr:=by
     refine zaO ?_ (aI.out.mono tO);exact(by repeat(first | exact .refl _ _ | (refine BxS ?_ _) | (refine qB ?_ _) | (refine zab ?_) | (refine BxA ?_ _) | (refine BxT ?_ (Hid.out B1))))
    have dl:=qA dp;have yi:w.heap.size+1<wr.heap.size:=tO;clear gC lG aC d7 hs bC dp;go_wp2;refine bodyPost_ret (v:= .tuple #[.agg #[.int .i64 k, .slice A5 k ay], .bool true]) (by simp[results,Tryz.results7,go_sem,yi,d5,dN]) rfl ⟨_,by rw[F.out],?_,?_⟩
    ·rw[F.out];have h0:=aR.out;rw[aH] at h0;have h:OwII (w1.heap.size+1) wr.heap.size (.slice A5 k ay) (qAi (L,xs) k) ((wr.setCell ⟨w.heap.size+1,0,none⟩ (.int .i64 k)).setCell ⟨w.heap.size+1,1,none⟩ (.slice A5 k ay)):=
      h0.keep EI.stable fun b hb _=>by rw[qL _ _ _ b (by show b≠w.heap.size+1;omega),qL _ _ _ b (by show b≠w.heap.size+1;omega)]
     exact h.widen tO (by simp)
    ·exact(by repeat(first | exact .refl _ _ | (refine BxS ?_ _) | (refine qB ?_ _) | (refine zab ?_) | (refine BxA ?_ _) | (refine BxT ?_ (Hid.out dl))))
theorem qy (r:Int) (v:Value) (d:WhD) (w:World) (hr:I64 r) (h:qCv w v d) (hl:d.2.length≤1073741824):
  Calls Tryz.prog 8 #[.int .i64 r,v] w fun e w'=> ∃s,e= .returned (.tuple #[.agg #[.int .i64 (whM r d).1,s], .bool (whB r d)])∧OwII w.heap.size w'.heap.size s (whM r d).2 w'∧Below w.heap.size w w':=by
 have H:=qA h;obtain⟨s,rfl,hd,ha⟩:=h;obtain⟨L,xs⟩:=d;have HS:=qA ha;obtain⟨A,cap,rfl,aj,hm,_⟩:=ha;unfold maxLen at hm;have HI:=qA hd;clear hd;rcases eb:whB r (L,xs) with _ | _
 ·have F:Hid (whM r (L,xs)=(0,[])):=qA (by unfold whM;rw[eb];rfl);go_enter Tryz.func8,Tryz.ntmps8
  go_wp2_with fail;have C:=fun W (h:qCv W (.agg #[.int .i64 L, .slice A xs.length cap]) (L,xs))=>qBw r _ (L,xs) W h hl;simp only[eb] at C;refine(C _ (H.out.below (by repeat(first | exact .refl _ _ | (refine BxS ?_ _) | (refine qB ?_ _) | (refine zab ?_) | (refine BxA ?_ _))))).mono ?_
  rintro e w1 ⟨rfl,b1⟩;clear C;have B1:=qA b1;obtain⟨aC,d7⟩:=qBM b1;have ao:=b1.size;simp at ao
  have cG:w.heap.size+1<w1.heap.size:=tO;clear b1;have d5:w1.cell? ⟨w.heap.size+1,0,none⟩=some (.int .i64 0):=by rw[aC _ _ (by simp)];simp[go_sem]
  have dN:w1.cell? ⟨w.heap.size+1,1,none⟩=some (.slice none 0 0):=by rw[aC _ _ (by simp)];simp[go_sem]
  go_wp2;refine bodyPost_ret (v:= .tuple #[.agg #[.int .i64 0, .slice none 0 0], .bool false]) (by simp[results,Tryz.results8,go_sem,cG,d5,dN]) rfl ⟨_,by rw[F.out],by rw[F.out];exact qBs _ _ _,?_⟩;exact(by repeat(first | exact .refl _ _ | (refine BxS ?_ _) | (refine qB ?_ _) | (refine zab ?_) | (refine BxA ?_ _) | (refine BxT ?_ (Hid.out B1))))
 ·have jU:=qCi eb;have cS:=qP.1 jU.1;have hL:=(qAB jU.1).1 jU.2;have Gc: -3≤L:=by have:=hL.2.1;simp at this;omega
  have Ei:L≤3:=by have:=hL.2.2;simp at this;omega
  obtain⟨n,rfl⟩: ∃n:Nat,r=n:=⟨r.toNat,tO⟩;have F:Hid (whM n (L,xs)=((n:Int),qAi (L,xs) n)):=qA (by unfold whM;rw[eb];rfl);have rr:Hid (wrap64 (-L)= -L):=qA (IntWalk.wrap64_in _ ⟨tO,tO⟩);have pC:n≤3:=tO;have fH:1≤n:=tO;clear jU cS hL hr;go_enter Tryz.func8,Tryz.ntmps8
  go_wp2_with fail;have C:=fun W (h:qCv W (.agg #[.int .i64 L, .slice A xs.length cap]) (L,xs))=>qBw n _ (L,xs) W h hl;simp only[eb] at C;refine(C _ (H.out.below (by repeat(first | exact .refl _ _ | (refine BxS ?_ _) | (refine qB ?_ _) | (refine zab ?_) | (refine BxA ?_ _))))).mono ?_
  rintro e w1 ⟨rfl,b1⟩;clear C;have B1:=qA b1;obtain⟨aC,d7⟩:=qBM b1;have ao:=b1.size;simp at ao
  have cG:w.heap.size+1<w1.heap.size:=tO;have kK:w.heap.size<w1.heap.size:=tO;clear b1;go_wp2_with fail;go_loopw [7] (fun i wr=> ∃k:Nat,k≤n∧i= .int .i64 (k+1)∧ ∃s:Value,wr.cell? ⟨w1.heap.size,0,none⟩=some (.int .i64 n)∧wr.cell? ⟨w1.heap.size,1,none⟩=some s∧(∀o,wr.frozen? ⟨w1.heap.size,o,none⟩=false)∧OwII (w1.heap.size+1) wr.heap.size s (qAi (L,xs) k) wr∧Below w1.heap.size w1 wr∧w1.heap.size<wr.heap.size)
   (fun i _=>n+1-(intOf i).toNat)
  case atStart=>
   refine⟨0,zad _,rfl, .slice none 0 0,by simp[go_sem],by simp[go_sem],by simp[go_sem],qBs _ _ _,(by repeat(first | exact .refl _ _ | (refine BxS ?_ _) | (refine qB ?_ _) | (refine zab ?_) | (refine BxA ?_ _))),by simp⟩
  case round=>
   obtain⟨k,hk,rfl,s,h0,h1,hf,hs,bC,bn⟩:=hrel;have aH:=qDb (L,xs) k;have aI:=qA bC;have aR:=qA hs;obtain⟨A5,ay,rfl,_⟩:=hs.len;obtain⟨gC,lG⟩:=qBM bC;by_cases ac:k<n
   ·have tH:wr.cell? ⟨w.heap.size,0,none⟩=some (.int .i64 L):=by rw[gC _ _ kK,aC _ _ (by simp;omega)];simp[go_sem]
    have gQ:wr.cell? ⟨w.heap.size,1,none⟩=some (.slice A xs.length cap):=by rw[gC _ _ kK,aC _ _ (by simp;omega)];simp[go_sem]
    have dp:Below w.heap.size w wr:=by
     refine zaO ?_ (bC.mono tO);exact(by repeat(first | exact .refl _ _ | (refine BxS ?_ _) | (refine qB ?_ _) | (refine zab ?_) | (refine BxA ?_ _) | (refine BxT ?_ (Hid.out B1))))
    have io:=qA (HS.out.below dp);have yh:w.heap.size<wr.heap.size:=tO;have cY:Hid (qAi (L,xs) (k+1)=qAi (L,xs) k++ [qEw (L,xs) ((k:Int)+1)]):=qA rfl;have tT:Hid (qEw (L,xs) ((k:Int)+1)=(if hasB xs (-((k:Int)+1)) then [-L] else [])++ [(k:Int)+1]++(if hasB xs ((k:Int)+1) then [L] else [])):=qA (by unfold qEw;rw[rr.out]);have sS:Hid (I64 (-L)):=qA ⟨tO,tO⟩;have gM:Hid (I64 ((k:Int)+1)):=qA ⟨tO,tO⟩;clear gC lG aC d7 hs bC;have iT:(qAi (L,xs) k).length≤3:=tO;clear aH;generalize qAi (L,xs) k=acc at aR cY iT h1;have jS:Hid (I64 L):=qA ⟨tO,tO⟩;have yy:=tH;have eN:Hid (OwI (wr.alloc (.cells #[] 3)) wr.heap.size (.slice (some ⟨wr.heap.size,0,none⟩) 0 0) []):=qA (qW wr [] qS (by simp) (zaa _));have bv:Hid (Below wr.heap.size wr (wr.alloc (.cells #[] 3))):=qA ((zaj _ _).alloc (zaa _) _);have bN:Hid (∀(W:World) (p1 p2:Bool),hasB xs (-((k:Int)+1))=p1→True):=qA fun _ _ _ _=>trivial;rcases e1:hasB xs (-((k:Int)+1)) with _ | _<;>rcases e2:hasB xs ((k:Int)+1) with _ | _
    all_goals
     have mp:=tT.out;rw[e1,e2] at mp;simp only[zaC,if_false,if_true,zaM,zar] at mp;have ji:=qA mp;have CN:=fun W (h:ArgI W (.slice A xs.length cap) xs)=>qBK _ xs (-((k:Int)+1)) W h hl;rw[e1] at CN;have CNN:=qA CN;have CP:=fun W (h:ArgI W (.slice A xs.length cap) xs)=>qBK _ xs ((k:Int)+1) W h hl;rw[e2] at CP;have CPP:=qA CP;clear mp CN CP e1 e2 tT bN;go_wp2_with fail;generalize wr.alloc (.cells #[] 3)=wa at eN bv⊢;have GK:=bv.out.size;obtain⟨Ds,lM⟩:=qBM bv.out;refine(CNN.out _ (io.out.below bv.out)).mono ?_
     rintro e w' ⟨rfl,rfl⟩
    ·go_wp2_with (first
      | (go_at_call 54;refine(CPP.out _ (io.out.below B1.out)).mono ?_;rintro e w' ⟨rfl,rfl⟩)
      | ((at_builtin;refine qN rfl (.tmp 33) (.tmp 35) rfl _ _ _ (OwI.alloc eN.out _) rfl _ _ rfl (qG _ _ _) gM.out (by first | omega | (simp<;>omega)) (by first | omega | (simp<;>omega)) ?_;intro v1 eq o1 g1 p1);have B1:=qA (qQ bv.out tO eN.out.1 (zaa _) g1);obtain⟨aC,d7⟩:=qBM B1.out;have ao:=B1.out.size;have O1:=qA o1;obtain⟨A1,c1,rfl,_⟩:=OwI.form o1;clear o1 g1 p1)
      | (at_builtin;refine qAV rfl (.tmp 47) (.tmp 49) rfl (w0:=wr) aR.out tO (B1.out.alloc tO _) rfl _ _ _ rfl (O1.out.alloc _) (zaa _) (qG _ _ _) rfl tO ?_;intro vz wz oz gz;obtain⟨Az,cz,rfl,_⟩:=OwnL.len oz;obtain⟨dY,dE⟩:=qj gz (b:=w1.heap.size) tO (fun h=>by have:=(aR.out.lt h).1;omega);have cG:=gz.size;simp at cG;have gw:w1.heap.size<wz.heap.size:=tO;have OZ:=qA oz;have GZ:=qA gz;clear oz gz))
     go_roundw
     case rel=>
      have q0:=(dY 0).trans ((B1.out.cell (p:=⟨w1.heap.size,0,none⟩) bn).trans h0);have q1:=(dY 1).trans ((B1.out.cell (p:=⟨w1.heap.size,1,none⟩) bn).trans h1);have qf:=fun o=>(dE o).trans ((B1.out.frozen (p:=⟨w1.heap.size,o,none⟩) bn).trans (hf o));refine⟨k+1,tO,by go_num, .slice Az (acc.length+1) cz,by simp[go_sem,q0],by simp[go_sem,q1],by simp[go_sem,qf],?_,?_,by simp;omega⟩
      ·rw[cY.out,ji.out];have h9:=OZ.out;simp only[zac,zah] at h9;have h:=h9.keep EI.stable (w':=wz.setCell ⟨w1.heap.size,1,none⟩ (.slice Az (acc.length+1) cz)) fun b hb _=>by rw[qL _ _ _ b (by show b≠w1.heap.size;omega)]
       exact h.widen (zaa _) (by simp)
      ·exact(((aI.out.trans (B1.out.mono tO)).alloc tO _).grown GZ.out (by simp;omega) (fun j hj=>zaq (aR.out.lt hj).1)).setCell (zaa _) _
     case measure=>simp[intOf];omega
    ·go_wp2_with (first
      | (go_at_call 54;refine(CPP.out _ (io.out.below B1.out)).mono ?_;rintro e w' ⟨rfl,rfl⟩)
      | ((at_builtin;refine qN rfl (.tmp 33) (.tmp 35) rfl _ _ _ (OwI.alloc eN.out _) rfl _ _ rfl (qG _ _ _) gM.out (by first | omega | (simp<;>omega)) (by first | omega | (simp<;>omega)) ?_;intro v1 eq o1 g1 p1);have B1:=qA (qQ bv.out tO eN.out.1 (zaa _) g1);obtain⟨aC,d7⟩:=qBM B1.out;have ao:=B1.out.size;have O1:=qA o1;obtain⟨A1,c1,rfl,_⟩:=OwI.form o1;clear o1 g1 p1)
      | ((at_builtin;refine qN rfl (.tmp 41) (.tmp 44) rfl _ _ _ (OwI.alloc O1.out _) rfl _ _ rfl (qG _ _ _) jS.out (by first | omega | (simp<;>omega)) (by first | omega | (simp<;>omega)) ?_;intro v2 wv2 o2 g2 p2);have B2:=qA (qQ B1.out tO O1.out.1 (zaa _) g2);obtain⟨dG,dq⟩:=qBM B2.out;have aP:=B2.out.size;have O2:=qA o2;obtain⟨A2,c2,rfl,_⟩:=OwI.form o2;clear o2 g2 p2)
      | (at_builtin;refine qAV rfl (.tmp 47) (.tmp 49) rfl (w0:=wr) aR.out tO (B2.out.alloc tO _) rfl _ _ _ rfl (O2.out.alloc _) (zaa _) (qG _ _ _) rfl tO ?_;intro vz wz oz gz;obtain⟨Az,cz,rfl,_⟩:=OwnL.len oz;obtain⟨dY,dE⟩:=qj gz (b:=w1.heap.size) tO (fun h=>by have:=(aR.out.lt h).1;omega);have cG:=gz.size;simp at cG;have gw:w1.heap.size<wz.heap.size:=tO;have OZ:=qA oz;have GZ:=qA gz;clear oz gz))
     go_roundw
     case rel=>
      have q0:=(dY 0).trans ((B2.out.cell (p:=⟨w1.heap.size,0,none⟩) bn).trans h0);have q1:=(dY 1).trans ((B2.out.cell (p:=⟨w1.heap.size,1,none⟩) bn).trans h1);have qf:=fun o=>(dE o).trans ((B2.out.frozen (p:=⟨w1.heap.size,o,none⟩) bn).trans (hf o));refine⟨k+1,tO,by go_num, .slice Az (acc.length+1) cz,by simp[go_sem,q0],by simp[go_sem,q1],by simp[go_sem,qf],?_,?_,by simp;omega⟩
      ·rw[cY.out,ji.out];have h9:=OZ.out;simp only[zac,zah] at h9;have h:=h9.keep EI.stable (w':=wz.setCell ⟨w1.heap.size,1,none⟩ (.slice Az (acc.length+1) cz)) fun b hb _=>by rw[qL _ _ _ b (by show b≠w1.heap.size;omega)]
       exact h.widen (zaa _) (by simp)
      ·exact(((aI.out.trans (B2.out.mono tO)).alloc tO _).grown GZ.out (by simp;omega) (fun j hj=>zaq (aR.out.lt hj).1)).setCell (zaa _) _
     case measure=>simp[intOf];omega
    ·go_wp2_with (first
      | (go_at_call 54;refine(CPP.out _ (io.out.below B2.out)).mono ?_;rintro e w' ⟨rfl,rfl⟩)
      | ((at_builtin;refine qN rfl (.tmp 27) (.tmp 31) rfl _ _ _ (OwI.alloc eN.out _) rfl _ _ rfl (qG _ _ _) sS.out (by first | omega | (simp<;>omega)) (by first | omega | (simp<;>omega)) ?_;intro v1 eq o1 g1 p1);have B1:=qA (qQ bv.out tO eN.out.1 (zaa _) g1);obtain⟨aC,d7⟩:=qBM B1.out;have ao:=B1.out.size;have O1:=qA o1;obtain⟨A1,c1,rfl,_⟩:=OwI.form o1;clear o1 g1 p1)
      | ((at_builtin;refine qN rfl (.tmp 33) (.tmp 35) rfl _ _ _ (OwI.alloc O1.out _) rfl _ _ rfl (qG _ _ _) gM.out (by first | omega | (simp<;>omega)) (by first | omega | (simp<;>omega)) ?_;intro v2 wv2 o2 g2 p2);have B2:=qA (qQ B1.out tO O1.out.1 (zaa _) g2);obtain⟨dG,dq⟩:=qBM B2.out;have aP:=B2.out.size;have O2:=qA o2;obtain⟨A2,c2,rfl,_⟩:=OwI.form o2;clear o2 g2 p2)
      | (at_builtin;refine qAV rfl (.tmp 47) (.tmp 49) rfl (w0:=wr) aR.out tO (B2.out.alloc tO _) rfl _ _ _ rfl (O2.out.alloc _) (zaa _) (qG _ _ _) rfl tO ?_;intro vz wz oz gz;obtain⟨Az,cz,rfl,_⟩:=OwnL.len oz;obtain⟨dY,dE⟩:=qj gz (b:=w1.heap.size) tO (fun h=>by have:=(aR.out.lt h).1;omega);have cG:=gz.size;simp at cG;have gw:w1.heap.size<wz.heap.size:=tO;have OZ:=qA oz;have GZ:=qA gz;clear oz gz))
     go_roundw
     case rel=>
      have q0:=(dY 0).trans ((B2.out.cell (p:=⟨w1.heap.size,0,none⟩) bn).trans h0);have q1:=(dY 1).trans ((B2.out.cell (p:=⟨w1.heap.size,1,none⟩) bn).trans h1);have qf:=fun o=>(dE o).trans ((B2.out.frozen (p:=⟨w1.heap.size,o,none⟩) bn).trans (hf o));refine⟨k+1,tO,by go_num, .slice Az (acc.length+1) cz,by simp[go_sem,q0],by simp[go_sem,q1],by simp[go_sem,qf],?_,?_,by simp;omega⟩
      ·rw[cY.out,ji.out];have h9:=OZ.out;simp only[zac,zah] at h9;have h:=h9.keep EI.stable (w':=wz.setCell ⟨w1.heap.size,1,none⟩ (.slice Az (acc.length+1) cz)) fun b hb _=>by rw[qL _ _ _ b (by show b≠w1.heap.size;omega)]
       exact h.widen (zaa _) (by simp)
      ·exact(((aI.out.trans (B2.out.mono tO)).alloc tO _).grown GZ.out (by simp;omega) (fun j hj=>zaq (aR.out.lt hj).1)).setCell (zaa _) _
     case measure=>simp[intOf];omega
    ·go_wp2_with (first
      | (go_at_call 54;refine(CPP.out _ (io.out.below B2.out)).mono ?_;rintro e w' ⟨rfl,rfl⟩)
      | ((at_builtin;refine qN rfl (.tmp 27) (.tmp 31) rfl _ _ _ (OwI.alloc eN.out _) rfl _ _ rfl (qG _ _ _) sS.out (by first | omega | (simp<;>omega)) (by first | omega | (simp<;>omega)) ?_;intro v1 eq o1 g1 p1);have B1:=qA (qQ bv.out tO eN.out.1 (zaa _) g1);obtain⟨aC,d7⟩:=qBM B1.out;have ao:=B1.out.size;have O1:=qA o1;obtain⟨A1,c1,rfl,_⟩:=OwI.form o1;clear o1 g1 p1)
      | ((at_builtin;refine qN rfl (.tmp 33) (.tmp 35) rfl _ _ _ (OwI.alloc O1.out _) rfl _ _ rfl (qG _ _ _) gM.out (by first | omega | (simp<;>omega)) (by first | omega | (simp<;>omega)) ?_;intro v2 wv2 o2 g2 p2);have B2:=qA (qQ B1.out tO O1.out.1 (zaa _) g2);obtain⟨dG,dq⟩:=qBM B2.out;have aP:=B2.out.size;have O2:=qA o2;obtain⟨A2,c2,rfl,_⟩:=OwI.form o2;clear o2 g2 p2)
      | ((at_builtin;refine qN rfl (.tmp 41) (.tmp 44) rfl _ _ _ (OwI.alloc O2.out _) rfl _ _ rfl (qG _ _ _) jS.out (by first | omega | (simp<;>omega)) (by first | omega | (simp<;>omega)) ?_;intro v3 wv3 o3 g3 p3);have B3:=qA (qQ B2.out tO O2.out.1 (zaa _) g3);obtain⟨jx,Fv⟩:=qBM B3.out;have mC:=B3.out.size;have O3:=qA o3;obtain⟨A3,c3,rfl,_⟩:=OwI.form o3;clear o3 g3 p3)
      | (at_builtin;refine qAV rfl (.tmp 47) (.tmp 49) rfl (w0:=wr) aR.out tO (B3.out.alloc tO _) rfl _ _ _ rfl (O3.out.alloc _) (zaa _) (qG _ _ _) rfl tO ?_;intro vz wz oz gz;obtain⟨Az,cz,rfl,_⟩:=OwnL.len oz;obtain⟨dY,dE⟩:=qj gz (b:=w1.heap.size) tO (fun h=>by have:=(aR.out.lt h).1;omega);have cG:=gz.size;simp at cG;have gw:w1.heap.size<wz.heap.size:=tO;have OZ:=qA oz;have GZ:=qA gz;clear oz gz))
     go_roundw
     case rel=>
      have q0:=(dY 0).trans ((B3.out.cell (p:=⟨w1.heap.size,0,none⟩) bn).trans h0);have q1:=(dY 1).trans ((B3.out.cell (p:=⟨w1.heap.size,1,none⟩) bn).trans h1);have qf:=fun o=>(dE o).trans ((B3.out.frozen (p:=⟨w1.heap.size,o,none⟩) bn).trans (hf o));refine⟨k+1,tO,by go_num, .slice Az (acc.length+1) cz,by simp[go_sem,q0],by simp[go_sem,q1],by simp[go_sem,qf],?_,?_,by simp;omega⟩
      ·rw[cY.out,ji.out];have h9:=OZ.out;simp only[zac,zah] at h9;have h:=h9.keep EI.stable (w':=wz.setCell ⟨w1.heap.size,1,none⟩ (.slice Az (acc.length+1) cz)) fun b hb _=>by rw[qL _ _ _ b (by show b≠w1.heap.size;omega)]
       exact h.widen (zaa _) (by simp)
      ·exact(((aI.out.trans (B3.out.mono tO)).alloc tO _).grown GZ.out (by simp;omega) (fun j hj=>zaq (aR.out.lt hj).1)).setCell (zaa _) _
     case measure=>simp[intOf];omega
   ·obtain rfl:k=n:=tO
    have d5:wr.cell? ⟨w.heap.size+1,0,none⟩=some (.int .i64 0):=by rw[gC _ _ cG,aC _ _ (by simp)];simp[go_sem]
    have dN:wr.cell? ⟨w.heap.size+1,1,none⟩=some (.slice none 0 0):=by rw[gC _ _ cG,aC _ _ (by simp)];simp[go_sem]
    have Cc: ∀o,wr.frozen? ⟨w.heap.size+1,o,none⟩=false:=fun o=>by rw[lG _ _ cG,d7 _ _ (by simp)];simp[go_sem]
    have dp:Below w.heap.size w wr:=by
     refine zaO ?_ (aI.out.mono tO);exact(by repeat(first | exact .refl _ _ | (refine BxS ?_ _) | (refine qB ?_ _) | (refine zab ?_) | (refine BxA ?_ _) | (refine BxT ?_ (Hid.out B1))))
    have dl:=qA dp;have yi:w.heap.size+1<wr.heap.size:=tO;clear gC lG aC d7 hs bC dp;go_wp2;refine bodyPost_ret (v:= .tuple #[.agg #[.int .i64 k, .slice A5 k ay], .bool true]) (by simp[results,Tryz.results8,go_sem,yi,d5,dN]) rfl ⟨_,by rw[F.out],?_,?_⟩
    ·rw[F.out];have h0:=aR.out;rw[aH] at h0;have h:OwII (w1.heap.size+1) wr.heap.size (.slice A5 k ay) (qAi (L,xs) k) ((wr.setCell ⟨w.heap.size+1,0,none⟩ (.int .i64 k)).setCell ⟨w.heap.size+1,1,none⟩ (.slice A5 k ay)):=
      h0.keep EI.stable fun b hb _=>by rw[qL _ _ _ b (by show b≠w.heap.size+1;omega),qL _ _ _ b (by show b≠w.heap.size+1;omega)]
     exact h.widen tO (by simp)
    ·exact(by repeat(first | exact .refl _ _ | (refine BxS ?_ _) | (refine qB ?_ _) | (refine zab ?_) | (refine BxA ?_ _) | (refine BxT ?_ (Hid.out dl))))
theorem qKL {r:Int} (d:WhD) (hr:I64 r):I64 (whM r d).1:=by
 unfold whM;split
 ·exact hr
 ·unfold I64;simp
theorem qAj (v u:Value) (xs ys:List Int) (w:World) (h:ArgI w v xs) (h':ArgI w u ys):
  Calls Tryz.prog 96 #[v,u] w fun e w'=>e= .returned (.bool (decide (xs=ys)))∧ ∃n,w'=w.drewN n:=by
 obtain⟨A,cap,rfl,aj,hm,hr,hb⟩:=h;obtain⟨A',cap',rfl,cV,ch,mW,aE⟩:=h';unfold maxLen at hm ch;by_cases ai:xs.length=ys.length
 ·have hd:((xs.length:Int) != (ys.length:Int))=false:=by simp[ai]
  have bk:=qA ai;clear ai;go_enter Tryz.func96,Tryz.ntmps96
  go_wp2;go_loopw [5] (fun i wr=> ∃k:Nat,k≤xs.length∧i= .int .i64 k∧xs.take k=ys.take k∧ ∃n,wr=w.drewN n) (fun i _=>xs.length-(intOf i).toNat)
  case atStart=>exact⟨0,zad _,rfl,by simp,0,rfl⟩
  case round=>
   obtain⟨k,hk,rfl,cP,n,rfl⟩:=hrel;have bN:=qA cP;clear cP;by_cases ac:k<xs.length
   ·obtain⟨b,off,rfl,hc⟩:=hb tO;have an:k<ys.length:=by have:=bk.out;omega
    obtain⟨b',off',rfl,cH⟩:=aE tO;have ae:=hc k ac;have aB:=cH k an;clear hc cH hb aE;by_cases hx:xs[k]=ys[k]
    ·have aQ:(xs[k] != ys[k])=false:=by simp[hx]
     have HX:=qA hx;clear hx;go_wp2;go_quiet (fail)
     go_wp2;go_roundw
     case rel=>exact⟨k+1,tO,by go_num,qAn bN.out ac an HX.out,_,rfl⟩
     case measure=>simp[intOf];omega
    ·have aQ:(xs[k] != ys[k])=true:=by simp[hx]
     go_wp2;go_quiet (fail)
     go_wp2;go_ret;exact⟨qC (by symm;rw[decide_eq_false_iff_not];rintro rfl;exact hx rfl),_,zaS _ _ _⟩
   ·obtain rfl:k=xs.length:=tO
    go_wp2;go_ret;refine⟨qC ?_,n,rfl⟩;have h1:=bN.out;rw[zae,bk.out,zae] at h1;simp[h1]
 ·have hd:((xs.length:Int) != (ys.length:Int))=true:=by simp;omega
  go_enter Tryz.func96,Tryz.ntmps96
  go_wp2;go_ret;exact⟨qC (by symm;rw[decide_eq_false_iff_not];rintro rfl;exact ai rfl),0,rfl⟩
theorem qEI (v u:Value) (xs ys:List Int) (w:World) (h:ArgI w v xs) (h':ArgI w u ys):
  Calls Tryz.prog 95 #[v,u] w fun e w'=>e= .returned (.bool (decide (xs=ys)))∧ ∃n,w'=w.drewN n:=by
 obtain⟨A,cap,rfl,aj,hm,hr,hb⟩:=h;obtain⟨A',cap',rfl,cV,ch,mW,aE⟩:=h';unfold maxLen at hm ch;by_cases ai:xs.length=ys.length
 ·have hd:((xs.length:Int) != (ys.length:Int))=false:=by simp[ai]
  have bk:=qA ai;clear ai;go_enter Tryz.func95,Tryz.ntmps95
  go_wp2;go_loopw [13] (fun i wr=> ∃k:Nat,k≤xs.length∧i= .int .i64 k∧xs.take k=ys.take k∧ ∃n,wr=w.drewN n) (fun i _=>xs.length-(intOf i).toNat)
  case atStart=>exact⟨0,zad _,rfl,by simp,0,rfl⟩
  case round=>
   obtain⟨k,hk,rfl,cP,n,rfl⟩:=hrel;have bN:=qA cP;clear cP;by_cases ac:k<xs.length
   ·obtain⟨b,off,rfl,hc⟩:=hb tO;have an:k<ys.length:=by have:=bk.out;omega
    obtain⟨b',off',rfl,cH⟩:=aE tO;have ae:=hc k ac;have aB:=cH k an;clear hc cH hb aE;by_cases hx:xs[k]=ys[k]
    ·have aQ:(xs[k] != ys[k])=false:=by simp[hx]
     have HX:=qA hx;clear hx;go_wp2;go_quiet (fail)
     go_wp2;go_roundw
     case rel=>exact⟨k+1,tO,by go_num,qAn bN.out ac an HX.out,_,rfl⟩
     case measure=>simp[intOf];omega
    ·have aQ:(xs[k] != ys[k])=true:=by simp[hx]
     go_wp2;go_quiet (fail)
     go_wp2;go_ret;exact⟨qC (by symm;rw[decide_eq_false_iff_not];rintro rfl;exact hx rfl),_,zaS _ _ _⟩
   ·obtain rfl:k=xs.length:=tO
    go_wp2;go_ret;refine⟨qC ?_,n,rfl⟩;have h1:=bN.out;rw[zae,bk.out,zae] at h1;simp[h1]
 ·have hd:((xs.length:Int) != (ys.length:Int))=true:=by simp;omega
  go_enter Tryz.func95,Tryz.ntmps95
  go_wp2;go_ret;exact⟨qC (by symm;rw[decide_eq_false_iff_not];rintro rfl;exact ai rfl),0,rfl⟩
def okL (es:List Int):Bool:=es.all (fun e=>decide (lt e≠ []))
theorem qPk {es:List Int} (i:Nat) (hi:i<es.length) (h:lt es[i]= []):okL es=false:=by
 unfold okL;simp
 exact⟨es[i],by simp,h⟩
theorem qPR {es:List Int} (h: ∀j (hj:j<es.length),lt es[j]≠ []):okL es=true:=by
 unfold okL;simp
 intro x hx;obtain⟨j,hj,rfl⟩:=List.getElem_of_mem hx;exact h j hj
theorem qPS (e:Int):(lt e).length≤1:=by
 rcases qDY e with ⟨_,h⟩ | ⟨_,h⟩ | ⟨_,h⟩ | ⟨_,h⟩ | ⟨_,h⟩ | ⟨_,h⟩ | ⟨_,h⟩<;>rw[h]<;>simp
theorem qHU (e:Int) (h:lt e≠ []): ∃c,lt e= [c]:=by
 have h1:=qPS e;match hc:lt e with
 | []=>exact absurd hc h
 | [c]=>exact⟨c,rfl⟩
 | a::b::l=>rw[hc] at h1;simp at h1
theorem qLw (es:List Int) (k:Nat) (h:k<es.length):(es.take (k+1)).flatMap lt=(es.take k).flatMap lt++lt es[k]:=by
 rw[zaf h,zaw];simp
theorem qIr (es:List Int):(es.flatMap lt).length≤es.length:=by
 induction es with
 | nil=>simp
 | cons e es ih=>have:=qPS e;simp only[zau,zac,zaz];omega
def fmtW (es:List Int):List UInt8:=if okL es then(if es= [] then [49] else es.flatMap lt) else []
theorem qOd {es:List Int} (i:Nat) (hi:i<es.length) (h:lt es[i]= []):fmtW es= []:=by unfold fmtW;rw[qPk i hi h];rfl
theorem qPi {es:List Int} (h: ∀j (hj:j<es.length),lt es[j]≠ []) (h0:es≠ []):fmtW es=es.flatMap lt:=by unfold fmtW;rw[qPR h,if_pos rfl,if_neg h0]
theorem qQT {x y:Int} (hx:lt x≠ []) (h:lt x=lt y):x=y:=by
 rcases qDY x with ⟨rfl,e⟩ | ⟨rfl,e⟩ | ⟨rfl,e⟩ | ⟨rfl,e⟩ | ⟨rfl,e⟩ | ⟨rfl,e⟩ | ⟨_,e⟩<;>
 rcases qDY y with ⟨rfl,f⟩ | ⟨rfl,f⟩ | ⟨rfl,f⟩ | ⟨rfl,f⟩ | ⟨rfl,f⟩ | ⟨rfl,f⟩ | ⟨_,f⟩<;>
 first | rfl | exact absurd e hx | (rw[e,f] at h;simp at h)
theorem qKi: ∀ {xs ys:List Int},(∀x∈xs,lt x≠ [])→(∀x∈ys,lt x≠ [])→xs.flatMap lt=ys.flatMap lt→xs=ys
 | [],[],_,_,_=>rfl
 | [],y::ys,_,h2,h=>by
   obtain⟨c,hc⟩:=qHU y (h2 y (by simp));simp[hc] at h
 | x::xs,[],h1,_,h=>by
   obtain⟨c,hc⟩:=qHU x (h1 x (by simp));simp[hc] at h
 | x::xs,y::ys,h1,h2,h=>by
   obtain⟨c,hc⟩:=qHU x (h1 x (by simp));obtain⟨d,hd⟩:=qHU y (h2 y (by simp));simp only[zau,hc,hd,List.cons_append,zaM,List.cons.injEq] at h;have e:x=y:=qQT (by rw[hc];simp) (by rw[hc,hd,h.1]);rw[e,qKi (fun z hz=>h1 z (by simp[hz])) (fun z hz=>h2 z (by simp[hz])) h.2]
theorem qBz (v:Value) (es:List Int) (w:World) (h:ArgI w v es) (hl:es.length≤1073741824):
  Calls Tryz.prog 85 #[v] w fun e w'=>e= .returned (str (fmtW es))∧w=w':=by
 obtain⟨A,cap,rfl,aj,hm,hr,hb⟩:=h;have HR:=qA hr;have HB:=qA hb;clear hr hb;by_cases h0:es= []
 ·subst h0;go_enter Tryz.func85,Tryz.ntmps85
  go_wp2;go_ret;exact⟨by rfl,rfl⟩
 ·have uo:0<es.length:=List.length_pos_iff.2 h0;have H0:=qA h0;have hd:((es.length:Int)==0)=false:=by simp;omega
  clear h0;go_enter Tryz.func85,Tryz.ntmps85
  go_wp2;go_loop [3,12] (fun s i=> ∃(k:Nat) (t:List UInt8),k≤es.length∧i= .int .i64 k∧s= .string ⟨t.toArray⟩∧t=(es.take k).flatMap lt∧ ∀j (hj:j<es.length),j<k→lt es[j]≠ []) (fun _ i=>es.length-(intOf i).toNat)
  case atStart=>exact⟨0,[],zad _,rfl,rfl,by simp,fun j hj h=>absurd h tO⟩
  case round=>
   obtain⟨k,t,hk,rfl,rfl,ht,ar⟩:=hrel;have lH:t.length≤k:=by
    have h1:=qIr (es.take k);have h2:=List.length_take_le k es;rw[←ht] at h1;omega
   have HT:=qA ht;have bG:=qA ar;clear ht ar;by_cases ac:k<es.length
   ·obtain⟨b,off,rfl,hc⟩:=HB.out tO;have ae:=hc k ac;have HS:=qA (qLw es k ac);have HI:=qA (HR.out es[k] (by simp));have tN:=qA (qOd k ac);have a6:Hid (lt es[k]≠ []→ ∀j (hj:j<es.length),j<k+1→lt es[j]≠ []):=fun F j hj gJ=>by
     rcases zaD (zaF gJ) with h | rfl
     ·exact bG.out j hj h
     ·exact F
    clear hc;generalize es[k]=e at ae HS HI tN a6;have LT:=qA (fun w=>qHC e w HI.out);by_cases fe:lt e= []
    ·have an:=LT.out;rw[fe] at an;have LT':=qA an;have F:=qA (tN.out fe);clear an LT fe;unfold str at LT';go_wp2_with (go_at_call 59;refine(LT'.out _).mono ?_;rintro e w' ⟨rfl,rfl⟩)
     go_ret;exact⟨by rw[F.out];rfl,rfl⟩
    ·obtain⟨c,js⟩:=qHU e fe;have an:=LT.out;rw[js] at an;have LT':=qA an;have CC:=qA js;have F:=qA (a6.out fe);clear an LT fe js;unfold str at LT';go_wp2_with (go_at_call 59;refine(LT'.out _).mono ?_;rintro e w' ⟨rfl,rfl⟩)
     go_round
     case rel=>exact⟨k+1,t++ [c],tO,by go_num,qOC _ _,by rw[HS.out,HT.out,CC.out],F.out⟩
     case measure=>simp[intOf];omega
   ·obtain rfl:k=es.length:=tO
    have F:=qA (qPi (fun j hj=>bG.out j hj hj) H0.out);go_wp2;go_ret;exact⟨by rw[F.out,HT.out,zae];rfl,rfl⟩
theorem qKl {B:List (List Int)} {j:Nat} (h:j<B.length):qAt B ((j:Int)+1)= [B[j]]:=by
 unfold qAt;rw[if_pos tO];simp[zas,h]
theorem qLN {B:List (List Int)} {j:Nat} (h:j<B.length):qAt B (-((j:Int)+1))= [invL B[j]]:=by
 unfold qAt;rw[if_neg tO,if_pos tO];have e:(- -((j:Int)+1)-1).toNat=j:=tO;rw[e];simp[zas,h]
theorem qIS {B:List (List Int)} {k:Int} (h1: ¬(1≤k∧k≤B.length)) (h2: ¬(-(B.length:Int)≤k∧k≤ -1)):qAt B k= []:=by
 unfold qAt;rw[if_neg h1,if_neg tO]
theorem qHS (B:List (List Int)) (k:Int):(∃j:Nat,j<B.length∧k=(j:Int)+1)∨(∃j:Nat,j<B.length∧k= -((j:Int)+1))∨(¬(1≤k∧k≤B.length)∧ ¬(-(B.length:Int)≤k∧k≤ -1)):=by
 by_cases h1:1≤k∧k≤B.length
 ·exact .inl ⟨(k-1).toNat,tO,tO⟩
 ·by_cases h2: -(B.length:Int)≤k∧k≤ -1
  ·exact .inr (.inl ⟨(-k-1).toNat,tO,tO⟩)
  ·exact .inr (.inr ⟨h1,h2⟩)
theorem qCr (u v:Value) (B:List (List Int)) (l:List Int) (w:World) (h:RdII w u B) (h':RdI w v l) (hB:B.length≤1048576) (hb: ∀b∈B,b.length≤1048576) (hl:l.length≤200):
  Calls Tryz.prog 66 #[u,v] w fun e w'=> ∃r,e= .returned r∧OwI w' w.heap.size r (expL B l)∧Below w.heap.size w w':=by
 have H:=qA h;have H':=qA h';have HB:=qA hb;obtain⟨A,cap,rfl,aj,hm,hA⟩:=h.form;have HA:=qA hA;obtain⟨A',cap',rfl,cV,ch,_⟩:=h'.arg;unfold maxLen at hm ch;clear h h' hA hb;have Gy:(l.length:Int)≤200:=tO;have DZ: ¬(200:Int)<(l.length:Int):=tO;have F:Hid (expL B l=qEX (l.flatMap (qAt B))):=qA (by unfold expL qDg;rw[zaP hl]);have cd:Hid (qu (l.flatMap (qAt B))≤1073741824):=qA (by
  have h1:=qFz (qGw HB.out l);have h2:=zam 1048576 (qEu B l);omega)
 go_enter Tryz.func66,Tryz.ntmps66
 go_wp2_with fail;go_loopw [5,15] (fun ps i wr=> ∃k:Nat,k≤l.length∧i= .int .i64 k∧qAx w.heap.size wr ps ((l.take k).flatMap (qAt B))∧Below w.heap.size w wr)
  (fun _ i _=>l.length-(intOf i).toNat)
 case atStart=>exact⟨0,zad _,rfl,qAx.nil w (zaa _),(by repeat(first | exact .refl _ _ | (refine BxS ?_ _) | (refine qB ?_ _) | (refine zab ?_) | (refine BxA ?_ _)))⟩
 case round=>
  obtain⟨k,hk,rfl,hp,aa⟩:=hrel;have ak:=aa.size;have dD:=qEu B (l.take k);have th:((l.take k).flatMap (qAt B)).length≤200:=by rw[zap] at dD;omega
  by_cases ac:k<l.length
  ·obtain⟨b,off,rfl,aM,hc⟩:=(H'.out.below aa).at tO;have ae:=hc k ac;have HS:=qA (qLV B l k ac);have HP:=qA hp;have l7:=qA aa;have HX:=qA (H'.out.2 l[k] (by simp));clear hc hp;generalize (l.take k).flatMap (qAt B)=acc at HS HP th;generalize l[k]=e at ae HS HX;obtain⟨A3,aU,rfl,gx,nu⟩:=HP.out.form;rcases qHS B e with ⟨j,hj,rfl⟩ | ⟨j,hj,rfl⟩ | ⟨n1,n2⟩
   ·have FE:=qA (qKl hj);obtain⟨b2,dL,A4,jm,rfl,bD,aN,_,_,kT⟩:=(H.out.below aa).at hj;have jk:=qA kT;have t1:inB ((j:Int)+1) 1 (B.length:Int)=true:=qP.2 tO;clear kT aa;go_wp2_with (first
     | (go_at_call 56;refine(qX _ _ _ _).mono ?_;rintro e w' ⟨rfl,rfl⟩)
     | (at_builtin;refine qJe rfl (.tmp 24) (.tmp 30) rfl w.heap.size _ _ (HP.out.alloc _) rfl _ _ _ rfl (jk.out.alloc _) (qG _ _ _) tO (by simp;omega) ?_;intro v1 w1 o1 g1 _))
    go_roundw
    case rel=>exact⟨k+1,tO,by go_num,by rw[HS.out,FE.out];exact o1,(l7.out.alloc ak _).grown g1 (by simp;omega) (fun j hj=>(HP.out.lt j hj).1)⟩
    case measure=>simp[intOf];omega
   ·have FE:=qA (qLN hj);obtain⟨b2,dL,A4,jm,rfl,bD,aN,_,_,kT⟩:=(H.out.below aa).at hj;have jk:=qA kT;have Cm:=HB.out B[j] (by simp);have t1:inB (-((j:Int)+1)) 1 (B.length:Int)=false:=qJs.2 tO;have t2:inB (-((j:Int)+1)) (-(B.length:Int)) (-1)=true:=qP.2 tO;clear kT aa;go_wp2_with (go_at_call 56;refine(qX _ _ _ _).mono ?_;rintro e w' ⟨rfl,rfl⟩)
    refine(qEF _ B[j] _ jk.out tO).mono ?_
    rintro e w1 ⟨r1,rfl,o1,b1⟩;have O1:=qA o1;have B1:=qA b1;have aA:=b1.size;obtain⟨A5,ay,rfl,_⟩:=OwI.form o1;clear o1 b1;go_wp2_with (at_builtin;refine qJe rfl (.tmp 38) (.tmp 46) rfl w.heap.size _ _ ((HP.out.below B1.out).alloc _) rfl _ _ _ rfl (O1.out.rd.alloc _) (qG _ _ _) tO (by simp;omega) ?_;intro v2 w2 o2 g2 _)
    go_roundw
    case rel=>exact⟨k+1,tO,by go_num,by rw[HS.out,FE.out];exact o2,((l7.out.trans (B1.out.mono ak)).alloc tO _).grown g2 (by simp;omega) (fun j hj=>(HP.out.lt j hj).1)⟩
    case measure=>simp[intOf];omega
   ·have FE:=qA (qIS n1 n2);have t1:inB e 1 (B.length:Int)=false:=qJs.2 tO;have t2:inB e (-(B.length:Int)) (-1)=false:=qJs.2 n2;clear n1 n2 aa;go_wp2_with (go_at_call 56;refine(qX _ _ _ _).mono ?_;rintro e w' ⟨rfl,rfl⟩)
    go_roundw
    case rel=>exact⟨k+1,tO,by go_num,by rw[HS.out,FE.out];simpa using HP.out,l7.out⟩
    case measure=>simp[intOf];omega
  ·obtain rfl:k=l.length:=tO
   rw[zae] at hp th;have HP:=qA hp;clear hp;go_wp2_with fail;refine(qGt _ _ _ HP.out.rd cd.out tO).mono ?_
   rintro e w1 ⟨r1,rfl,o1,b1⟩;have O1:=qA o1;have B1:=qA b1;clear o1 b1;go_wp2;go_ret;exact⟨_,rfl,by rw[F.out];exact O1.out.mono ak,aa.trans (B1.out.mono ak)⟩
theorem qLv (L:List (List Int)):L.flatten.length=qu L:=by simp[qu,List.length_flatten]
theorem qJp (B:List (List Int)) (l:List Int) (k:Nat) (hb: ∀b∈B,b.length≤1048576) (hl:l.length≤200):((l.take k).flatMap (qAt B)).flatten.length≤209715200:=by
 rw[qLv];have h1:=qFz (qGw hb (l.take k));have h2:=zam 1048576 (qEu B (l.take k));have h3:(l.take k).length≤200:=by rw[zap];omega
 have h4:=zam 1048576 h3;omega
theorem qAW (u v:Value) (B:List (List Int)) (l:List Int) (w:World) (h:RdII w u B) (h':RdI w v l) (hB:B.length≤1048576) (hb: ∀b∈B,b.length≤1048576) (hl:l.length≤200):
  Calls Tryz.prog 70 #[u,v] w fun e w'=> ∃r,e= .returned r∧OwI w' w.heap.size r (expL B l)∧Below w.heap.size w w':=by
 have H:=qA h;have H':=qA h';have HB:=qA hb;obtain⟨A,cap,rfl,aj,hm,hA⟩:=h.form;have HA:=qA hA;obtain⟨A',cap',rfl,cV,ch,_⟩:=h'.arg;unfold maxLen at hm ch;clear h h' hA hb;have F:Hid (expL B l=redL [] (l.flatMap (qAt B)).flatten):=qA (by unfold expL qDg qEX;rw[zaP hl]);go_enter Tryz.func70,Tryz.ntmps70
 go_wp2_with fail;go_loopw [5,6] (fun out i wr=> ∃k:Nat,k≤l.length∧i= .int .i64 k∧OwI wr w.heap.size out ((l.take k).flatMap (qAt B)).flatten∧Below w.heap.size w wr)
  (fun _ i _=>l.length-(intOf i).toNat)
 case atStart=>exact⟨0,zad _,rfl,qW w [] qS (by simp) (zaa _),(by repeat(first | exact .refl _ _ | (refine BxS ?_ _) | (refine qB ?_ _) | (refine zab ?_) | (refine BxA ?_ _)))⟩
 case round=>
  obtain⟨k,hk,rfl,hp,aa⟩:=hrel;have ak:=aa.size;have dD:=qJp B l k HB.out hl;by_cases ac:k<l.length
  ·obtain⟨b,off,rfl,aM,hc⟩:=(H'.out.below aa).at tO;have ae:=hc k ac;have HS:Hid (((l.take (k+1)).flatMap (qAt B)).flatten=((l.take k).flatMap (qAt B)).flatten++(qAt B l[k]).flatten):=qA (by rw[qLV B l k ac,List.flatten_append]);have HP:=qA hp;have l7:=qA aa;have HX:=qA (H'.out.2 l[k] (by simp));have Ce:(k:Int)<200:=tO;have bT:(k:Int)<(l.length:Int):=tO;clear hc hp;generalize ((l.take k).flatMap (qAt B)).flatten=acc at HS HP dD;generalize l[k]=e at ae HS HX;obtain⟨A3,aU,rfl,gx,nu,_⟩:=HP.out.form;have aQ:=HX.out.1;have bU:=HX.out.2;rcases qHS B e with ⟨j,hj,rfl⟩ | ⟨j,hj,hej⟩ | ⟨n1,n2⟩
   ·have FE:=qA (qKl hj);obtain⟨b2,dL,A4,jm,rfl,bD,aN,Cm,E6,kT⟩:=(H.out.below aa).at hj;have jk:=qA kT;have pB:=HB.out B[j] (by simp);have t1:(0:Int)<(j:Int)+1:=tO;have t2:(j:Int)+1≤(B.length:Int):=tO;clear kT aa;go_wp2_with (at_builtin;refine qi rfl (.tmp 33) (.tmp 41) rfl w.heap.size _ _ HP.out rfl _ _ jk.out rfl tO ak ?_;intro v1 w1 o1 g1 _)
    go_roundw
    case rel=>exact⟨k+1,tO,by go_num,by rw[HS.out,FE.out];simpa using o1,l7.out.grown g1 ak (fun j hj=>(HP.out.1.lt j hj).1)⟩
    case measure=>simp[intOf];omega
   ·have FE:Hid (qAt B e= [invL B[j]]):=qA (by rw[hej];exact qLN hj);obtain⟨b2,dL,A4,jm,rfl,bD,aN,Cm,E6,kT⟩:=(H.out.below aa).at hj;have jk:=qA kT;have pB:=HB.out B[j] (by simp);have t1: ¬(0:Int)<e:=tO;have t2:e<0:=tO;have t3: -(B.length:Int)≤e:=tO;have t4:(-e-1).toNat=j:=tO;have t5:0≤ -e-1:=tO;have t6: -e-1<(B.length:Int):=tO;have t7: -9223372036854775808<e:=tO;clear kT aa hej;go_wp2_with fail;refine(qAg _ B[j] _ jk.out tO).mono ?_
    rintro e w1 ⟨r1,rfl,o1,b1⟩;have O1:=qA o1;have B1:=qA b1;have aA:=b1.size;have jj:(invL B[j]).length≤1048576:=by rw[qIy];exact pB
    obtain⟨A5,ay,rfl,_⟩:=OwI.form o1;clear o1 b1;go_wp2_with (at_builtin;refine qi rfl (.tmp 59) (.tmp 69) rfl w.heap.size _ _ (HP.out.below B1.out) rfl _ _ O1.out.rd rfl tO tO ?_;intro v2 w2 o2 g2 _)
    go_roundw
    case rel=>exact⟨k+1,tO,by go_num,by rw[HS.out,FE.out];simpa using o2,(l7.out.trans (B1.out.mono ak)).grown g2 tO (fun j hj=>(HP.out.1.lt j hj).1)⟩
    case measure=>simp[intOf];omega
   ·have FE:=qA (qIS n1 n2);have HN:Hid (True):=qA trivial;rcases Int.lt_or_le 0 e with t1 | t1
    ·have t2: ¬e≤(B.length:Int):=tO;have t3: ¬e<0:=tO;clear n1 n2 aa;go_wp2;go_roundw
     case rel=>exact⟨k+1,tO,by go_num,by rw[HS.out,FE.out];simpa using HP.out,l7.out⟩
     case measure=>simp[intOf];omega
    ·have Kq: ¬0<e:=tO;rcases Int.lt_or_le e 0 with t2 | t2
     ·have t3: ¬ -(B.length:Int)≤e:=tO;clear n1 n2 aa;go_wp2;go_roundw
      case rel=>exact⟨k+1,tO,by go_num,by rw[HS.out,FE.out];simpa using HP.out,l7.out⟩
      case measure=>simp[intOf];omega
     ·have Jw: ¬e<0:=tO;clear n1 n2 aa;go_wp2;go_roundw
      case rel=>exact⟨k+1,tO,by go_num,by rw[HS.out,FE.out];simpa using HP.out,l7.out⟩
      case measure=>simp[intOf];omega
  ·obtain rfl:k=l.length:=tO
   rw[zae] at hp dD;have HP:=qA hp;clear hp;go_wp2_with fail;refine(qAO _ _ _ HP.out.rd tO).mono ?_
   rintro e w1 ⟨r1,rfl,o1,b1⟩;have O1:=qA o1;have B1:=qA b1;clear o1 b1;go_wp2;go_ret;exact⟨_,rfl,by rw[F.out];exact O1.out.mono ak,aa.trans (B1.out.mono ak)⟩
def rxOk (l:List Int) (x:Int):Bool:= !hasB l x&& !hasB l (-x)
def rxL (ls l:List Int):List (List Int):=(ls.filter (rxOk l)).map fun x=>l++ [x]
def rlL (ls:List Int):Nat→List (List Int)
 | 0=> [[]]
 | n+1=>(rlL ls n).flatMap (rxL ls)
def rdL (ls:List Int):Nat→List Int→List (List Int)
 | 0,l=> [l]
 | n+1,l=>(rxL ls l).flatMap (rdL ls n)
def relM (n:Nat) (l:List Int):MoD:=((n:Int),l.map fun x=> [x])
def relF (r:Int):List MoD:=if inB r 1 3 then(rlL (qD r.toNat) r.toNat).map (relM r.toNat) else []
theorem qQW (ls:List Int): ∀n m,(rlL ls m).flatMap (rdL ls n)=rlL ls (m+n)
 | 0,m=>by
   have:rdL ls 0=fun l=> [l]:=by funext l;rfl
   rw[this];simp
 | n+1,m=>by
   have h:=qQW ls n (m+1);have e:rlL ls (m+1)=(rlL ls m).flatMap (rxL ls):=rfl;have e2:rdL ls (n+1)=fun l=>(rxL ls l).flatMap (rdL ls n):=by funext l;rfl
   rw[e2,←List.flatMap_assoc,←e,h,Nat.add_right_comm m 1 n];rfl
theorem qQh (ls:List Int) (n:Nat):rdL ls n []=rlL ls n:=by
 have:=qQW ls n 0
 simpa[rlL] using this
theorem qJt (ls l:List Int):(rxL ls l).length≤ls.length:=by
 unfold rxL;rw[zaB];exact zav _ _
theorem qFk {α β:Type} (L:List α) (f:α→List β) (M:Nat) (h: ∀x∈L,(f x).length≤M):(L.flatMap f).length≤L.length*M:=by
 induction L with
 | nil=>simp
 | cons a L ih=>
   have h1:=h a (by simp);have h2:=ih fun x hx=>h x (by simp[hx]);simp only[zau,zac,zaz,Nat.succ_mul];omega
theorem qMa (ls:List Int) (h6:ls.length≤6): ∀n l,(rdL ls n l).length≤6^n
 | 0,l=>by simp[rdL]
 | n+1,l=>by
   have h:=qFk (rxL ls l) (rdL ls n) (6^n) fun x _=>qMa ls h6 n x;have h2:=qJt ls l;have h3:(rxL ls l).length*6^n≤6*6^n:=zam _ tO;have e:rdL ls (n+1) l=(rxL ls l).flatMap (rdL ls n):=rfl;rw[e,Nat.pow_succ];omega
theorem qFq (ls:List Int): ∀n,∀l∈rlL ls n,l.length=n∧ ∀x∈l,x∈ls
 | 0,l,h=>by simp[rlL] at h;subst h;simp
 | n+1,l,h=>by
   obtain⟨a,ha,hl⟩:=zaH.1 (show l∈(rlL ls n).flatMap (rxL ls) from h);obtain⟨x,hx,rfl⟩:=List.mem_map.1 hl;obtain⟨h1,h2⟩:=qFq ls n a ha;refine⟨by simp[h1],fun y hy=> ?_⟩;rcases zaA.1 hy with hy | hy
   ·exact h2 y hy
   ·simp at hy;subst hy;exact(List.mem_filter.1 hx).1
theorem qQB (ls l:List Int) (f:List Int→List (List Int)) (j:Nat) (h:j<ls.length):
  (((ls.take (j+1)).filter (rxOk l)).map fun x=>l++ [x]).flatMap f=(((ls.take j).filter (rxOk l)).map fun x=>l++ [x]).flatMap f++(if rxOk l ls[j] then f (l++ [ls[j]]) else []):=by
 rw[zaf h,zaQ,zaN,zaw];congr 1
 rcases hb:rxOk l ls[j] with _ | _<;>simp[hb]
def EM:El MoD:=fun w cs d F=> ∃s,cs= [.int .i64 d.1,s]∧I64 d.1∧OwLf EI 24 1 w s d.2 F
theorem EM.stable:qDL EM:=by
 rintro w w' cs d F ⟨s,rfl,hd,ho⟩ hb;exact⟨s,rfl,hd,ho.stable EI.stable hb⟩
theorem qQK:(Tryz.prog.info? 31).map (fun i=>(i.zero,i.size,i.bytes))=some (some (.agg #[.int .i64 0, .slice none 0 0]),2,32):=by kernel_rfl
abbrev OMS (lo hi:Nat) (v:Value) (ds:List MoD) (w:World):Prop:=OwnL EM 31 2 lo hi w v ds
theorem qPs (w:World) {lo:Nat} (h:lo≤w.heap.size):OMS lo (w.heap.size+1) (.slice (some ⟨w.heap.size,0,none⟩) 0 0) [] (w.alloc (.cells #[] 31)):=by
 refine OwnL.nil ?_ fun b hb=> ?_
 ·have:=zax (e:=31) (size:=2) (base:=0) w #[] 0 (zad _) (by unfold maxLen;omega) (by simp)
  simpa using this
 ·simp[zak] at hb;omega
theorem qHo {w0 w:World} {v:Value} {L:List MoD} {F:List Nat} {ops:Array Oper} {rest:List Oper} {o:Oper} {a:Act} {Q:Exit→Act→World→Prop} (bO:o.guard=none) (s x:Operand)
  (ho:o.op= .call {callee:= .builtin .append,args:= #[s,x],argTypes:= #[67,67]})
  (ab:OwLf EM 31 2 w0 v L F) (cF:F.Nodup) (hF: ∀b∈F,b<w0.heap.size) (aa:Below w0.heap.size w0 w) (hs:a.eval s=v) (b:Nat) (z:Value) (d:MoD) {lo hi:Nat} (hx:a.eval x= .slice (some ⟨b,0,none⟩) 1 1)
  (hel:OwII lo hi z d.2 w) (bg:I64 d.1) (ee:w0.heap.size≤lo) (hhi:hi≤w.heap.size) (hc: ∀j u,[Value.int .i64 d.1,z][j]? =some u→w.cell? ⟨b,j,none⟩=some u) (hz:z.oneCell'=true) (hl:L.length≤1073741824)
  (h: ∀v' w' F',OwLf EM 31 2 w' v' (L++ [d]) F'→F'.Nodup→(∀b∈F',(b∈F∨w0.heap.size≤b)∧b<w'.heap.size)→w.grownBy w' v.ownBlock→wpList Tryz.prog ops Q rest (a.put o.dst v') w'):
  wpList Tryz.prog ops Q (o::rest) a w:=by
 obtain⟨i0,a7,aS,ao,aP⟩:=info_parts qQK;obtain⟨Fe,h1,h2,h3⟩:=hel;refine qIg EM.stable bO s x ho Tryz.underlying67 a7 aS ao aP rfl (by decide) (by decide) ab cF hF aa hs b [.int .i64 d.1,z] d Fe hx ⟨z,rfl,bg,h1⟩ rfl h2 (fun k hk=> ?_) hc ?_ hl h
 ·have:=h3 k hk;omega
 ·intro u hu;simp at hu
  rcases hu with rfl | rfl
  ·rfl
  ·exact hz
theorem OwLf.formR {α:Type} {E:El α} {t:TypeId} {width:Nat} {w:World} {v:Value} {ds:List α} {F:List Nat} (h:OwLf E t width w v ds F): ∃A m cap,v= .slice A m cap:=by
 obtain⟨es,h1,h2,h3,rfl⟩:=h;obtain⟨A,cap,hv,_⟩:=qr h3;exact⟨A,_,cap,hv⟩
theorem OwnL.of_f {α:Type} {E:El α} {t:TypeId} {width:Nat} {w:World} {v:Value} {ds:List α} {F:List Nat} {lo hi:Nat} (h:OwLf E t width w v ds F) (hn:F.Nodup) (hF: ∀b∈F,lo≤b∧b<hi):OwnL E t width lo hi w v ds:=⟨F,h,hn,hF⟩
structure FrF (bo:Nat) (F:List Nat) (w w':World):Prop where
 os:w'.os=w.os
 tape:w'.tape=w.tape
 output:w'.output=w.output
 size:w.heap.size≤w'.heap.size
 block: ∀b,b<w.heap.size→b≠bo→b∉F→w'.heap[b]? =w.heap[b]?
theorem FrF.refl (bo:Nat) (F:List Nat) (w:World):FrF bo F w w:=⟨rfl,rfl,rfl,zaa _,fun _ _ _ _=>rfl⟩
theorem FrF.bel {bo:Nat} {F:List Nat} {w w1 w2:World} (h:FrF bo F w w1) (hb:Below w1.heap.size w1 w2):FrF bo F w w2:=
 ⟨hb.os.trans h.os,hb.tape.trans h.tape,hb.output.trans h.output,zaR h.size hb.size,fun b h1 h2 h3=>(hb.block b (zal h1 h.size)).trans (h.block b h1 h2 h3)⟩
theorem FrF.then_ {bo:Nat} {F F':List Nat} {w w1 w2:World} (h:FrF bo F w w1) (h':FrF bo F' w1 w2) (hF: ∀b∈F',b∈F∨w.heap.size≤b):FrF bo F w w2:=
 ⟨h'.os.trans h.os,h'.tape.trans h.tape,h'.output.trans h.output,zaR h.size h'.size,fun b h1 h2 h3=>(h'.block b (zal h1 h.size) h2 fun hb=>(hF b hb).elim h3 tO).trans (h.block b h1 h2 h3)⟩
structure MoI (n br bo bm:Nat) (w:World) (acc:List MoD) (F:List Nat):Prop where
 hr:w.heap[br]? =some (.cells #[.int .i64 n] 3 (0,0))
 hm:w.heap[bm]? =some (.cells #[.func (.func 97) #[] #[.pointer (some ⟨br,0,none⟩), .pointer (some ⟨bo,0,none⟩), .pointer (some ⟨bm,0,none⟩)]] 105 (0,0))
 ho: ∃v,w.heap[bo]? =some (.cells #[v] 67 (0,0))∧OwLf EM 31 2 w v acc F
 nd:F.Nodup
 lt: ∀b∈F,b<w.heap.size
 nr:br∉F
 no:bo∉F
 nm:bm∉F
 dr:br≠bo
 dm:bm≠bo
theorem MoI.bel {n br bo bm:Nat} {w w':World} {acc:List MoD} {F:List Nat} (h:MoI n br bo bm w acc F) (hb:Below w.heap.size w w'):MoI n br bo bm w' acc F:=by
 obtain⟨hr,hm,⟨v,ho,hl⟩,nd,lt,nr,no,nm,dr,dm⟩:=h;exact⟨(hb.block br (qe hr)).trans hr,(hb.block bm (qe hm)).trans hm,⟨v,(hb.block bo (qe ho)).trans ho,hl.stable EM.stable fun b dS=>hb.block b (lt b dS)⟩,nd,fun b dS=>zal (lt b dS) hb.size,nr,no,nm,dr,dm⟩
theorem MoI.put {n br bo bm:Nat} {w0 w1 w2:World} {acc:List MoD} {F F':List Nat} {v v':Value} {d:MoD} (h:MoI n br bo bm w0 acc F) (hv:w0.heap[bo]? =some (.cells #[v] 67 (0,0))) (hm: ∀b,v.ownBlock=some b→b∈F)
  (hb:Below w0.heap.size w0 w1) (hg:w1.grownBy w2 v.ownBlock) (h1:OwLf EM 31 2 w2 v' (acc++ [d]) F') (h2:F'.Nodup) (h3: ∀b∈F',(b∈F∨w0.heap.size≤b)∧b<w2.heap.size):
  MoI n br bo bm (w2.setCell ⟨bo,0,none⟩ v') (acc++ [d]) F'∧FrF bo F w0 (w2.setCell ⟨bo,0,none⟩ v')∧ ∀b∈F',b∈F∨w0.heap.size≤b:=by
 have jG:=qe hv;have aA:=hb.size;have bK:=hg.size;have hk: ∀b,b<w0.heap.size→b∉F→w2.heap[b]? =w0.heap[b]? :=fun b ac dS=>(hg.block b tO fun e=>dS (hm b e.symm)).trans (hb.block b ac);have dy:bo∉F':=fun dS=>(h3 bo dS).1.elim h.no tO;have ai: ∀b,b<w0.heap.size→b∉F→b∉F':=fun b ac dS aE=>(h3 b aE).1.elim dS tO;refine⟨⟨?_,?_,⟨v',one_setCell ((hk bo jG h.no).trans hv),h1.stable EM.stable fun b dS=>qL _ _ _ b fun e=>dy (by rw[←show b=bo from e];exact dS)⟩,h2,fun b dS=> ?_,ai br (qe h.hr) h.nr,dy,ai bm (qe h.hm) h.nm,h.dr,h.dm⟩,⟨?_,?_,?_,?_,fun b ac ai dS=> ?_⟩,fun b dS=>(h3 b dS).1⟩
 ·rw[qL _ _ _ br h.dr,hk br (qe h.hr) h.nr];exact h.hr
 ·rw[qL _ _ _ bm h.dm,hk bm (qe h.hm) h.nm];exact h.hm
 ·have:=(h3 b dS).2;simpa using this
 ·exact hg.os.trans hb.os
 ·exact hg.tape.trans hb.tape
 ·exact hg.output.trans hb.output
 ·have:(w2.setCell ⟨bo,0,none⟩ v').heap.size=w2.heap.size:=by simp
  omega
 ·rw[qL _ _ _ b ai,hk b ac dS]
theorem OwI.blk {w:World} {base b:Nat} {v:Value} {xs:List Int} (h:OwI w base v xs) (hb:v.ownBlock=some b):base≤b∧b<w.heap.size:=h.1.lt b hb
theorem qNh (n br bo bm:Nat) (l:List Int) (lv:Value) (acc:List MoD) (F:List Nat) (w:World) (hn:n≤3) (hl:l.length=n) (h:MoI n br bo bm w acc F) (ha:acc.length≤1000000) (jt:RdI w lv l):
  Calls Tryz.prog 97 #[lv, .pointer (some ⟨br,0,none⟩), .pointer (some ⟨bo,0,none⟩), .pointer (some ⟨bm,0,none⟩)] w fun e w'=>
   e= .returned (.tuple #[])∧ ∃F',MoI n br bo bm w' (acc++ [relM n l]) F'∧FrF bo F w w'∧ ∀b∈F',b∈F∨w.heap.size≤b:=by
 have H:=qA h;have HL:=qA jt;have HI:=qA jt.2;obtain⟨hr,hm,⟨v,ho,hO⟩,nd,lt,nr,no,nm,_,_⟩:=h;have lO:=qA ho;have oT: ∀b,v.ownBlock=some b→b∈F:=fun b hb=>hO.mem hb;have pp:=qA oT;have rH:=qA nd;have gE:=qA lt;have c0:=cell_of_one hr;have c1:=cell_of_one ho;have f1:=free_of_one ho;have gQ:=qe hr;have wW:=qe ho;have HH:=qA hO;obtain⟨A,cap,rfl,aj,dQ,_,_⟩:=jt.arg;unfold maxLen at dQ;clear hr hm ho hO jt oT nd lt nr no nm;have dO:=qA hl;have he:((l.length:Int)==(n:Int))=true:=by simp;omega
 clear hl;go_enter Tryz.func97,Tryz.ntmps97
 go_wp2_with fail;go_loopw [18] (fun i wr=> ∃k:Nat,k≤l.length∧i= .int .i64 k∧ ∃s:Value,wr.cell? ⟨w.heap.size,0,none⟩=some (.int .i64 n)∧wr.cell? ⟨w.heap.size,1,none⟩=some s∧(∀o,wr.frozen? ⟨w.heap.size,o,none⟩=false)∧OwII (w.heap.size+1) wr.heap.size s ((l.take k).map fun x=> [x]) wr∧Below w.heap.size w wr∧w.heap.size<wr.heap.size)
   (fun i _=>l.length-(intOf i).toNat)
 case atStart=>
  refine⟨0,zad _,rfl, .slice none 0 0,by simp[go_sem],by simp[go_sem],by simp[go_sem],qBs _ _ _,(by repeat(first | exact .refl _ _ | (refine BxS ?_ _) | (refine qB ?_ _) | (refine zab ?_) | (refine BxA ?_ _))),by simp⟩
 case round=>
  obtain⟨k,hk,rfl,s,h0,h1,hf,hs,bC,bn⟩:=hrel;clear he;have aI:=qA bC;have aR:=qA hs;obtain⟨A5,ay,rfl,_⟩:=hs.len;by_cases ac:k<l.length
  ·obtain⟨b,off,rfl,aM,hc⟩:=(HL.out.below bC).at tO;have ae:=hc k ac;have HX:Hid (I64 l[k]):=qA (HI.out _ (zaI ac));have HT:Hid ((l.take (k+1)).map (fun x=> [x])=(l.take k).map (fun x=> [x])++ [[l[k]]]):=qA (by rw[zaf ac,zaN];rfl);have mh:((l.take k).map fun x=> [x]).length≤3:=by have:=dO.out;rw[zaB,zap];omega
   have jg:(k:Int)<(l.length:Int):=tO;have rF:(0:Int)≤(k:Int):=tO;clear hc hs bC;generalize l[k]=x at*;generalize (l.take k).map (fun x=> [x])=L0 at*;have yU:Hid (OwI (wr.alloc (.cells #[.int .i64 x] 3)) wr.heap.size (.slice (some ⟨wr.heap.size,0,none⟩) 1 1) [x]):=qA (qW wr [x] (by intro y hy;simp at hy;subst hy;exact HX.out) (by simp) (zaa _));have fy:Hid (((wr.alloc (.cells #[.int .i64 x] 3)).alloc (.cells #[.slice (some ⟨wr.heap.size,0,none⟩) 1 1] 24)).cell? ⟨wr.heap.size+1,0,none⟩=some (.slice (some ⟨wr.heap.size,0,none⟩) 1 1)):=qA (by simp[go_sem]);have ri:L0.length≤1073741824:=tO;have vy:Hid (Below wr.heap.size wr ((wr.alloc (.cells #[.int .i64 x] 3)).alloc (.cells #[.slice (some ⟨wr.heap.size,0,none⟩) 1 1] 24))):=qA (((zaj _ _).alloc (zaa _) _).alloc (by simp) _);have yr:(zan A5 L0.length ay).ownBlock≠some w.heap.size:=fun e=>by have:=(aR.out.lt e).1;omega
   have vR:=qA (vy.out.block _ bn);have q9:w.heap.size<((wr.alloc (.cells #[.int .i64 x] 3)).alloc (.cells #[.slice (some ⟨wr.heap.size,0,none⟩) 1 1] 24)).heap.size:=zal bn vy.out.size;go_wp2_with (at_builtin;refine qAV rfl (.tmp 23) (.tmp 26) rfl (w0:=wr) aR.out bn vy.out rfl _ _ [x] rfl (yU.out.alloc _) (zaa _) fy.out rfl ri ?_;intro vz wz oz gz;obtain⟨Az,cz,rfl,_⟩:=OwnL.len oz;have OZ:=qA oz;have GZ:=qA gz;have sQ:=qA ((gz.block _ q9 yr.symm).trans vR.out);have q0:wz.cell? ⟨w.heap.size,0,none⟩=some (.int .i64 n):=(zai (w:=wr) sQ.out).trans h0;have q1:wz.cell? ⟨w.heap.size,1,none⟩=some (.slice A5 L0.length ay):=(zai (w:=wr) sQ.out).trans h1;have qf:=(fun o=>(zat (w:=wr) sQ.out).trans (hf o));have J0:w.heap.size<wz.heap.size:=zal q9 gz.size;clear oz gz)
   go_roundw
   case rel=>
    refine⟨k+1,tO,by go_num, .slice Az (L0.length+1) cz,by simp[go_sem,q0],by simp[go_sem,q1],by simp[go_sem,qf],?_,?_,by simp;omega⟩
    ·rw[HT.out];have h9:=OZ.out;simp only[zac,zah] at h9;have h:=h9.keep EI.stable (w':=wz.setCell ⟨w.heap.size,1,none⟩ (.slice Az (L0.length+1) cz)) fun b hb _=>by rw[qL _ _ _ b (by show b≠w.heap.size;omega)]
     exact h.widen (zaa _) (by first | exact zaa _ | simp)
    ·exact((aI.out.trans (vy.out.mono tO)).grown GZ.out tO (fun j hj=>by have:=(aR.out.lt hj).1;omega)).setCell (zaa _) _
   case measure=>(first | omega | (simp[intOf];omega))
  ·obtain rfl:k=l.length:=tO
   have gf:Hid (OwII (w.heap.size+1) wr.heap.size (.slice A5 (relM n l).2.length ay) (relM n l).2 wr):=qA (by have h:=aR.out;rw[zae] at h;exact h);rw[zae] at h1;have fT:wr.cell? ⟨w.heap.size,1,none⟩=some (.slice A5 (relM n l).2.length ay):=h1;have o0:wr.cell? ⟨bo,0,none⟩=some v:=(aI.out.cell (p:=⟨bo,0,none⟩) wW).trans c1;have o1:wr.frozen? ⟨bo,0,none⟩=false:=(aI.out.frozen (p:=⟨bo,0,none⟩) wW).trans f1;have hI:I64 (relM n l).1:=(show I64 (n:Int) from⟨tO,tO⟩);have ee:w.heap.size≤w.heap.size+1:=tO;have ao:(zan A5 (relM n l).2.length ay).oneCell'=true:=rfl;have bv:Hid (Below w.heap.size w (wr.alloc (.cells #[.int .i64 n, .slice A5 (relM n l).2.length ay] 31))):=qA (aI.out.alloc tO _);have jZ:Hid (∀j u,[Value.int .i64 (relM n l).1, .slice A5 (relM n l).2.length ay][j]? =some u→(wr.alloc (.cells #[.int .i64 n, .slice A5 (relM n l).2.length ay] 31)).cell? ⟨wr.heap.size,j,none⟩=some u):=qA fun j u hj=>by
    match j,hj with
    | 0,hj=>simp at hj;subst hj;simp[go_sem];rfl
    | 1,hj=>simp at hj;subst hj;simp[go_sem]
   have en:Hid (OwII (w.heap.size+1) wr.heap.size (.slice A5 (relM n l).2.length ay) (relM n l).2 (wr.alloc (.cells #[.int .i64 n, .slice A5 (relM n l).2.length ay] 31))):=qA (gf.out.keep EI.stable fun b _ hb=>zag wr _ b hb);have fk:(relM n l).2.length=l.length:=by unfold relM;simp
   have Cu:wr.cell? ⟨w.heap.size,0,none⟩=some (.int .i64 n):=h0;clear hs bC h1 aR gf h0;generalize (relM n l).2.length=ln at*;clear fk;go_wp2_with (at_builtin;refine qHo rfl (.tmp 30) (.tmp 32) rfl HH.out rH.out gE.out bv.out rfl _ _ (relM n l) rfl en.out hI ee (by simp) jZ.out ao tO ?_;intro vz wz Fz oz1 oz2 oz3 gz;obtain⟨Av,mv,cv,rfl⟩:=OwLf.formR oz1;have pF:=qA oz1;have pT:=qA oz2;have lN:=qA oz3;have GZ:=qA gz;have JK:wz.frozen? ⟨bo,0,none⟩=false:=(zat (gz.block bo (by have:=bv.out.size;omega) (fun e=>H.out.no (pp.out _ e.symm)))).trans ((bv.out.frozen (p:=⟨bo,0,none⟩) wW).trans f1);have Kv:wz.cell? ⟨bo,0,none⟩=some v:=(zai (gz.block bo (by have:=bv.out.size;omega) (fun e=>H.out.no (pp.out _ e.symm)))).trans ((bv.out.cell (p:=⟨bo,0,none⟩) wW).trans c1);clear oz1 oz2 oz3 gz)
   obtain⟨m1,m2,m3⟩:=H.out.put lO.out pp.out bv.out GZ.out pF.out pT.out lN.out;exact bodyPost_ret (v:= .tuple #[]) (by simp[results,Tryz.results97,go_sem]) rfl ⟨rfl,Fz,m1,m2,m3⟩
theorem qPl (ls l:List Int) (h6:ls.length≤6) (k j:Nat) (f:List Int→MoD):((((((ls.take j).filter (rxOk l)).map fun x=>l++ [x]).flatMap (rdL ls k))).map f).length≤j*6^k:=by
 have h:=qFk (((ls.take j).filter (rxOk l)).map fun x=>l++ [x]) (rdL ls k) (6^k) fun x _=>qMa ls h6 k x;have h2:(((ls.take j).filter (rxOk l)).map fun x=>l++ [x]).length≤j:=by
  rw[zaB];have:=zav (rxOk l) (ls.take j)
  rw[zap] at this;omega
 have h3:=zam (6^k) h2;rw[zaB];omega
theorem qKj (n br bo bm:Nat) (fH:1≤n) (hn:n≤3): ∀(k:Nat) (l:List Int) (lv:Value) (acc:List MoD) (F:List Nat) (w:World),l.length+k=n→MoI n br bo bm w acc F→acc.length+6^k≤1000000→RdI w lv l→(∀b,lv.ownBlock=some b→b<w.heap.size∧b≠bo∧b∉F)→
  Calls Tryz.prog 97 #[lv, .pointer (some ⟨br,0,none⟩), .pointer (some ⟨bo,0,none⟩), .pointer (some ⟨bm,0,none⟩)] w fun e w'=>
   e= .returned (.tuple #[])∧ ∃F',MoI n br bo bm w' (acc++(rdL (qD n) k l).map (relM n)) F'∧FrF bo F w w'∧ ∀b∈F',b∈F∨w.heap.size≤b
 | 0,l,lv,acc,F,w,hl,h,ha,jt,_=>qNh n br bo bm l lv acc F w hn tO h tO jt
 | k+1,l,lv,acc,F,w,hl,h,ha,jt,pB=>by
   have IH:=qA (qKj n br bo bm fH hn k);have H:=qA h;have HL:=qA jt;have rN:=qA pB;have c0:=cell_of_one h.hr;have ej:=qe h.hr;have ep:=qe h.hm;have jG:bo<w.heap.size:=by obtain⟨v,hv,_⟩:=h.ho;exact qe hv
   obtain⟨A,cap,rfl,aj,dQ,_⟩:=jt.arg;unfold maxLen at dQ;have he:((l.length:Int)==(n:Int))=false:=by simp;omega
   have dO:=qA hl;have Fc:=qA ha;have Fl:l.length≤3:=tO;have nk:(qD n).length≤6:=by rw[qo];omega
   have Gx:1≤(qD n).length:=by rw[qo];omega
   have eM:Hid (∀x∈qD n,-3≤x∧x≤3):=qA (fun x hx=>by have:=qAm hx;omega);have cd:Hid (∀W:World,Calls Tryz.prog 81 #[.int .i64 n] W fun e w'=> ∃r,e= .returned r∧OwI w' W.heap.size r (qD n)∧Below W.heap.size W w'):=qA fun W=>qEA n W tO;generalize qD n=ls at*;clear hl ha jt pB h;go_enter Tryz.func97,Tryz.ntmps97
   go_wp2_with (go_at_call 81;refine(cd.out _).mono ?_;rintro e w2 ⟨EY,rfl,ol,bl⟩;have OL:=qA ol;have BL:=qA bl;obtain⟨A2,am,rfl,ky,nu,_,dC⟩:=OwI.form ol;obtain⟨g2,rfl,Ha,y9⟩:=dC Gx;clear ol bl)
   clear he;have bK:=BL.out.size;have ll:Hid (∀b∈F,b<w.heap.size):=qA H.out.lt;go_loopw [37] (fun i wr=> ∃j:Nat,j≤ls.length∧i= .int .i64 j∧ ∃F',MoI n br bo bm wr (acc++((((ls.take j).filter (rxOk l)).map fun x=>l++ [x]).flatMap (rdL ls k)).map (relM n)) F'∧FrF bo F w2 wr∧ ∀b∈F',b∈F∨w2.heap.size≤b)
    (fun i _=>ls.length-(intOf i).toNat)
   case atStart=>exact⟨0,zad _,rfl,F,by simpa using H.out.bel BL.out,FrF.refl _ _ _,fun b hb=> .inl hb⟩
   case round=>
    obtain⟨j,hj,rfl,F1,m1,f1,s1⟩:=hrel;have M1:=qA m1;have oq:=qA f1;have S1:=qA s1;have fL:=f1.size;clear m1 f1 s1;by_cases ac:j<ls.length
    ·have rV:wr.heap[g2]? =w2.heap[g2]? :=oq.out.block g2 y9 tO fun hb=>by have:=ll.out g2 hb;omega
     have ae:wr.cell? ⟨g2,j,none⟩=some (.int .i64 ls[j]):=(zai rV).trans (OL.out.cellAt j ac);have fY:Hid (RdI wr (.slice A l.length cap) l):=qA ⟨HL.out.1.mono fun b hb aK=>(oq.out.block b tO (rN.out b hb).2.1 (rN.out b hb).2.2).trans (BL.out.block b aK),HL.out.2⟩;have aQ:=(eM.out ls[j] (zaI ac)).1;have bU:=(eM.out ls[j] (zaI ac)).2;have HT:=qA (qQB ls l (rdL ls k) j ac);have vw:(j:Int)<(ls.length:Int):=tO;have Id:=qA (qPl ls l nk k j (relM n));have Fw:Hid ((j+1)*6^k≤6^(k+1)):=qA (by rw[Nat.pow_succ,Nat.mul_comm (6^k)];exact zam _ tO);have jU:rxOk l ls[j]=(!hasB l ls[j]&& !hasB l (-ls[j])):=rfl;have jv:=qA jU;clear rV jU;have lW:wr.cell? ⟨bm,0,none⟩=some (.func (.func 97) #[] #[.pointer (some ⟨br,0,none⟩), .pointer (some ⟨bo,0,none⟩), .pointer (some ⟨bm,0,none⟩)]):=cell_of_one M1.out.hm;generalize ls[j]=x at*;have Cq:IntKind.i64.wrap (-x)= -x:=by rw[IntKind.wrap_i64];omega
     have fx:=fun W (h:ArgI W (.slice A l.length cap) l)=>qBG _ l x W h tO;have fy:=fun W (h:ArgI W (.slice A l.length cap) l)=>qBG _ l (-x) W h tO;rcases e1:hasB l x with _ | _
     ·rcases e2:hasB l (-x) with _ | _
      ·have bG:Hid (rxOk l x=true):=qA (by rw[jv.out,e1,e2];rfl);rw[e1] at fx;rw[e2] at fy;have CP:=qA fx;have CN:=qA fy;clear fx fy e1 e2 jv;have ue:Hid (I64 x):=qA ⟨tO,tO⟩;have mL:bm<wr.heap.size:=qe M1.out.hm;have gZ:Hid (Below wr.heap.size wr wr.drew):=qA (zaj _ _).drew;have rL:Hid (Below wr.heap.size wr (wr.alloc (.cells #[.int .i64 x] 3)).drew):=qA (((zaj _ _).alloc (zaa _) _).drew);have sn:Hid (RdI (wr.alloc (.cells #[.int .i64 x] 3)).drew (.slice (some ⟨wr.heap.size,0,none⟩) 1 1) [x]):=qA (qHs wr x ue.out).drew;go_wp2_with (first
        | (go_at_call 52;(with_reducible refine(CP.out _ fY.out.arg).mono ?_);rintro e w' ⟨rfl,rfl⟩)
        | (go_at_call 52;(with_reducible refine(CN.out _ fY.out.arg).mono ?_);rintro e w' ⟨rfl,rfl⟩))
       go_region_held3 (fun w'=>w'.cell? ⟨bm,0,none⟩=some (.func (.func 97) #[] #[.pointer (some ⟨br,0,none⟩), .pointer (some ⟨bo,0,none⟩), .pointer (some ⟨bm,0,none⟩)]))
        (first | go_keep | exact s0)
        (first
         | (go_at_call 63;(with_reducible refine(qAC _ l _ (fY.out.below gZ.out) tO).mono ?_);rintro e w5 ⟨r5,rfl,o5,b5⟩;have aI:Hid (Below wr.heap.size wr w5):=qA (gZ.out.trans (b5.mono gZ.out.size));have fm:=qA (o5.mono gZ.out.size);have eQ:=aI.out.size;have s0:=(aI.out.cell (p:=⟨bm,0,none⟩) mL).trans lW;clear o5 b5 gZ rL sn)
         | (go_at_call 63;(with_reducible refine(qAC _ l _ (fY.out.below rL.out) tO).mono ?_);rintro e w5 ⟨r5,rfl,o5,b5⟩;have aI:Hid (Below wr.heap.size wr w5):=qA (rL.out.trans (b5.mono rL.out.size));have fm:=qA (o5.mono rL.out.size);have Du:=qA (sn.out.below b5);have eQ:=aI.out.size;have s0:=(aI.out.cell (p:=⟨bm,0,none⟩) mL).trans lW;clear o5 b5 gZ rL sn)
         | (refine qAN rfl (.tmp 54) (.tmp 56) rfl wr.heap.size _ l fm.out (by rfl) _ [x] Du.out (by rfl) (by simp;omega) eQ ?_;intro v6 w6 o6 g6 p6;have bR:Hid (Below wr.heap.size wr w6):=qA (aI.out.grown g6 eQ (fun c hc=>(fm.out.1.lt c hc).1));have fj:=qA o6;have fU:=bR.out.size;have s0:=(bR.out.cell (p:=⟨bm,0,none⟩) mL).trans lW;clear o6 g6 p6 fm Du)
         | (refine qAN rfl (.tmp 54) (.tmp 56) rfl wr.heap.size _ l (fm.out.alloc _) (by rfl) _ [x] (qHs _ x ue.out) (by rfl) (by simp;omega) (by simp;omega) ?_;intro v6 w6 o6 g6 p6;have bR:Hid (Below wr.heap.size wr w6):=qA ((aI.out.alloc eQ _).grown g6 (by simp;omega) (fun c hc=>(fm.out.1.lt c hc).1));have fj:=qA o6;have fU:=bR.out.size;have s0:=(bR.out.cell (p:=⟨bm,0,none⟩) mL).trans lW;clear o6 g6 p6 fm)
         | (go_at_call 97;(with_reducible refine(IH.out (l++ [x]) _ _ F1 w6 (by have:=dO.out;simp;omega) (M1.out.bel bR.out) (by have:=Id.out;have:=Fw.out;have:=Fc.out;rw[zac];rw[Nat.succ_mul] at*;omega) fj.out.rd (fun b hb=>⟨(fj.out.blk hb).2,fun e=>by have:=(fj.out.blk hb).1;have:=oq.out.size;omega,fun hF=>by have:=(fj.out.blk hb).1;have:=M1.out.lt b hF;omega⟩)).mono ?_);rintro e w7 ⟨rfl,F7,m7,f7,s7⟩;have M7:=qA m7;have nL:=qA f7;have S7:=qA s7;have s0:=cell_of_one m7.hm;clear m7 f7 s7))
       all_goals (
        go_wp2;go_roundw
        case rel=>
         refine⟨j+1,tO,by go_num,F7,?_,(oq.out.bel bR.out).then_ nL.out fun b hb=> ?_,fun b hb=> ?_⟩
         ·rw[HT.out,bG.out,if_pos rfl,zaN,←zaE];exact M7.out
         ·exact(S1.out b hb).imp id fun h=>tO
         ·rcases S7.out b hb with h | h
          ·exact S1.out b h
          ·exact .inr tO
        case measure=>(first | omega | (simp[intOf];omega)))
      ·have di:Hid (rxOk l x=false):=qA (by rw[jv.out,e1,e2];rfl);rw[e1] at fx;rw[e2] at fy;have CP:=qA fx;have CN:=qA fy;clear fx fy e1 e2 jv;go_wp2_with (first
        | (go_at_call 52;(with_reducible refine(CP.out _ fY.out.arg).mono ?_);rintro e w' ⟨rfl,rfl⟩)
        | (go_at_call 52;(with_reducible refine(CN.out _ fY.out.arg).mono ?_);rintro e w' ⟨rfl,rfl⟩))
       go_roundw
       case rel=>exact⟨j+1,tO,by go_num,F1,by rw[HT.out,di.out,if_neg (by decide),zar];exact M1.out,oq.out,S1.out⟩
       case measure=>(first | omega | (simp[intOf];omega))
     ·have di:Hid (rxOk l x=false):=qA (by rw[jv.out,e1];rfl);rw[e1] at fx;have CP:=qA fx;clear fx fy e1 jv;go_wp2_with (go_at_call 52;(with_reducible refine(CP.out _ fY.out.arg).mono ?_);rintro e w' ⟨rfl,rfl⟩)
      go_roundw
      case rel=>exact⟨j+1,tO,by go_num,F1,by rw[HT.out,di.out,if_neg (by decide),zar];exact M1.out,oq.out,S1.out⟩
      case measure=>(first | omega | (simp[intOf];omega))
    ·obtain rfl:j=ls.length:=tO
     have M2:=M1.out;rw[zae] at M2;have M3:Hid (MoI n br bo bm wr (acc++(rdL ls (k+1) l).map (relM n)) F1):=qA M2;have F4:Hid (FrF bo F w wr):=qA (((FrF.refl bo F w).bel BL.out).then_ oq.out fun b hb=> .inl hb);clear M2;go_wp2;go_end0
     exact⟨rfl,F1,M3.out,F4.out,fun b hb=>(S1.out b hb).imp_right fun h=>tO⟩
theorem qJq {w:World} {o:Obj} {N:Nat} (h:w.heap.size=N):(w.alloc o).heap[N]? =some o:=by
 subst h;show(w.heap.push o)[w.heap.size]? =some o
 simp
theorem qBD (r:Int) (w:World) (hr:I64 r):
  Calls Tryz.prog 48 #[.int .i64 r] w fun e w'=> ∃v,e= .returned v∧OMS w.heap.size w'.heap.size v (relF r) w'∧Below w.heap.size w w':=by
 have By: ∀(fn:Fn) (first cap:Array Value) (w:World),(Instr.makeFunc fn first cap).run Tryz.prog w= .ok (.func fn first cap) w:=fun _ _ _ _=>rfl;have eX: ∀(a:Addr) (fn:Fn) (first cap:Array Value) (m:Mode) (w:World),(store a (.func fn first cap) m).run Tryz.prog w=stored Tryz.prog w a (.func fn first cap) m:=fun a _ _ _ m w=>run_store _ w a _ m rfl;rcases e1:inB r 1 3 with _ | _
 ·have F:Hid (relF r= []):=qA (by unfold relF;rw[e1];rfl);have CI:=qA fun w=>qX r 1 3 w;rw[e1] at CI;go_enter Tryz.func48,Tryz.ntmps48
  go_wp2_with (go_at_call 56;refine(CI.out _).mono ?_;rintro e w' ⟨rfl,rfl⟩)
  refine bodyPost_ret (v:= .slice (some ⟨w.heap.size+1,0,none⟩) 0 0) (by simp[results,Tryz.results48,go_sem]) rfl ⟨_,rfl,?_,(by repeat(first | exact .refl _ _ | (refine BxS ?_ _) | (refine qB ?_ _) | (refine zab ?_) | (refine BxA ?_ _)))⟩;rw[F.out];refine OwnL.nil ?_ fun b hb=>by simp[zak] at hb;simp;omega
  have h0:=zax (e:=31) (size:=2) (base:=0) (w.alloc (.cells #[.int .i64 r] 3)) #[] 0 (zad _) (by unfold maxLen;omega) (by simp);have h1:=h0.alloc (.cells #[zan (some {block:=w.heap.size+1,off:=0}) 0 0] 67);simpa using h1
 ·have gQ:=(qP.1 e1).1;have cS:=(qP.1 e1).2;obtain⟨n,rfl⟩: ∃n:Nat,r=n:=⟨r.toNat,tO⟩;have F:Hid (relF n=(rdL (qD n) n []).map (relM n)):=qA (by unfold relF;rw[e1,qQh];simp);have CI:=qA fun w=>qX n 1 3 w;rw[e1] at CI;go_enter Tryz.func48,Tryz.ntmps48
  obtain⟨W,hW⟩: ∃W:World,W=(((((w.alloc (.cells #[.int .i64 n] 3)).alloc (.cells #[] 31)).alloc (.cells #[zan (some {block:=w.heap.size+1,off:=0}) 0 0] 67)).alloc (.cells #[.func (.func 97) #[] #[.pointer (some ⟨w.heap.size,0,none⟩), .pointer (some ⟨w.heap.size+1+1,0,none⟩), .pointer (some ⟨w.heap.size+1+1+1,0,none⟩)]] 105)).alloc (.cells #[] 3)):=⟨_,rfl⟩;have hs:W.heap.size=w.heap.size+5:=by rw[hW];simp
  have b0:Below w.heap.size w W:=by rw[hW];exact(by repeat(first | exact .refl _ _ | (refine BxS ?_ _) | (refine qB ?_ _) | (refine zab ?_) | (refine BxA ?_ _)))
  have k0:W.heap[w.heap.size]? =some (.cells #[.int .i64 n] 3 (0,0)):=by
   rw[hW];exact((zag _ _ _ (by simp<;>omega)).trans ((zag _ _ _ (by simp<;>omega)).trans ((zag _ _ _ (by simp<;>omega)).trans ((zag _ _ _ (by simp<;>omega)).trans (qJq (by simp))))))
  have k2:W.heap[w.heap.size+1+1]? =some (.cells #[zan (some {block:=w.heap.size+1,off:=0}) 0 0] 67 (0,0)):=by
   rw[hW];exact((zag _ _ _ (by simp<;>omega)).trans ((zag _ _ _ (by simp<;>omega)).trans (qJq (by simp))))
  have k3:W.heap[w.heap.size+1+1+1]? =some (.cells #[.func (.func 97) #[] #[.pointer (some ⟨w.heap.size,0,none⟩), .pointer (some ⟨w.heap.size+1+1,0,none⟩), .pointer (some ⟨w.heap.size+1+1+1,0,none⟩)]] 105 (0,0)):=by
   rw[hW];exact((zag _ _ _ (by simp<;>omega)).trans (qJq (by simp)))
  have o1:W.ownsRow 0 31 2 (.slice (some ⟨w.heap.size+1,0,none⟩) 0 0) 0 []:=by
   have h0:=zax (e:=31) (size:=2) (base:=0) (w.alloc (.cells #[.int .i64 n] 3)) #[] 0 (zad _) (by unfold maxLen;omega) (by simp);have h1:=((h0.alloc (.cells #[zan (some {block:=w.heap.size+1,off:=0}) 0 0] 67)).alloc (.cells #[.func (.func 97) #[] #[.pointer (some ⟨w.heap.size,0,none⟩), .pointer (some ⟨w.heap.size+1+1,0,none⟩), .pointer (some ⟨w.heap.size+1+1+1,0,none⟩)]] 105)).alloc (.cells #[] 3);rw[hW];simpa using h1
  have o4:OwI W w.heap.size (.slice (some ⟨w.heap.size+1+1+1+1,0,none⟩) 0 0) []:=by
   rw[hW];exact qCF _ [] _ (by simp) qS (by simp) tO
  have M0:Hid (MoI n w.heap.size (w.heap.size+1+1) (w.heap.size+1+1+1) W [] [w.heap.size+1]):=qA ⟨k0,k3,⟨_,k2,[],rfl,(fun e he=>by cases he),o1,by simp[zak]⟩,by simp,(fun b hb=>by simp at hb;omega),(fun hb=>by rw[zao] at hb;omega),(fun hb=>by rw[zao] at hb;omega),(fun hb=>by rw[zao] at hb;omega),tO,tO⟩;have B0:=qA b0;have O4:=qA o4;have HW:=qA hW;have lk:(6:Nat)^n≤216:=by
   have:n=1∨n=2∨n=3:=tO
   rcases this with rfl | rfl | rfl<;>decide
  clear hW b0 k0 k2 k3 o1 o4;go_wp2_with (go_at_call 56;refine(CI.out _).mono ?_;rintro e w' ⟨rfl,rfl⟩)
  rw[←HW.out];refine(qKj n _ _ _ tO tO n [] _ [] [w.heap.size+1] W (by simp) M0.out (by simp;omega) O4.out.rd (fun b hb=>by simp[zak] at hb;subst hb;exact⟨tO,tO,fun h=>by rw[zao] at h;omega⟩)).mono ?_
  rintro e w7 ⟨rfl,F7,m7,f7,s7⟩;obtain⟨v,hv,hO⟩:=m7.ho;have c7:=cell_of_one hv;have HO:=qA hO;have M7:=qA m7;have nL:=qA f7;have S7:=qA s7;obtain⟨Av,mv,cv,rfl⟩:=OwLf.formR hO;clear m7 f7 s7 hO hv;go_wp2;refine bodyPost_ret (v:= .slice Av mv cv) (by simp[results,Tryz.results48,go_sem]) rfl ⟨_,rfl,?_,?_⟩
  ·rw[F.out];refine OwnL.of_f (by simpa using HO.out) M7.out.nd fun b hb=>⟨?_,M7.out.lt b hb⟩;rcases S7.out b hb with h | h
   ·simp at h;omega
   ·omega
  ·exact B0.out.trans ⟨nL.out.os,nL.out.tape,nL.out.output,nL.out.size,fun b hb=>nL.out.block b tO tO (fun h=>by rw[zao] at h;omega)⟩
def qMH (es:List EdD) (v:Nat):Bool:=decide (degL es v<2)|| !hasB (qBj es 0) v
def qAU (es:List EdD) (n:Nat):Nat→Nat→Int
 | 0,_=> -1
 | f+1,v=>if v<n then(if qMH es v then(v:Int) else qAU es n f (v+1)) else-1
def qAG (es:List EdD) (n:Nat):Int:=qAU es n (n-1) 1
theorem qFS (es:List EdD) (n f:Nat):qAU es n f n= -1:=by
 cases f with
 | zero=>rfl
 | succ f=>unfold qAU;rw[if_neg (Nat.lt_irrefl n)]
theorem qCE {es:List EdD} {n v:Nat} (hv:v<n) (h:qMH es v=true):qAU es n (n-v) v=v:=by
 obtain⟨f,hf⟩: ∃f,n-v=f+1:=⟨n-v-1,tO⟩;rw[hf];unfold qAU;rw[if_pos hv,if_pos h]
theorem qEj {es:List EdD} {n v:Nat} (hv:v<n) (h:qMH es v=false):qAU es n (n-v) v=qAU es n (n-(v+1)) (v+1):=by
 obtain⟨f,hf⟩: ∃f,n-v=f+1:=⟨n-v-1,tO⟩;rw[hf];rw[qAU,if_pos hv,if_neg (by simp[h]),show n-(v+1)=f by omega]
theorem qHP (v:Value) (g:GrD) (w:World) (h:ArgG w v g) (hg:grB g=true):
  Calls Tryz.prog 184 #[v] w fun e w'=>e= .returned (.int .i64 (qAG g.2.2 g.2.1.toNat))∧Below w.heap.size w w':=by
 have HG:=qA h;have aD:=qA hg;obtain⟨_,aJ,aO,_⟩:=qR hg;have hu:inB 0 0 (wrap64 (g.2.1-1))=true:=by
  rw[IntWalk.wrap64_in _ ⟨tO,tO⟩];exact qP.2 ⟨Int.le_refl _,tO⟩
 have HU:=qA hu;obtain⟨N,hN⟩: ∃N:Nat,g.2.1=(N:Int):=⟨g.2.1.toNat,tO⟩;clear hu hg;obtain⟨s,rfl,_,_,ha⟩:=h;obtain⟨A,cap,rfl⟩:=ha.form;obtain⟨r,n,es⟩:=g;simp only at hN aJ aO
 subst hN;simp only[Int.toNat_natCast];have mU:1≤N:=tO;have ly:N≤40:=tO;obtain⟨R,hR⟩: ∃R,R=qAG es N:=⟨_,rfl⟩;rw[←hR];have HR:=qA hR;clear hR ha aJ;have bx:Below w.heap.size w (w.alloc (.cells #[.int .i64 r,.int .i64 N, .slice A es.length cap] 82)):=(by repeat(first | exact .refl _ _ | (refine BxS ?_ _) | (refine qB ?_ _) | (refine zab ?_) | (refine BxA ?_ _)));have k0:(w.alloc (.cells #[.int .i64 r,.int .i64 N, .slice A es.length cap] 82)).cell? ⟨w.heap.size,0,none⟩=some (.int .i64 r):=by simp[go_sem]
 have k1:(w.alloc (.cells #[.int .i64 r,.int .i64 N, .slice A es.length cap] 82)).cell? ⟨w.heap.size,1,none⟩=some (.int .i64 N):=by simp[go_sem]
 have k2:(w.alloc (.cells #[.int .i64 r,.int .i64 N, .slice A es.length cap] 82)).cell? ⟨w.heap.size,2,none⟩=some (.slice A es.length cap):=by simp[go_sem]
 have sx:w.heap.size<(w.alloc (.cells #[.int .i64 r,.int .i64 N, .slice A es.length cap] 82)).heap.size:=by simp
 have BX:=qA bx;have K0:=qA k0;have K1:=qA k1;have K2:=qA k2;clear k0 k1 k2 bx;go_enter Tryz.func184,Tryz.ntmps184
 go_wp2_with fail;refine(qGR _ (r,(N:Int),es) 0 _ (HG.out.below BX.out) aD.out HU.out ⟨by decide,by decide⟩).mono ?_
 rintro e w1 ⟨rs,rfl,o1,b1⟩;have HB:=qA (BX.out.trans (b1.mono BX.out.size));have s1:=b1.size;have aW:w.heap.size<w1.heap.size:=tO;have q0:=(b1.cell (p:=⟨w.heap.size,0,none⟩) sx).trans K0.out;have q1:=(b1.cell (p:=⟨w.heap.size,1,none⟩) sx).trans K1.out;have q2:=(b1.cell (p:=⟨w.heap.size,2,none⟩) sx).trans K2.out;have Q0:=qA q0;have Q1:=qA q1;have Q2:=qA q2;have O1:=qA o1;obtain⟨A1,ah,rfl,_⟩:=o1.form;have tW:(qBj es 0).length≤100000:=by
  have:=qGF es 0 (es.length+1) aO
  unfold qBj;omega
 have rN:Hid (∀v:Nat,qMH es v=(decide (degL es v<2)|| !hasB (qBj es 0) v)):=qA fun v=>rfl;clear q0 q1 q2 b1 o1 K0 K1 K2 s1 sx;simp only at O1 tW
 generalize qBj es 0=L at*;go_wp2;go_loopw [4] (fun i wr=> ∃k:Nat,1≤k∧k≤N∧i= .int .i64 k∧R=qAU es N (N-k) k∧Below w1.heap.size w1 wr) (fun i _=>N-(intOf i).toNat)
 case atStart=>exact⟨1,zaa _,mU,rfl,HR.out,zaj _ _⟩
 case round=>
  obtain⟨k,mP,hk,rfl,gG,aa⟩:=hrel;have gF:=qA gG;have au:=qA aa;have ax:=qA (HB.out.trans (aa.mono HB.out.size));have ak:=aa.size;have p0:=(aa.cell (p:=⟨w.heap.size,0,none⟩) aW).trans Q0.out;have p1:=(aa.cell (p:=⟨w.heap.size,1,none⟩) aW).trans Q1.out;have p2:=(aa.cell (p:=⟨w.heap.size,2,none⟩) aW).trans Q2.out;have OL:=qA (O1.out.below aa);clear gG aa;by_cases ac:k<N
  ·have Ez:(k:Int)<(N:Int):=tO;have Ah:degL es k≤240:=by have:=qIE es k es.length;rw[zae] at this;omega
   have LB:=qA (rN.out k);go_wp2_with fail;refine(qFi _ (r,(N:Int),es) k _ (HG.out.below ax.out) (by simp only;omega)).mono ?_
   rintro e w2 ⟨rfl,b2⟩;have B2:=qA b2;have s2:=b2.size;have zr:=qA (OL.out.below b2);clear b2;simp only
   generalize degL es k=d at*;by_cases hd:d<2
   ·have xA:(d:Int)<2:=tO;have F:=qA (qCE ac (by rw[LB.out];simp[hd]));go_wp2;go_ret;exact⟨qU (by rw[gF.out,F.out]),ax.out.trans (B2.out.mono tO)⟩
   ·have xA: ¬(d:Int)<2:=tO;go_wp2_with fail;refine(qBK _ L k _ zr.out.rd.arg tO).mono ?_
    rintro e' w' ⟨rfl,rfl⟩;rcases h1:hasB L k with _ | _
    ·have F:=qA (qCE ac (by rw[LB.out,h1];simp));go_wp2;go_ret;exact⟨qU (by rw[gF.out,F.out]),ax.out.trans (B2.out.mono tO)⟩
    ·have F:=qA (qEj ac (by rw[LB.out,h1];simp[hd]));go_wp2;go_roundw
     case rel=>exact⟨k+1,tO,tO,by go_num,by rw[gF.out,F.out],au.out.trans (B2.out.mono tO)⟩
     case measure=>simp[intOf];omega
  ·obtain rfl:k=N:=tO
   have F:Hid (R= -1):=qA (by rw[gF.out,qFS]);go_wp2;go_ret;exact⟨qU F.out.symm,ax.out⟩
theorem qEg {g:GrD} (hg:grB g=true) {u:Int} (ls:List Int) (k:Nat) {o:List Int} (h:qAd g.2.1 o):qAd g.2.1 ((ls.take k).foldl (qAX g.2.2 u) o):=qKc hg _ h
theorem qLT {es:List EdD} {u x:Int} {o:List Int} (h: ¬0≤qAY es u x):qAX es u o x=o:=by unfold qAX;rw[if_neg h]
theorem qLK {es:List EdD} {u x:Int} {o:List Int} (h:0≤qAY es u x) (h1:hasB o (qAY es u x)=true):qAX es u o x=o:=by unfold qAX;rw[if_pos h,if_pos h1]
theorem qJR {es:List EdD} {u x:Int} {o:List Int} (h:0≤qAY es u x) (h1:hasB o (qAY es u x)=false):qAX es u o x=o++ [qAY es u x]:=by unfold qAX;rw[if_pos h,if_neg (by simp[h1])]
theorem qCz (v:Value) (g:GrD) (w:World) (h:ArgG w v g) (hf:qAk g=true):
  Calls Tryz.prog 186 #[v] w fun e w'=> ∃r,e= .returned r∧OwI w' w.heap.size r (canO g)∧Below w.heap.size w w':=by
 have HG:=qA h;obtain⟨hg,kR⟩:=qAQ hf;have aD:=qA hg;have HF:=qA hf;have ONE:=qA (qIW kR);obtain⟨cR,aJ,aO,_⟩:=qR hg;obtain⟨A,cap,hv⟩: ∃A cap,v= .agg #[.int .i64 g.1, .int .i64 g.2.1, .slice A g.2.2.length cap]:=by
  obtain⟨s,hv,_,_,ha⟩:=h;obtain⟨A,cap,rfl⟩:=ha.form;exact⟨A,cap,hv⟩
 subst hv;obtain⟨rn,oh⟩: ∃rn:Nat,g.1=(rn:Int):=⟨g.1.toNat,tO⟩;have yl:1≤rn:=tO;have xt:rn≤3:=tO;have jD:Hid (canO g=canF g.2.2 (qD rn) 41 0 [0]):=qA (by unfold canO;rw[oh];rfl);have zi:=qA (qAd.one (n:=g.2.1) tO);have OKS:Hid (∀(u:Int) (o:List Int) (k:Nat),qAd g.2.1 o→qAd g.2.1 (((qD rn).take k).foldl (qAX g.2.2 u) o)):=qA fun u o k h=>qEg hg _ k h;have OKL:Hid (∀o:List Int,qAd g.2.1 o→o.length≤40):=qA fun o h=>h.len tO tO;have NV:Hid (∀u x,qAY g.2.2 u x= -1∨(0≤qAY g.2.2 u x∧qAY g.2.2 u x<41)):=qA fun u x=>by
  rcases qDx hg u x with e | e
  ·exact .inl e
  ·exact .inr ⟨e.1,tO⟩
 have eH:=qA oh;clear hg hf kR h oh;have gQ:1≤g.1∧g.1≤3:=cR;clear aJ aO cR;have bx:Below w.heap.size w (w.alloc (.cells #[.int .i64 g.1,.int .i64 g.2.1, .slice A g.2.2.length cap] 82)):=(by repeat(first | exact .refl _ _ | (refine BxS ?_ _) | (refine qB ?_ _) | (refine zab ?_) | (refine BxA ?_ _)));have k0:(w.alloc (.cells #[.int .i64 g.1,.int .i64 g.2.1, .slice A g.2.2.length cap] 82)).cell? ⟨w.heap.size,0,none⟩=some (.int .i64 g.1):=by simp[go_sem]
 have k1:(w.alloc (.cells #[.int .i64 g.1,.int .i64 g.2.1, .slice A g.2.2.length cap] 82)).cell? ⟨w.heap.size,1,none⟩=some (.int .i64 g.2.1):=by simp[go_sem]
 have k2:(w.alloc (.cells #[.int .i64 g.1,.int .i64 g.2.1, .slice A g.2.2.length cap] 82)).cell? ⟨w.heap.size,2,none⟩=some (.slice A g.2.2.length cap):=by simp[go_sem]
 have sx:w.heap.size<(w.alloc (.cells #[.int .i64 g.1,.int .i64 g.2.1, .slice A g.2.2.length cap] 82)).heap.size:=by simp
 have BX:=qA bx;have K0:=qA k0;have K1:=qA k1;have K2:=qA k2;clear k0 k1 k2 bx;go_enter Tryz.func186,Tryz.ntmps186
 go_wp2_with fail;have z7:=qBe _ g _ (HG.out.below BX.out);rw[HF.out] at z7;have jH:=qA z7;clear z7;refine jH.out.mono ?_;rintro e w1 ⟨rfl,b1⟩;clear jH;have HB:=qA (BX.out.trans (b1.mono BX.out.size));have s1:=b1.size;have aW:w.heap.size<w1.heap.size:=tO;have q0:=(b1.cell (p:=⟨w.heap.size,0,none⟩) sx).trans K0.out;have q1:=(b1.cell (p:=⟨w.heap.size,1,none⟩) sx).trans K1.out;have q2:=(b1.cell (p:=⟨w.heap.size,2,none⟩) sx).trans K2.out;clear b1 K0 K1 K2 s1 sx;go_wp2_with fail;have bD:Below w1.heap.size w1 (w1.alloc (.cells #[.int .i64 0] 3)):=(zaj _ _).alloc (zaa _) _;have o2:OwI (w1.alloc (.cells #[.int .i64 0] 3)) w1.heap.size (.slice (some ⟨w1.heap.size,0,none⟩) 1 1) [0]:=qW w1 [0] (fun x hx=>by simp at hx;subst hx;exact⟨by decide,by decide⟩) (by simp) (zaa _);have s2:w1.heap.size<(w1.alloc (.cells #[.int .i64 0] 3)).heap.size:=by simp
 generalize w1.alloc (.cells #[.int .i64 0] 3)=w2 at bD o2 s2⊢;have fe:=qEt rn w2 tO;rw[←eH.out] at fe;have eu:=qA fe;clear fe;refine eu.out.mono ?_;rintro e w3 ⟨rl,rfl,ol,b3⟩;have s3:=b3.size;have kO:=bD.trans (b3.mono bD.size);have ax:=qA (HB.out.trans (kO.mono HB.out.size));have Q0:=qA ((kO.cell (p:=⟨w.heap.size,0,none⟩) aW).trans q0);have Q1:=qA ((kO.cell (p:=⟨w.heap.size,1,none⟩) aW).trans q1);have Q2:=qA ((kO.cell (p:=⟨w.heap.size,2,none⟩) aW).trans q2);have O2:=qA ((o2.below b3).mono (base':=w.heap.size+1) tO);have mh:=qo rn;generalize qD rn=ls at*;obtain⟨Al,capl,rfl,aZ,gW,_,lZ⟩:=ol.form;obtain⟨bl,rfl,FB,kI⟩:=lZ tO;unfold maxLen at gW;have OL:=qA ol.rd;have FU:bl≠w1.heap.size:=tO;clear ol b3 bD o2 kO q0 q1 q2 lZ eu;go_wp2;go_loopw [3,5] (fun out i wo=> ∃(k:Nat) (o:List Int),k≤o.length∧i= .int .i64 k∧qAd g.2.1 o∧canO g=canF g.2.2 ls (41-k) k o∧OwI wo (w.heap.size+1) out o∧RdI wo (.slice (some ⟨bl,0,none⟩) ls.length capl) ls∧out.ownBlock≠some bl∧bl<wo.heap.size∧Below (w.heap.size+1) w3 wo) (fun _ i _=>41-(intOf i).toNat)
 case atStart=>exact⟨0,[0],by simp,rfl,zi.out,jD.out,O2.out,OL.out,by simp[zak];omega,kI,zaj _ _⟩
 case round=>
  obtain⟨k,o,hk,rfl,ar,m6,ab,d8,ai,yV,aa⟩:=hrel;obtain⟨wo,rfl⟩: ∃wo:World,wo=wr:=⟨_,rfl⟩;have jb:=OKL.out o ar;have bG:=qA ar;have HC:=qA m6;have HO:=qA ab;have gR:=qA d8;have bk:=qA ai;have au:=qA aa;have ak:=aa.size;obtain⟨A1,ah,rfl,_⟩:=ab.form;clear ar m6 ab d8 ai aa;by_cases ac:k<o.length
  ·obtain⟨u,hu⟩: ∃u,o[k]? =some u:=⟨o[k],by simp⟩;have eB:o[k]=u:=by rw[zaJ ac] at hu;injection hu
   have jR:Hid (canO g=canF g.2.2 ls (41-(k+1)) (k+1) (ls.foldl (qAX g.2.2 u) o)):=qA (by
    rw[HC.out,show 41-k=(41-(k+1))+1 by omega,qIP _ _ _ _ _ ac,eB])
   have mg:Hid (∀m:Nat,(((ls.take m).foldl (qAX g.2.2 u) o))[k]? =some u):=qA fun m=>qFU _ _ _ _ _ _ hu;have jl:Hid (∀(m:Nat) (hm:m<ls.length),(ls.take (m+1)).foldl (qAX g.2.2 u) o=qAX g.2.2 u ((ls.take m).foldl (qAX g.2.2 u) o) ls[m]):=qA fun m hm=>qHF _ _ _ _ _ hm;have kW:Hid (∀m:Nat,qAd g.2.1 ((ls.take m).foldl (qAX g.2.2 u) o)):=qA fun m=>OKS.out u o m bG.out;clear hu eB;go_wp2;go_loopw [3,6] (fun out j wr=> ∃m:Nat,m≤ls.length∧j= .int .i64 m∧OwI wr (w.heap.size+1) out ((ls.take m).foldl (qAX g.2.2 u) o)∧RdI wr (.slice (some ⟨bl,0,none⟩) ls.length capl) ls∧out.ownBlock≠some bl∧bl<wr.heap.size∧Below (w.heap.size+1) wo wr) (fun _ j _=>ls.length-(intOf j).toNat)
   case atStart=>exact⟨0,zad _,rfl,HO.out,gR.out,bk.out,yV,zaj _ _⟩
   case round=>
    obtain⟨m,cJ,rfl,ab,d8,ai,pE,cZ⟩:=hrel;have wK:=cZ.size;have iz:=qA cZ;have eO:=qA (ax.out.trans ((au.out.trans cZ).mono tO));have iI:w.heap.size<wr.heap.size:=tO;have ka:=au.out.trans cZ;have p0:=(ka.cell (p:=⟨w.heap.size,0,none⟩) (show w.heap.size<w.heap.size+1 by omega)).trans Q0.out;have p1:=(ka.cell (p:=⟨w.heap.size,1,none⟩) (show w.heap.size<w.heap.size+1 by omega)).trans Q1.out;have p2:=(ka.cell (p:=⟨w.heap.size,2,none⟩) (show w.heap.size<w.heap.size+1 by omega)).trans Q2.out;have q5:=qA d8;have lz:=qA ai;clear cZ ka;by_cases aK:m<ls.length
    ·have dw:=kW.out m;have ri:=OKL.out _ dw;have oL:=mg.out m;have HS:=qA (jl.out m aK);obtain⟨_,_,uP,_,aZ⟩:=d8.at tO;obtain⟨rfl,rfl⟩:bl=_∧0=_:=by simpa using uP
     have c0:=aZ m aK;rw[Nat.zero_add] at c0;generalize ls[m]=x at c0 HS;generalize (ls.take m).foldl (qAX g.2.2 u) o=om at*;have lE:k<om.length:=(zaG.1 oL).1;have D4:om[k]=u:=by rw[zaJ lE] at oL;injection oL
     have kJ:=qA ab;obtain⟨A2,am,rfl,_,_,_,dq⟩:=ab.form;obtain⟨b2,rfl,Ip,xR⟩:=dq tO;have d0:=ab.cellAt k lE;rw[D4] at d0;have NX:=qA (NV.out u x);have N0:=qA (qLT (es:=g.2.2) (u:=u) (x:=x) (o:=om));have N1:=qA (qLK (es:=g.2.2) (u:=u) (x:=x) (o:=om));have N2:=qA (qJR (es:=g.2.2) (u:=u) (x:=x) (o:=om));have fO:=qA (fun W (h:ArgG W (.agg #[.int .i64 g.1, .int .i64 g.2.1, .slice A g.2.2.length cap]) g)=>qEc _ g u x W h (ONE.out u x));clear aZ uP ab d8 dq oL D4 dw;go_wp2_with fail;have f0:=BelW.cell p0 iI;have f1:=BelW.cell p1 iI;have f2:=BelW.cell p2 iI;have f3:=BelW.cell c0 pE;have f4:=BelW.cell d0 xR;(refine qK tK tK ?_;(repeat(go_big_quiet_step (first | (go_at_call 201;exact Calls.bel_of (fO.out _ (HG.out.below (eO.out.trans ((BelW.h _).mono tO))))))));refine wpQuiet_nil ?_;intro wq hw';obtain⟨pq,al⟩:=hw';have bq:=pq.h;rw[←al] at bq;clear al pq)
     clear f0 f1 f2 f3 f4 p0 p1 p2 c0 d0;have sq:=bq.size;have HQ:=qA (iz.out.trans (bq.mono tO));have iW:=qA (kJ.out.below bq);have nQ:=qA (q5.out.below bq);clear bq;generalize qAY g.2.2 u x=y at*;rcases NX.out with hy | hy
     ·subst hy;have F:=qA (N0.out tO);go_wp2;go_roundw
      case rel=>exact⟨m+1,tO,by go_num,by rw[HS.out,F.out];exact iW.out,nQ.out,lz.out,tO,HQ.out⟩
      case measure=>simp[intOf];omega
     ·have mq:(0:Int)≤y:=hy.1;have Iw:y<41:=hy.2;go_wp2_with fail;refine(qBK _ om y _ iW.out.rd.arg tO).mono ?_
      rintro e' w' ⟨rfl,rfl⟩;rcases h1:hasB om y with _ | _
      ·have F:=qA (N2.out mq h1);have HY:Hid (I64 y):=qA ⟨tO,tO⟩;go_wp2_with (at_builtin;refine qN rfl (.tmp 46) (.tmp 48) rfl _ _ _ (OwI.alloc iW.out _) rfl _ _ rfl (qG _ _ _) HY.out (by first | omega | (simp<;>omega)) (by first | omega | (simp<;>omega)) ?_;intro v9 wv9 o9 g9 p9)
       have zP:=g9.size;simp at zP
       go_roundw
       case rel=>
        refine⟨m+1,tO,by go_num,by rw[HS.out,F.out];exact o9,(nQ.out.alloc _).grown g9 (fun b hb aE=> ?_),fun e=> ?_,tO,qQ HQ.out tO iW.out.1 (zaa _) g9⟩
        ·simp[zak] at hb aE
         have:=lz.out
         simp[zak] at this
         omega
        ·rcases p9 with p9 | p9
         ·rw[p9] at e;exact lz.out e
         ·rw[p9] at e;simp at e;omega
       case measure=>simp[intOf];omega
      ·have F:=qA (N1.out mq h1);go_wp2;go_roundw
       case rel=>exact⟨m+1,tO,by go_num,by rw[HS.out,F.out];exact iW.out,nQ.out,lz.out,tO,HQ.out⟩
       case measure=>simp[intOf];omega
    ·obtain rfl:m=ls.length:=tO
     rw[zae] at ab;have dw:=kW.out ls.length;rw[zae] at dw;have pL:=qA dw;have kJ:=qA ab;have aH:k+1≤(ls.foldl (qAX g.2.2 u) o).length:=by
      have:=mg.out ls.length
      rw[zae] at this;have:=(zaG.1 this).1
      omega
     obtain⟨A2,am,rfl,_⟩:=ab.form;clear ab d8 ai dw p0 p1 p2;go_wp2;go_roundw
     case rel=>exact⟨k+1,_,aH,by go_num,pL.out,jR.out,kJ.out,q5.out,lz.out,pE,au.out.trans iz.out⟩
     case measure=>simp[intOf];omega
  ·obtain rfl:k=o.length:=tO
   have F:Hid (canO g=o):=qA (by rw[HC.out,qLG]);go_wp2;go_ret;exact⟨_,rfl,by rw[F.out];exact HO.out.mono tO,ax.out.trans (au.out.mono tO)⟩
end Go.Proofs.YtlgcflpaekbopaaGreat
