/-
  A part of the proof: lemmas of my own.
-/
import Derived.Test.YtglogmeapcdmeaaGreatDoorPF
import Derived.Deep.AppendLies
import Derived.Deep.RegionLaw
import Derived.OwnWalk
import Derived.Deep.CutRange
import Derived.Deep.RegionHeld3
import Derived.Shelf.Strings.BuilderK
import Derived.Test.YtglogmeapcdmeaaGreatDoorProg
import Derived.KernelRfl
import Derived.Below
import Derived.Test.YtglogmeapcdmeaaGreatDoorRows
import Derived.Lib.LaidTab
set_option linter.unusedVariables false
set_option linter.unusedSimpArgs false
namespace Go.Proofs.Nw
open Go Go.Proofs Go.AV Go.RowKit Go.Shelf Go.Sort
set_option maxRecDepth 1000000
structure OF(w:World)(L:List gy)(a:Option Addr)(l:Nat):Prop where
 e:l=L.length
 op: ∀i o,L[i]? =some o-> ∃g f aj cj ta tn tc,a=some ⟨g,f,none⟩/\g<w.heap.size/\w.cell? ⟨g,f+i*7,none⟩=some (.slice aj o.eD.length cj)/\w.cell? ⟨g,f+i*7+1,none⟩=some (zv o.dep)/\w.cell? ⟨g,f+i*7+2,none⟩=some (zv o.arr)/\w.cell? ⟨g,f+i*7+3,none⟩=some (zv o.bT)/\w.cell? ⟨g,f+i*7+4,none⟩=some (zv o.yA)/\w.cell? ⟨g,f+i*7+5,none⟩=some (zv o.walk)/\w.cell? ⟨g,f+i*7+6,none⟩=some (.slice ta tn tc)/\LF w o.eD aj o.eD.length
theorem OF.below{w W:World}{L:List gy}{a:Option Addr}{l:Nat}(h:OF w L a l)(hb:Below w.heap.size w W):OF W L a l:=by
 refine⟨h.e,fun i x hx=>?_⟩
 obtain⟨g,f,aj,cj,ta,tn,tc,h1,h2,q0,q1,q2,q3,q4,q5,q6,q7⟩:=h.op i x hx
 exact⟨g,f,aj,cj,ta,tn,tc,h1,Nat.lt_of_lt_of_le h2 hb.size,aG hb h2 q0,aG hb h2 q1,aG hb h2 q2,aG hb h2 q3,aG hb h2 q4,aG hb h2 q5,aG hb h2 q6,q7.below hb⟩
def gy.P3(o:gy):Prop:=jg o.dep/\jg o.arr/\jg o.bT/\jg o.yA/\jg o.walk/\o.eD.length<=20/\ ∀l∈o.eD,l.ok
structure B1(w W:World)(q:Array Value):Prop where
 r0:W.heap[w.heap.size]? =some (.cells q 31 (0,0))
 du:Below w.heap.size w W
theorem B1.lt{w W:World}{q:Array Value}(h:B1 w W q):w.heap.size<W.heap.size:=(Array.getElem?_eq_some_iff.1 h.r0).1
theorem B1.after{w W W':World}{q:Array Value}(h:B1 w W q)(hb:Below W.heap.size W W'):B1 w W' q:=by
 have:=h.lt
 exact⟨(hb.block _ (by omega)).trans h.r0,h.du.trans (hb.mono (by omega))⟩
theorem B1.start(w:World)(q:Array Value):B1 w (w.alloc (.cells q 31)) q:=⟨heap_alloc _ _,dZ (da _) _⟩
theorem AP{N:cd}(hN:NV N)(l:eG)(h: ¬kB N l=true):(mN N l).length<=300:=by
 have hg:=yp h
 have hs: ∀i:Int,0<=i->i<N.stops.length->(N.stop i).data.toList.length<=32:=fun i h0 h1=>by
  obtain⟨k,rfl⟩: ∃k:Nat,i=k:=⟨i.toNat,by omega⟩
  have hk:k<N.stops.length:=by omega
  have e:N.stop (k:Int)=N.stops[k].id:=by simp[cd.stop,hk]
  rw[e]
  have:=hN.st _ (List.getElem_mem hk)
  rw[Array.length_toList];exact this
 have h0:=hs _ hg.1 hg.2.1
 have h1:=hs _ hg.2.2.1 hg.2.2.2.1
 have d0:=fQ l.dep
 have d1:=fQ l.arr
 have hm:(vM N l).length<=80:=by
  unfold vM
  split
  ·rename_i hr
   obtain⟨x0,x1,-⟩:=CS (hg.2.2.2.2 hr)
   obtain⟨r,hr'⟩: ∃r:Nat,l.run=r:=⟨l.run.toNat,by omega⟩
   have hr2:r<N.runs.length:=by omega
   rw[hr',run_get (List.getElem?_eq_getElem hr2)]
   exact Ch _ (hN.ru _ (List.getElem_mem hr2)).1
  ·decide
 have hst:(rm l.stay).length<=5:=by unfold rm;split<;>decide
 simp only[mN,List.length_append,List.length_cons,List.length_nil]
 omega
theorem AR{N:cd}(hN:NV N): ∀(G:List eG)(acc:List UInt8),(nU N G acc).1.length<=acc.length+300*G.length
 |[],acc=>by simp[nU]
 |l::r,acc=>by
  rw[nU]
  split
  ·simp
  ·rename_i hb
   have h1:=AR hN r (acc++mN N l)
   have h2:=AP hN l hb
   simp only[List.length_append,List.length_cons] at h1 ⊢
   omega
theorem xe{code:Int}{N:cd}(hN:code=0->NV N)(G:List eG)(hG:G.length<=20):(ig code N G).1.length<=6000:=by
 unfold ig
 split
 ·rename_i h
  have:=AR (hN h) G []
  simp only[List.length_nil] at this
  omega
 ·simp
theorem tW(c:Int):(ez c).length<=64:=by
 have h1:=fQ (c / 100)
 have h2:=fQ (c / 10 % 10)
 have h3:=fQ (c % 10)
 simp only[ez,List.length_append,List.length_cons]
 omega
theorem wu{code:Int}{N:cd}{L:List gy}{n:Nat}{o:gy}(hx:L[n]? =some o)(acc:List UInt8):mJ code N n (L.drop n) acc=if (ig code N o.eD).2≠0 then ([],(ig code N o.eD).2) else if o.yA<0\/1000000<o.yA then ([],2) else mJ code N (n+1) (L.drop (n+1)) (acc++(ue n o++(ig code N o.eD).1)):=by
 obtain⟨hn,rfl⟩:=List.getElem?_eq_some_iff.1 hx
 rw[List.drop_eq_getElem_cons hn,mJ]
theorem Ab{code:Int}{N:cd}{L:List gy}{n:Nat}{acc:List UInt8}{T:List UInt8 × Int}(hn:L.length<=n)(h:mJ code N n (L.drop n) acc=T):T=(acc,0):=by
 rw[List.drop_eq_nil_of_le hn,mJ] at h
 exact h.symm
abbrev qw(wr:World)(B:Nat)(v0 v1 v2 v3 v4 v5 v6 v7 v8 jv:Value)(g o:Nat)(wx:World):Prop:=
 wx.cell? ⟨B,0,none⟩=some v0/\wx.cell? ⟨B,1,none⟩=some v1/\wx.cell? ⟨B,2,none⟩=some v2/\wx.cell? ⟨B,3,none⟩=some v3/\wx.cell? ⟨B,4,none⟩=some v4/\wx.cell? ⟨B,5,none⟩=some v5/\wx.cell? ⟨B,6,none⟩=some v6/\wx.cell? ⟨B,7,none⟩=some v7/\wx.cell? ⟨B,8,none⟩=some v8/\wx.cell? ⟨g,o,none⟩=some jv/\Below wr.heap.size wr wx
theorem qw.c8{wr w1 w2:World}{B:Nat}{v0 v1 v2 v3 v4 v5 v6 v7 v8 jv:Value}{g o:Nat}(hb:Below w1.heap.size w1 w2)(hB:B<wr.heap.size)(hG:g<wr.heap.size)(h:qw wr B v0 v1 v2 v3 v4 v5 v6 v7 v8 jv g o w1):qw wr B v0 v1 v2 v3 v4 v5 v6 v7 v8 jv g o w2:=by
 obtain⟨q0,q1,q2,q3,q4,q5,q6,q7,q8,q9,hw⟩:=h
 have hz:=hw.size
 have h0:B<w1.heap.size:=by omega
 have h1:g<w1.heap.size:=by omega
 exact⟨aG hb h0 q0,aG hb h0 q1,aG hb h0 q2,aG hb h0 q3,aG hb h0 q4,aG hb h0 q5,aG hb h0 q6,aG hb h0 q7,aG hb h0 q8,aG hb h1 q9,hw.trans (hb.mono hz)⟩
theorem qw.du{wr w1:World}{B:Nat}{v0 v1 v2 v3 v4 v5 v6 v7 v8 jv:Value}{g o:Nat}(h:qw wr B v0 v1 v2 v3 v4 v5 v6 v7 v8 jv g o w1):Below wr.heap.size wr w1:=h.2.2.2.2.2.2.2.2.2.2
abbrev KQ(wr:World)(b:Nat)(dp ar ri fa wk:Int)(wx:World):Prop:=
 wx.cell? ⟨b,0,none⟩=some (zv dp)/\wx.cell? ⟨b,1,none⟩=some (zv ar)/\wx.cell? ⟨b,2,none⟩=some (zv ri)/\wx.cell? ⟨b,3,none⟩=some (zv fa)/\wx.cell? ⟨b,4,none⟩=some (zv wk)/\b<wx.heap.size/\Below wr.heap.size wr wx
theorem KQ.c8{wr w1 w2:World}{b:Nat}{dp ar ri fa wk:Int}(hb:Below w1.heap.size w1 w2)(h:KQ wr b dp ar ri fa wk w1):KQ wr b dp ar ri fa wk w2:=by
 obtain⟨q0,q1,q2,q3,q4,hs,hw⟩:=h
 exact⟨aG hb hs q0,aG hb hs q1,aG hb hs q2,aG hb hs q3,aG hb hs q4,Nat.lt_of_lt_of_le hs hb.size,hw.trans (hb.mono hw.size)⟩
theorem KQ.du{wr w1:World}{b:Nat}{dp ar ri fa wk:Int}(h:KQ wr b dp ar ri fa wk w1):Below wr.heap.size wr w1:=h.2.2.2.2.2.2
set_option maxHeartbeats 6400000 in
theorem Sp{W:World}{N:cd}{a0 a1 a2 a3 a4 a5 ao:Option Addr}{l0 l1 l2 l3 l4 l5 lo c0 c1 c2 c3 c4 c5 co:Nat}{n6 n7 n8:Value}{code:Int}{L:List gy}(hF:NF W N a0 l0 a2 l2)(hO:OF W L ao lo)(hV0:code=0->NV N)(hn20:L.length<=20)(hf: ∀o∈L,o.P3)
 (hV: ∀w',Below W.heap.size W w'->Calls Tryz.prog 32 #[.agg #[.slice a0 l0 c0, .slice a1 l1 c1, .slice a2 l2 c2, .slice a3 l3 c3, .slice a4 l4 c4, .slice a5 l5 c5,n6,n7,n8]] w' fun en w''=>en= .returned (.bool (code==0))/\Below w'.heap.size w' w''):
 Calls Tryz.prog 8 #[.agg #[.slice a0 l0 c0, .slice a1 l1 c1, .slice a2 l2 c2, .slice a3 l3 c3, .slice a4 l4 c4, .slice a5 l5 c5,n6,n7,n8], .slice ao lo co] W fun en w'=>en= .returned (.tuple #[.string ⟨(mJ code N 0 L []).1.toArray⟩, .int .i64 (mJ code N 0 L []).2])/\Below W.heap.size W w':=by
 have HV:=Lib.hid hV
 have R0:=B1.start W #[.slice a0 l0 c0, .slice a1 l1 c1, .slice a2 l2 c2, .slice a3 l3 c3, .slice a4 l4 c4, .slice a5 l5 c5,n6,n7,n8]
 obtain⟨T,hT⟩: ∃T,T=mJ code N 0 L []:=⟨_,rfl⟩
 rw[←hT]
 have HT:=Lib.hid (show mJ code N 0 (L.drop 0) []=T from hT.symm)
 have HF:=Lib.hid hF
 have HO:=Lib.hid hO
 have HN:=Lib.hid hV0
 have HL:=Lib.hid hf
 have e0:=hO.e
 clear hT hV hF hO hf hV0
 subst e0
 go_enter Tryz.func8,Tryz.ntmps8
 go_wp2
 go_loopw [6,7] (fun s i wr=> ∃(n:Nat)(sb:ByteArray),n<=L.length/\i= .int .i64 n/\s= .string sb/\sb.size<=n*6400/\mJ code N n (L.drop n) sb.data.toList=T/\B1 W wr #[.slice a0 l0 c0, .slice a1 l1 c1, .slice a2 l2 c2, .slice a3 l3 c3, .slice a4 l4 c4, .slice a5 l5 c5,n6,n7,n8]) (fun _ i _=>L.length - (intOf i).toNat)
 case atStart=>exact⟨0,⟨#[]⟩,Nat.zero_le _,rfl,rfl,Nat.zero_le _,HT.out,R0⟩
 case round=>
  obtain⟨n,sb,hn,rfl,rfl,hsz,hj,R⟩:=hrel
  rename World=>wr
  clear R0
  have HJ:=Lib.hid hj
  clear hj
  have hlt2:=R.lt
  by_cases hlt:n<L.length
  ·obtain⟨o,hx⟩: ∃o,L[n]? =some o:=⟨_,List.getElem?_eq_getElem hlt⟩
   obtain⟨g,f,aj,cj,ta,tn,tc,hao,hg,q0,q1,q2,q3,q4,q5,q6,hLF⟩:=(HO.out.below R.du).op n o hx
   have hlt':(n:Int)<(L.length:Int):=by omega
   have hok:=HL.out o (List.mem_of_getElem? hx)
   have hJ:=(wu hx sb.data.toList).symm.trans HJ.out
   obtain⟨jv,eD,dp,ar,ri,fa,wk,tv⟩:=o
   obtain⟨⟨hd,hd'⟩,⟨ha,ha'⟩,⟨hr,hr'⟩,⟨hfa,hfa'⟩,⟨hw,hw'⟩,hG,hl⟩:=hok
   simp only at q0 q1 q2 q3 q4 q5 q6 hd ha hr hfa hw hd' ha' hr' hfa' hw' hG hl hJ hLF
   subst hao
   have htl:=xe HN.out eD hG
   have HLF:=Lib.hid hLF
   have HG:=Lib.hid hl
   clear hl hLF
   generalize hTJ:ig code N eD=TJ at hJ htl
   obtain⟨tj,ej⟩:=TJ
   have HTJ:=Lib.hid hTJ
   clear hTJ
   simp only at hJ htl
   have HJ2:=Lib.hid hJ
   clear hJ
   have v0:=bh R.r0 0
   have v1:=bh R.r0 1
   have v2:=bh R.r0 2
   have v3:=bh R.r0 3
   have v4:=bh R.r0 4
   have v5:=bh R.r0 5
   have v6:=bh R.r0 6
   have v7:=bh R.r0 7
   have v8:=bh R.r0 8
   simp only[List.getElem?_toArray,List.getElem?_cons_zero,List.getElem?_cons_succ] at v0 v1 v2 v3 v4 v5 v6 v7 v8
   have hS:qw wr W.heap.size (.slice a0 l0 c0) (.slice a1 l1 c1) (.slice a2 l2 c2) (.slice a3 l3 c3) (.slice a4 l4 c4) (.slice a5 l5 c5) n6 n7 n8 (.slice aj eD.length cj) g (f+n*7) wr:=⟨v0,v1,v2,v3,v4,v5,v6,v7,v8,q0,da _⟩
   by_cases hej:ej=0
   ·subst hej
    have hJ:=HJ2.out
    rw[if_neg (by simp)] at hJ
    by_cases hfr:fa<0\/1000000<fa
    ·rw[if_pos hfr] at hJ
     have E:=Lib.hid hJ.symm
     clear hJ
     rcases hfr with hfr|hfr
     all_goals (
      go_wp2_with fail
      go_region_held3 (fun wx=>qw wr W.heap.size (.slice a0 l0 c0) (.slice a1 l1 c1) (.slice a2 l2 c2) (.slice a3 l3 c3) (.slice a4 l4 c4) (.slice a5 l5 c5) n6 n7 n8 (.slice aj eD.length cj) g (f+n*7) wx)
       (first|(exact qw.c8 (by assumption) hlt2 hg (by assumption))|(exact qw.c8 (kG (da _)) hlt2 hg (by assumption))|go_keep)
       (first|(go_at_call 17;refine(Cc ((HF.out.below R.du).below (kG (da _))) (HLF.out.below (kG (da _))) HN.out hG HG.out (fun w' hw'=>HV.out w' (blt (kG R.du) hw'))).mono ?_;rw[HTJ.out];rintro e wx ⟨rfl,hb⟩))
      rename_i hH
      have hz:=R.after (qw.du hH)
      have r1:=aG (qw.du hH) hg q1
      have r2:=aG (qw.du hH) hg q2
      have r3:=aG (qw.du hH) hg q3
      have r4:=aG (qw.du hH) hg q4
      have r5:=aG (qw.du hH) hg q5
      go_wp2
      go_ret2
      exact⟨by rw[E.out];rfl,(hz.after (dZ (da _) _)).du⟩)
    ·rw[if_neg hfr] at hJ
     obtain⟨m,rfl⟩: ∃m:Nat,fa=m:=⟨fa.toNat,by omega⟩
     have HJ3:=Lib.hid hJ
     clear hJ
     have hm:m<=1000000:=by omega
     have hm1: ¬(m:Int)<0:=by omega
     have hm2: ¬(1000000:Int)<(m:Int):=by omega
     have y1:=c9 (IntKind.i64.wrap ((n:Int)+1))
     have w1:IntKind.i64.wrap ((n:Int)+1)=(n:Int)+1:=by simp only[IntKind.wrap,IntKind.signed,IntKind.bits];simp;omega
     have y2:=c9 dp
     have y3:=c9 ar
     have y4:=c9 ri
     have y5:=tW m
     have y6:=c9 wk
     have hsb:sb.size<=128000:=by omega
     have gz0: ¬(9223372036854775807<sb.size+(aB (IntKind.i64.wrap ((n:Int)+1))).size):=by omega
     have gz1: ¬(9223372036854775807<sb.size+(aB (IntKind.i64.wrap ((n:Int)+1))).size+1):=by omega
     have gz2: ¬(9223372036854775807<sb.size+(aB (IntKind.i64.wrap ((n:Int)+1))).size+1+(aB dp).size):=by omega
     have gz3: ¬(9223372036854775807<sb.size+(aB (IntKind.i64.wrap ((n:Int)+1))).size+1+(aB dp).size+1):=by omega
     have gz4: ¬(9223372036854775807<sb.size+(aB (IntKind.i64.wrap ((n:Int)+1))).size+1+(aB dp).size+1+(aB ar).size):=by omega
     have gz5: ¬(9223372036854775807<sb.size+(aB (IntKind.i64.wrap ((n:Int)+1))).size+1+(aB dp).size+1+(aB ar).size+1):=by omega
     have gz6: ¬(9223372036854775807<sb.size+(aB (IntKind.i64.wrap ((n:Int)+1))).size+1+(aB dp).size+1+(aB ar).size+1+(aB ri).size):=by omega
     have gz7: ¬(9223372036854775807<sb.size+(aB (IntKind.i64.wrap ((n:Int)+1))).size+1+(aB dp).size+1+(aB ar).size+1+(aB ri).size+1):=by omega
     have gz8: ¬(9223372036854775807<sb.size+(aB (IntKind.i64.wrap ((n:Int)+1))).size+1+(aB dp).size+1+(aB ar).size+1+(aB ri).size+1+(ez m).length):=by omega
     have gz9: ¬(9223372036854775807<sb.size+(aB (IntKind.i64.wrap ((n:Int)+1))).size+1+(aB dp).size+1+(aB ar).size+1+(aB ri).size+1+(ez m).length+1):=by omega
     have gz10: ¬(9223372036854775807<sb.size+(aB (IntKind.i64.wrap ((n:Int)+1))).size+1+(aB dp).size+1+(aB ar).size+1+(aB ri).size+1+(ez m).length+1+(aB wk).size):=by omega
     have gz11: ¬(9223372036854775807<sb.size+(aB (IntKind.i64.wrap ((n:Int)+1))).size+1+(aB dp).size+1+(aB ar).size+1+(aB ri).size+1+(ez m).length+1+(aB wk).size+1):=by omega
     have gz12: ¬(9223372036854775807<sb.size+(aB (IntKind.i64.wrap ((n:Int)+1))).size+1+(aB dp).size+1+(aB ar).size+1+(aB ri).size+1+(ez m).length+1+(aB wk).size+1+tj.length):=by omega
     have e:(((((((((((((sb++aB (IntKind.i64.wrap ((n:Int)+1)))++⟨#[32]⟩)++aB dp)++⟨#[32]⟩)++aB ar)++⟨#[32]⟩)++aB ri)++⟨#[32]⟩)++⟨(ez m).toArray⟩)++⟨#[32]⟩)++aB wk)++⟨#[10]⟩)++⟨tj.toArray⟩)=⟨(sb.data.toList++(ue n ⟨jv,eD,dp,ar,ri,m,wk,tv⟩++tj)).toArray⟩:=rZ (by simp[kH,ue,kF,w1])
     clear w1
     have E:=Lib.hid e
     have HZ:=Lib.hid (show(((((((((((((sb++aB (IntKind.i64.wrap ((n:Int)+1)))++⟨#[32]⟩)++aB dp)++⟨#[32]⟩)++aB ar)++⟨#[32]⟩)++aB ri)++⟨#[32]⟩)++⟨(ez m).toArray⟩)++⟨#[32]⟩)++aB wk)++⟨#[10]⟩)++⟨tj.toArray⟩).size<=(n+1)*6400 by
      have q1:(⟨#[32]⟩:ByteArray).size=1:=rfl
      have q2:(⟨#[10]⟩:ByteArray).size=1:=rfl
      have q3:(⟨(ez m).toArray⟩:ByteArray).size=(ez m).length:=rfl
      have q4:(⟨tj.toArray⟩:ByteArray).size=tj.length:=rfl
      simp only[ByteArray.size_append,q1,q2,q3,q4]
      omega)
     clear e
     go_wp2_with fail
     go_region_held3 (fun wx=>qw wr W.heap.size (.slice a0 l0 c0) (.slice a1 l1 c1) (.slice a2 l2 c2) (.slice a3 l3 c3) (.slice a4 l4 c4) (.slice a5 l5 c5) n6 n7 n8 (.slice aj eD.length cj) g (f+n*7) wx)
      (first|(exact qw.c8 (by assumption) hlt2 hg (by assumption))|(exact qw.c8 (kG (da _)) hlt2 hg (by assumption))|go_keep)
      (first|(go_at_call 17;refine(Cc ((HF.out.below R.du).below (kG (da _))) (HLF.out.below (kG (da _))) HN.out hG HG.out (fun w' hw'=>HV.out w' (blt (kG R.du) hw'))).mono ?_;rw[HTJ.out];rintro e wx ⟨rfl,hb⟩))
     rename_i hH
     have hz:=R.after (qw.du hH)
     have r1:=aG (qw.du hH) hg q1
     have r2:=aG (qw.du hH) hg q2
     have r3:=aG (qw.du hH) hg q3
     have r4:=aG (qw.du hH) hg q4
     have r5:=aG (qw.du hH) hg q5
     have hY:KQ wx wx.heap.size dp ar ri (m:Int) wk (wx.alloc (Obj.cells #[zv dp,zv ar,zv ri,zv (m:Int),zv wk] 47)):=by
      refine⟨?_,?_,?_,?_,?_,by simp,dZ (da _) _⟩<;>(simp only[World.cell?,heap_alloc];rfl)
     go_wp2_with fail
     go_region_held3 (fun wy=>KQ wx wx.heap.size dp ar ri (m:Int) wk wy)
      (first|(exact KQ.c8 (by assumption) (by assumption))|(exact KQ.c8 (kG (da _)) (by assumption))|go_keep)
      (first|(go_at_call 19;refine(Ls m _ hm).mono ?_;rintro e w' ⟨rfl,hb'⟩)|(go_at_call 18;refine(eU _ _ (by first|omega|exact V7 _) (by first|omega|exact V8 _)).mono ?_;rintro e w' ⟨rfl,hb'⟩))
     go_wp2_with fail
     rename_i hH2
     exact⟨⟨n+1,_,by omega,by first|rfl|(congr 1;omega),rfl,HZ.out,by rw[E.out];exact HJ3.out,hz.after (KQ.du hH2)⟩,by simp[intOf];omega⟩
   ·have hJ:=HJ2.out
    rw[if_pos hej] at hJ
    have E:=Lib.hid hJ.symm
    clear hJ
    go_wp2_with fail
    go_region_held3 (fun wx=>qw wr W.heap.size (.slice a0 l0 c0) (.slice a1 l1 c1) (.slice a2 l2 c2) (.slice a3 l3 c3) (.slice a4 l4 c4) (.slice a5 l5 c5) n6 n7 n8 (.slice aj eD.length cj) g (f+n*7) wx)
     (first|(exact qw.c8 (by assumption) hlt2 hg (by assumption))|(exact qw.c8 (kG (da _)) hlt2 hg (by assumption))|go_keep)
     (first|(go_at_call 17;refine(Cc ((HF.out.below R.du).below (kG (da _))) (HLF.out.below (kG (da _))) HN.out hG HG.out (fun w' hw'=>HV.out w' (blt (kG R.du) hw'))).mono ?_;rw[HTJ.out];rintro e wx ⟨rfl,hb⟩))
    rename_i hH
    have hz:=R.after (qw.du hH)
    go_wp2
    go_ret2
    exact⟨by rw[E.out];rfl,hz.du⟩
  ·have hlt': ¬(n:Int)<(L.length:Int):=by omega
   have E:=Lib.hid (Ab (by omega) HJ.out)
   go_wp2
   go_ret2
   exact⟨by rw[E.out];rfl,R.du⟩
theorem mQ{w w1:World}(hb:Below w.heap.size w w1):w.grownBy w1 none:=⟨hb.os,hb.tape,hb.output,hb.size,fun k hk _=>hb.block k hk⟩
theorem blF{a b:World}(h:Below a.drew.heap.size a.drew b):Below a.heap.size a b:=⟨h.os,h.tape,h.output,h.size,h.block⟩
theorem wv{w w1:World}{base:Nat}{e:TypeId}{sz:Nat}{v:Value}{n:Nat}{xs:List Value}(h:w.ownsRow base e sz v n xs)(hb:Below w.heap.size w w1):w1.ownsRow base e sz v n xs:=
 h.kept (mQ hb) (by cases v.ownBlock<;>simp)
theorem IsB.below{w w':World}{T e:TypeId}{B b:Nat}{bs:List Value}(h:Lib.IsBuilder T e B b bs w)(hb:Below w.heap.size w w'):Lib.IsBuilder T e B b bs w':=by
 have one: ∀p,Lib.BuilderAt T e B b p bs w->Lib.BuilderAt T e B b p bs w':=fun p ⟨h0,v,h1,h2,h3⟩=>
  ⟨h0,v,(hb.block b (Array.getElem?_eq_some_iff.1 h1).1).trans h1,wv h2 hb,h3⟩
 rcases h with h|h
 ·exact .inl (one _ h)
 ·exact .inr (one _ h)
theorem Z1{w w':World}{c:Nat}{row:Option Nat}(hg:w.grownBy w' row)(hr: ∀k,row=some k->c<=k)(hc:c<=w.heap.size):Below c w w':=
 ⟨hg.os,hg.tape,hg.output,hg.size,fun k hk=>hg.block k (by omega) (fun e=>by have:=hr k e.symm;omega)⟩
theorem WG(w:World)(B:Nat)(hB:B<=w.heap.size)(a b c:Value):(w.alloc (.cells #[a,b,c] 9)).ownsRow B 9 1 (.slice (some ⟨w.heap.size,0,none⟩) 3 3) 3 [a,b,c]:=
 ⟨rfl, .inr ⟨w.heap.size,3,_,rfl,hB,heap_alloc w _,Nat.le_refl _,by unfold maxLen;omega,rfl,rfl⟩⟩
theorem TB:(Tryz.prog.info? 9).map (fun i=>(i.zero,i.size,i.bytes))=some (some (.string ⟨#[]⟩),1,16):=by kernel_rfl
theorem Bx.Rj{w W W':World}{q c:Array Value}{u:TypeId}{k:Nat}(h:Bx w W q c u)(hk:w.heap.size+1<k)(hb:Below k W W'):Bx w W' q c u:=by
 have:=h.lt
 exact⟨(hb.block _ (by omega)).trans h.r0,(hb.block _ (by omega)).trans h.r1,h.du.trans (hb.mono (by omega))⟩
theorem IN{w:World}{B n:Nat}{v:Value}{xs:List ByteArray}(h:w.ownsRow B 9 1 v n (xs.map Value.string))(hn:0<n)(hN:xs.length<=100)(hlen:(Lib.join (xs.map (·.data.toList)) [32]).length<=100000):
 Calls Tryz.prog 14 #[v, .string ⟨#[32]⟩] w fun e w'=>e= .returned (.string ⟨(Lib.join (xs.map (·.data.toList)) [32]).toArray⟩)/\Below w.heap.size w w':=by
 have hl:xs.length=n:=by have:=h.1;simpa using this
 rcases h.2 with ⟨_,h0⟩|⟨g,cap,cur,rfl,hb,hg,hle,hm,hsz,ht⟩
 ·omega
 ·subst hl
  refine Tryz.strings_Join g 0 cap xs ⟨#[32]⟩ w (fun j x hx=>?_) (Array.getElem?_eq_some_iff.1 hg).1 (by omega) hle (by show(Lib.join (xs.map (·.data.toList)) [32]).length<=_;omega)
  have:=h.cells (g:=g) rfl j (.string x) (by simp[hx])
  rw[Nat.zero_add]
  by_cases h0:j=0
  ·simpa[Addr.add,h0] using this
  ·simpa[Addr.add,h0] using this
theorem heap_set{w:World}{g o:Nat}{c:Array Value}{t:TypeId}{fr:Nat × Nat}(h:w.heap[g]? =some (.cells c t fr))(v:Value):(w.setCell ⟨g,o,none⟩ v).heap[g]? =some (.cells (c.setIfInBounds o v) t fr):=by
 simp[World.setCell,Array.getElem?_modify,h]
theorem Lw{w:World}{g B:Nat}{a b c:Value}(hB:B<=g)(h:w.heap[g]? =some (.cells #[a,b,c] 9 (0,0)))(d:Value):(w.setCell ⟨g,2,none⟩ d).ownsRow B 9 1 (.slice (some ⟨g,0,none⟩) 3 3) 3 [a,b,d]:=
 ⟨rfl, .inr ⟨g,3,_,rfl,hB,heap_set h d,Nat.le_refl _,by unfold maxLen;omega,rfl,rfl⟩⟩
theorem ku.IM{wr w1 w2:World}{B b c:Nat}{v0 v2 jv:Value}{x:eG}{g f i k:Nat}{s0 s1:ByteArray}(hb:Below c w1 w2)(hc:b<c)(hbw:wr.heap.size=b)(hB:B+1<b)(hG:g<b)(h:ku wr B b v0 v2 jv x g f i k s0 s1 w1):ku wr B b v0 v2 jv x g f i k s0 s1 w2:=by
 obtain⟨q0,q1,q2,q3,q4,q5,q6,q7,q8,q9,q10,q11,hs,hw⟩:=h
 have kc: ∀{p o:Nat} {v:Option Value},p<=b->w1.cell? ⟨p,o,none⟩=v->w2.cell? ⟨p,o,none⟩=v:=fun {p o v} hp hv=>(hb.cell (p:=⟨p,o,none⟩) (by show p<c;omega)).trans hv
 exact⟨kc (by omega) q0,kc (by omega) q1,kc (by omega) q2,kc (by omega) q3,kc (by omega) q4,kc (by omega) q5,kc (by omega) q6,kc (by omega) q7,kc (by omega) q8,kc (by omega) q9,kc (by omega) q10,kc (by omega) q11,Nat.lt_of_lt_of_le hs hb.size,hw.trans (hb.mono (by omega))⟩
theorem ku.du{wr w1:World}{B b:Nat}{v0 v2 jv:Value}{x:eG}{g f i k:Nat}{s0 s1:ByteArray}(h:ku wr B b v0 v2 jv x g f i k s0 s1 w1):Below wr.heap.size wr w1:=h.2.2.2.2.2.2.2.2.2.2.2.2.2
def H5(N:cd)(df:Bool)(run:Int):ByteArray:=if df then Fs (N.run run) else ⟨#[119,97,108,107]⟩
def G5(b:Bool):List ByteArray:=if b then [⟨#[115,116,97,121]⟩] else []
set_option maxHeartbeats 12800000 in
theorem Mz{W:World}{N:cd}{a0 a1 a2 a3 a4 a5 aj:Option Addr}{l0 l1 l2 l3 l4 l5 lj c0 c1 c2 c3 c4 c5 cj:Nat}{n6 n7 n8:Value}{code:Int}{G:List eG}(hF:NF W N a0 l0 a2 l2)(hL:LF W G aj lj)(hV0:code=0->NV N)(hG:G.length<=20)(hl: ∀l∈G,l.ok)(hP:Pow W)
 (hC: ∀w',Below W.heap.size W w'->Calls Tryz.prog 26 #[.agg #[.slice a0 l0 c0, .slice a1 l1 c1, .slice a2 l2 c2, .slice a3 l3 c3, .slice a4 l4 c4, .slice a5 l5 c5,n6,n7,n8]] w' fun en w''=>(∃a b,en= .returned (.tuple #[a,b, .int .i64 code]))/\Below w'.heap.size w' w''):
 Calls Tryz.prog 11 #[.agg #[.slice a0 l0 c0, .slice a1 l1 c1, .slice a2 l2 c2, .slice a3 l3 c3, .slice a4 l4 c4, .slice a5 l5 c5,n6,n7,n8], .agg #[.slice aj lj cj]] W fun en w'=>en= .returned (.tuple #[.string ⟨(ig code N G).1.toArray⟩, .int .i64 (ig code N G).2])/\Below W.heap.size W w':=by
 have HC:=Lib.hid hC
 have HP:=Lib.hid hP
 have R0:=Bx.start W #[.slice a0 l0 c0, .slice a1 l1 c1, .slice a2 l2 c2, .slice a3 l3 c3, .slice a4 l4 c4, .slice a5 l5 c5,n6,n7,n8] #[.slice aj lj cj] 45
 obtain⟨T,hT⟩: ∃T,T=ig code N G:=⟨_,rfl⟩
 rw[←hT]
 by_cases hc:code=0
 ·subst hc
  have hN:=hV0 rfl
  have HT:=Lib.hid (show nU N (G.drop 0) []=T from hT.symm)
  have HF:=Lib.hid hF
  have HL:=Lib.hid hL
  have HN:=Lib.hid hN
  have HO:=Lib.hid hl
  have e0:=hF.e0
  have ej:=hL.e
  clear hT hC hN hF hL hl hV0 hP
  subst e0 ej
  go_enter Tryz.func11,Tryz.ntmps11
  go_wp2_with (go_at_call 26;refine(HC.out _ R0.du).mono ?_;rintro en w2 ⟨⟨a,b,rfl⟩,hb2⟩;have R2:=R0.after hb2;have hvj:=(R2.cells (Obj.cells #[Value.pointer none,Value.slice none 0 0] 59)).2.2.2.2.2.2.2.2.2)
  have hB2:=R2.lt
  have hBb:W.heap.size+1<w2.heap.size:=by omega
  have hI0:Lib.IsBuilder 59 5 w2.heap.size w2.heap.size (Lib.byteCells []) (w2.alloc (.cells #[.pointer none, .slice none 0 0] 59)):=by
   exact .inl ⟨Nat.le_refl _,_,heap_alloc w2 _,World.ownsRow_nil _ _ _ _,by simp[Value.ownBlock]⟩
  go_loopw [26] (fun i wr=> ∃(n:Nat)(acc:List UInt8),n<=G.length/\i= .int .i64 n/\acc.length<=n*300/\nU N (G.drop n) acc=T/\Lib.IsBuilder 59 5 w2.heap.size w2.heap.size (Lib.byteCells acc) wr/\Below w2.heap.size w2 wr/\Bx W wr #[.slice a0 N.stops.length c0, .slice a1 l1 c1, .slice a2 l2 c2, .slice a3 l3 c3, .slice a4 l4 c4, .slice a5 l5 c5,n6,n7,n8] #[.slice aj G.length cj] 45) (fun i _=>G.length - (intOf i).toNat)
  case atStart=>exact⟨0,[],Nat.zero_le _,rfl,Nat.zero_le _,HT.out,hI0,dZ (da _) _,R2.after (dZ (da _) _)⟩
  case round=>
   obtain⟨n,acc,hn,rfl,hsz,hj,hI,hBl,R⟩:=hrel
   rename World=>wr
   clear R0 R2 hb2 hI0 hvj
   have HJ:=Lib.hid hj
   have HI:=Lib.hid hI
   clear hj hI
   have hlt2:=R.lt
   have z0:=bh R.r0 0
   have z2:=bh R.r0 2
   have zj:=bh R.r1 0
   simp only[List.getElem?_toArray,List.getElem?_cons_zero,List.getElem?_cons_succ] at z0 z2 zj
   by_cases hlt:n<G.length
   ·obtain⟨x,hx⟩: ∃x,G[n]? =some x:=⟨_,List.getElem?_eq_getElem hlt⟩
    obtain⟨gj,fj,haj,hgj,y0,y1,y2,y3,y4,y5,y6,y7,y8⟩:=(HL.out.below R.du).le n x hx
    have hlt':(n:Int)<(G.length:Int):=by omega
    have hok:=HO.out x (List.mem_of_getElem? hx)
    obtain⟨df,run,ek,off,fr,tt,dp,ar,stay⟩:=x
    simp only at y0 y1 y2 y3 y4 y5 y6 y7 y8
    subst haj
    by_cases hb:kB N ⟨df,run,ek,off,fr,tt,dp,ar,stay⟩=true
    ·have E:=Lib.hid (AT hx HJ.out hb)
     have HB:=Lib.hid hb
     obtain⟨v0,v1,v2,v3,v4,v5,v6,v7,v8,vj⟩:=R.cells (Obj.cells #[Value.bool df,zv run,zv ek,zv off,zv fr,zv tt,zv dp,zv ar,Value.bool stay] 83)
     clear hb hok
     go_wp2_with (go_at_call 27;refine(A9 ((HF.out.below R.du).below (dZ (da _) _)) _ _ _ _ _ _ _ _ _).mono ?_;rintro en w3 ⟨rfl,hb3⟩;have R3:=R.after (blt (dZ (da _) _) hb3))
     all_goals first
      |(go_ret2;exact⟨by rw[E.out];rfl,by first|exact R3.du|exact(R.after (dZ (da _) _)).du⟩)
      |(exfalso;exact wZ HB.out (by assumption) (by assumption) (by assumption) (by assumption) (fun hr=>by first|exact absurd hr (by assumption)|(have hh:=(‹_/\(!pY N _)=false›).2;rw[Bool.not_eq_false'] at hh;exact hh)))
    ·have hgd:=yp hb
     have HJ2:=Lib.hid (xc hx HJ.out hb)
     have LEN0:=AP HN.out _ hb
     simp only at hgd
     clear hb
     obtain⟨i,rfl⟩: ∃i:Nat,fr=i:=⟨fr.toNat,by omega⟩
     obtain⟨k,rfl⟩: ∃k:Nat,tt=k:=⟨tt.toNat,by omega⟩
     have hi2:i<N.stops.length:=by omega
     have hk2:k<N.stops.length:=by omega
     obtain⟨g,f,ha0,hg,hs0⟩:=(HF.out.below R.du).st i _ (List.getElem?_eq_getElem hi2)
     obtain⟨g',f',ha0',-,hs1⟩:=(HF.out.below R.du).st k _ (List.getElem?_eq_getElem hk2)
     rw[ha0] at ha0'
     obtain⟨rfl,rfl⟩:g=g'/\f=f':=by injection ha0' with h;injection h with h1 h2;exact⟨h1,h2⟩
     clear ha0'
     subst ha0
     have hn0:=HN.out.st _ (List.getElem_mem hi2)
     have hn1:=HN.out.st _ (List.getElem_mem hk2)
     have e0:N.stop (i:Int)=N.stops[i].id:=by simp[cd.stop,hi2]
     have e1:N.stop (k:Int)=N.stops[k].id:=by simp[cd.stop,hk2]
     generalize N.stops[i].id=s0 at hs0 hn0 e0
     generalize N.stops[k].id=s1 at hs1 hn1 e1
     have hokd:jg dp:=hok.2.2.2.2.2.1
     have hoka:jg ar:=hok.2.2.2.2.2.2
     have zd:=c9 dp
     have za:=c9 ar
     have hi3: ¬(i:Int)<0:=by omega
     have hk3: ¬(k:Int)<0:=by omega
     have hi4:(i:Int)<N.stops.length:=by omega
     have hk4:(k:Int)<N.stops.length:=by omega
     obtain⟨i0,hii0,hz0,hz1,hz2⟩:=info_parts TB
     have LEN:=Lib.hid LEN0
     clear LEN0
     obtain⟨v0,v1,v2,v3,v4,v5,v6,v7,v8,vj⟩:=R.cells (Obj.cells #[Value.bool df,zv run,zv ek,zv off,zv (i:Int),zv (k:Int),zv dp,zv ar,Value.bool stay] 83)
     have hS:ku wr W.heap.size wr.heap.size (.slice (some ⟨g,f,none⟩) N.stops.length c0) (.slice a2 l2 c2) (.slice (some ⟨gj,fj,none⟩) G.length cj) ⟨df,run,ek,off,i,k,dp,ar,stay⟩ g f i k s0 s1 (wr.alloc (Obj.cells #[Value.bool df,zv run,zv ek,zv off,zv (i:Int),zv (k:Int),zv dp,zv ar,Value.bool stay] 83)):=by
      refine⟨v0,v2,vj,?_,?_,?_,?_,?_,?_,?_,aG (dZ (da _) _) hg hs0,aG (dZ (da _) _) hg hs1,by simp,dZ (da _) _⟩<;>(simp only[World.cell?,heap_alloc];rfl)
     go_upto_region 8 with fail
     go_cut [63] from 28 to 112 (fun s63 wc=>s63=Value.bool false/\Below (wr.alloc (Obj.cells #[Value.bool df,zv run,zv ek,zv off,zv (i:Int),zv (k:Int),zv dp,zv ar,Value.bool stay] 83)).heap.size (wr.alloc (Obj.cells #[Value.bool df,zv run,zv ek,zv off,zv (i:Int),zv (k:Int),zv dp,zv ar,Value.bool stay] 83)) wc)
     case first=>
      cases df
      ·go_wp2
       go_meet
       case rel=>exact⟨by first|rfl|(simp;omega),da _⟩
      ·have hex:=hgd.2.2.2.2 rfl
       have hHF:=Lib.hid (A9 ((HF.out.below R.du).below (dZ (da _) (Obj.cells #[Value.bool true,zv run,zv ek,zv off,zv (i:Int),zv (k:Int),zv dp,zv ar,Value.bool stay] 83))) (c0:=c0) (a1:=a1) (l1:=l1) (c1:=c1) (c2:=c2) (a3:=a3) (l3:=l3) (c3:=c3) (a4:=a4) (l4:=l4) (c4:=c4) (a5:=a5) (l5:=l5) (c5:=c5) (n6:=n6) (n7:=n7) (n8:=n8) true run ek off i k dp ar stay)
       go_wp2_with (go_at_call 27;refine hHF.out.mono ?_;rw[hex];rintro en w3 ⟨rfl,hb3⟩)
       go_meet
       case rel=>exact⟨by first|rfl|(simp;omega),hb3⟩
     case rest=>
     obtain⟨rfl,hb3⟩:=hcut
     have hS3:=ku.c8 hb3 hlt2 hg hS
     have R3:=R.after (blt (dZ (da _) _) hb3)
     clear hS v0 v1 v2 v3 v4 v5 v6 v7 v8 vj
     go_upto_region 10 with fail
     go_region_held3 (fun wx=>ku wr W.heap.size wr.heap.size (.slice (some ⟨g,f,none⟩) N.stops.length c0) (.slice a2 l2 c2) (.slice (some ⟨gj,fj,none⟩) G.length cj) ⟨df,run,ek,off,i,k,dp,ar,stay⟩ g f i k s0 s1 wx)
      (first|(exact ku.c8 (by assumption) hlt2 hg (by assumption))|(exact ku.c8 (kG (da _)) hlt2 hg (by assumption))|(exact ku.c8 (dZ (da _) _) hlt2 hg (by assumption))|go_keep)
      (first|(go_at_call 28;refine(IQ _ hokd _ (jx HP.out (kG R3.du))).mono ?_;rintro e wx ⟨rfl,hb⟩))
     rename_i hH
     have hsz0:wr.heap.size+1<=wx.heap.size:=by have h1:=hb.size;have h2:=hb3.size;simp at h1 h2;omega
     go_upto_if 76 with fail
     go_cut [] from 28 to 112 (fun wy=>wy.ownsRow (wr.heap.size+1) 9 1 (.slice (some ⟨wx.heap.size,0,none⟩) 3 3) 3 [.string s0, .string (aB dp), .string (H5 N df run)]/\ku wr W.heap.size wr.heap.size (.slice (some ⟨g,f,none⟩) N.stops.length c0) (.slice a2 l2 c2) (.slice (some ⟨gj,fj,none⟩) G.length cj) ⟨df,run,ek,off,i,k,dp,ar,stay⟩ g f i k s0 s1 wy)
     case first=>
      cases df
      ·go_wp2
       go_meet
       case rel=>exact⟨WG wx (wr.heap.size+1) hsz0 _ _ _,hH⟩
      ·obtain⟨x0,x1,x2,x3,x4⟩:=CS (hgd.2.2.2.2 rfl)
       simp only at x0 x1
       obtain⟨r,rfl⟩: ∃r:Nat,run=r:=⟨run.toNat,by omega⟩
       have hr2:r<N.runs.length:=by omega
       obtain⟨g2,f2,ca,cc,ha2,hg2,q0,q1,q2,q3,q4,q5,q6,q7⟩:=(HF.out.below (R.du.trans ((ku.du hH).mono R.du.size))).ru r _ (List.getElem?_eq_getElem hr2)
       subst ha2
       obtain⟨hid,hd0,hd1,hi0,hi1⟩:=HN.out.ru _ (List.getElem_mem hr2)
       have e2:=run_get (List.getElem?_eq_getElem hr2)
       have hm:H5 N true (r:Int)=Fs N.runs[r]:=by simp[H5,e2]
       have HM:=Lib.hid hm
       clear hm
       generalize N.runs[r]=y at*
       have hr3:r<l2:=by have:=HF.out.e2;omega
       have hr4:(r:Int)<(l2:Int):=by omega
       clear x0 x1 x2 x3 x4 e2 hgd
       go_wp2_with (go_at_call 29;refine(Tz y _ _ (jx HP.out (blt R.du (ku.du hH))) hid hd0 hd1 hi0 hi1).mono ?_;rintro e w5 ⟨rfl,hb5⟩;have hq5:=(hb5.block wx.heap.size (by simp)).trans (heap_alloc wx _);have cq5:w5.cell? ⟨wx.heap.size,2,none⟩=some (.string ⟨#[119,97,108,107]⟩):=(by simp[World.cell?,hq5]);have fq5:w5.frozen? ⟨wx.heap.size,2,none⟩=false:=(by simp[World.frozen?,hq5]);have hH6:=ku.IM ((Below.refl (wr.heap.size+1) w5).setCell (p:=⟨wx.heap.size,2,none⟩) (by show wr.heap.size+1<=wx.heap.size;omega) (.string (Fs y))) (Nat.lt_succ_self _) rfl hlt2 hg (ku.c8 hb5 hlt2 hg hH);have hO6:=Lw (B:=wr.heap.size+1) (by omega) hq5 (.string (Fs y)))
       go_meet
       case rel=>exact⟨by rw[HM.out];exact hO6,hH6⟩
     case rest=>
     obtain⟨hO3,hH3⟩:=hcut
     clear hH hb hS3
     obtain⟨md,hmd⟩: ∃m,m=H5 N df run:=⟨_,rfl⟩
     have hml:md.data.toList=vM N ⟨df,run,ek,off,i,k,dp,ar,stay⟩:=by rw[hmd];cases df<;>simp[H5,vM]
     rw[←hmd] at hO3
     obtain⟨X0,hX0⟩: ∃l:List ByteArray,l=[s0,aB dp,md]++G5 stay:=⟨_,rfl⟩
     have hXl:3<=X0.length/\X0.length<=4:=by rw[hX0];cases stay<;>simp[G5]
     go_upto_if 91 with fail
     go_cut [12] from 28 to 112 (fun s12 wz=>wz.ownsRow (wr.heap.size+1) 9 1 s12 X0.length (X0.map Value.string)/\ku wr W.heap.size wr.heap.size (.slice (some ⟨g,f,none⟩) N.stops.length c0) (.slice a2 l2 c2) (.slice (some ⟨gj,fj,none⟩) G.length cj) ⟨df,run,ek,off,i,k,dp,ar,stay⟩ g f i k s0 s1 wz)
     case first=>
      cases stay
      ·go_wp2
       go_meet
       case rel=>exact⟨by rw[hX0];exact hO3,hH3⟩
      ·have hH0:=ku.c8 (dZ (da _) (Obj.cells #[Value.string ⟨#[115,116,97,121]⟩] 9)) hlt2 hg hH3
       go_wp2_with (at_builtin;refine wpList_append_lies _ rfl (.tmp 92) (.tmp 93) 68 rfl (wr.heap.size+1) 9 i0 (.string ⟨#[]⟩) 1 16 (by kernel_rfl) hii0 hz0 hz1 hz2 rfl (by decide) (.slice (some ⟨wx.heap.size,0,none⟩) 3 3) 3 [.string s0, .string (aB dp), .string md] (by simp[Act.eval,Act.put]) (hO3.alloc _) ⟨wc.heap.size,0,none⟩ 1 1 [.string ⟨#[115,116,97,121]⟩] (by simp[Act.eval,Act.put]) rfl (World.news_of_block (cs:= #[.string ⟨#[115,116,97,121]⟩]) (heap_alloc wc _)) (by simp[Value.oneCell']) (by decide) (by decide) (by decide) (by have:=(ku.du hH3).size;have:=hH3.2.2.2.2.2.2.2.2.2.2.2.2.1;simp;omega) _ rfl ?_;intro g4 cap4 w4 hown4 hgrow4 hat4 hlt4;have hH4:=ku.IM (Z1 hgrow4 (fun k h=>(hO3.lt k h).1) (by have:=hH3.2.2.2.2.2.2.2.2.2.2.2.2.1;simp;omega)) (Nat.lt_succ_self _) rfl hlt2 hg hH0)
       go_meet
       case rel=>exact⟨by rw[hX0];exact hown4,hH4⟩
     case rest=>
     obtain⟨hO,hH⟩:=hcut
     rename_i s12
     clear hO3 hH3
     have ROW:=Lib.hid (fun k h=>(hO.lt k h).1)
     obtain⟨sJ,hsJ⟩: ∃s:ByteArray,s=⟨(Lib.join (List.map (fun x:ByteArray=>x.data.toList) (X0++[s1,aB ar])) [32]).toArray⟩:=⟨_,rfl⟩
     have hJL:sJ.data.toList++[10]=mN N ⟨df,run,ek,off,i,k,dp,ar,stay⟩:=by
      rw[hsJ,hX0]
      cases stay<;>simp[Lib.join,List.intercalate,mN,e0,e1,hml,vM,kF,rm,G5]
     have hJz:sJ.data.toList.length+1<=300:=by
      have h:=congrArg List.length hJL
      have hq:=LEN.out
      simp only[List.length_append,List.length_cons,List.length_nil] at h
      omega
     have hJz':sJ.size<=299:=by have h:sJ.data.toList.length=sJ.size:=Array.length_toList;omega
     have gjz: ¬(9223372036854775807<sJ.size+1):=by omega
     have HJoin:=Lib.hid hsJ
     have HJL:=Lib.hid hJL
     clear hsJ hJL hJz hX0 hml hmd
     go_upto_region 16 with fail
     go_region_held3 (fun wx=>ku wr W.heap.size wr.heap.size (.slice (some ⟨g,f,none⟩) N.stops.length c0) (.slice a2 l2 c2) (.slice (some ⟨gj,fj,none⟩) G.length cj) ⟨df,run,ek,off,i,k,dp,ar,stay⟩ g f i k s0 s1 wx)
      (first|assumption|(exact ku.c8 (by assumption) hlt2 hg (by assumption))|(exact ku.c8 (kG (da _)) hlt2 hg (by assumption))|(exact ku.c8 (dZ (da _) _) hlt2 hg (by assumption))|go_keep)
      (first
        |(go_at_call 28;refine(IQ _ hoka _ (jx HP.out (kG (R.du.trans ((ku.du hH).mono R.du.size))))).mono ?_;rintro e wi ⟨rfl,hbi⟩;have hOi:=wv hO (blF hbi);have hzi:wr.heap.size+1<=wi.heap.size:=Nat.le_trans hH.2.2.2.2.2.2.2.2.2.2.2.2.1 (blF hbi).size)
        |(refine step_append_lies _ rfl (.tmp 95) (.tmp 106) 68 rfl (wr.heap.size+1) 9 i0 (.string ⟨#[]⟩) 1 16 (by kernel_rfl) hii0 hz0 hz1 hz2 rfl (by decide) u12 X0.length (X0.map Value.string) (by simp[Act.eval,Act.put]) (hOi.alloc _) ⟨wi.heap.size,0,none⟩ 2 2 [.string s1, .string (aB ar)] (by simp[Act.eval,Act.put]) rfl (World.news_of_block (cs:= #[.string s1, .string (aB ar)]) (heap_alloc wi _)) (by simp[Value.oneCell']) (by decide) (by unfold maxLen;omega) (by omega) (by simp;omega) _ rfl ?_;intro g3 cap3 w6 hown6 hgrow6 hat6 hlt6;have hS6:=ku.IM (Z1 hgrow6 ROW.out (by simp;omega)) (Nat.lt_succ_self _) rfl hlt2 hg (by assumption)))
     have hW6:=ku.du hS6
     have OWN:=Lib.hid hown6
     clear hown6 hgrow6 hat6
     go_wp2_with (first
      |(go_at_call 14;refine(IN (n:=X0.length+2) (xs:=X0++[s1,aB ar]) (by rw[List.map_append];exact OWN.out) (by omega) (by simp;omega) (by have h:=HJoin.out;have h2:=congrArg (fun z:ByteArray=>z.data.toList.length) h;simp only[List.toList_toArray] at h2;rw[←h2,Array.length_toList];show sJ.size<=100000;omega)).mono ?_;rw[←HJoin.out];rintro e w7 ⟨rfl,hb7⟩;have hW7:=blt hW6 hb7)
      |(go_at_call 13;refine(Tryz.Builder_WriteString w2.heap.size w2.heap.size (Lib.byteCells acc) _ _ (IsB.below HI.out hW7) (by rw[Lib.byteCells_length,ByteArray.size_append];show acc.length+(sJ.size+1)<=140737488355328;omega) (by have:=hBl.size;have:=hW7.size;omega)).mono ?_;rintro e w8 ⟨rfl,hBA,hb8⟩))
     refine⟨⟨n+1,acc++mN N ⟨df,run,ek,off,i,k,dp,ar,stay⟩,by omega,by first|rfl|(congr 1;omega),by have h:=LEN.out;simp only[List.length_append];omega,HJ2.out, .inr ?_,(hBl.trans (hW7.mono hBl.size)).trans hb8,(R.after hW7).Rj hBb hb8⟩,by simp[intOf];omega⟩
     have h9:Lib.byteCells (acc++mN N ⟨df,run,ek,off,i,k,dp,ar,stay⟩)=Lib.byteCells acc++Lib.strCells (sJ++⟨#[10]⟩):=by rw[Lib.byteCells_append,Lib.strCells_eq,kH];exact congrArg (fun z=>Lib.byteCells acc++Lib.byteCells z) HJL.out.symm
     rw[h9]
     exact hBA
   ·have hlt': ¬(n:Int)<(G.length:Int):=by omega
    have E:=Lib.hid (AS (by omega) HJ.out)
    have hBS:=hBl.size
    go_wp2_with (go_at_call 16;refine(Tryz.Builder_String_any _ _ _ _ HI.out (by omega)).mono ?_;rintro e w3 ⟨rfl,hb3⟩)
    go_ret2
    exact⟨by rw[E.out];rfl,(R.Rj hBb hb3).du⟩
 ·have hT':T=([],21):=by rw[hT,ig,if_neg hc]
  have E:=Lib.hid hT'
  clear hT hT' hF hL
  go_enter Tryz.func11,Tryz.ntmps11
  go_wp2_with (go_at_call 26;refine(HC.out _ R0.du).mono ?_;rintro en w2 ⟨⟨a,b,rfl⟩,hb2⟩;have R2:=R0.after hb2)
  go_ret2
  exact⟨by rw[E.out];rfl,R2.du⟩
end Go.Proofs.Nw
namespace Go.Proofs
open Go.Shelf
open Go.RowKit in
theorem Tryz.Builder_WriteString_k(B b:Nat)(bs:List Value)(s:ByteArray)(w:World)(h:Lib.IsBuilderF 59 5 B b bs w)(hlen:bs.length+s.size<=140737488355328)(hBw:B<=w.heap.size):
 Calls Tryz.prog 13 #[.pointer (some ⟨b,0,none⟩), .string s] w fun e w'=>e= .returned (.tuple #[.int .i64 s.size, .nilIface])/\(Lib.BuilderAtF 59 5 B b (.pointer (some ⟨b,0,none⟩)) (bs++Lib.strCells s) w'/\Below B w w'/\Lib.OthersKept 5 (some b) w w'):=Any.Builder_WriteString_k {Tryz.pT with} Tryz.eg B b bs s w h hlen hBw
open Go.RowKit in
theorem Tryz.Builder_String_k(B b:Nat)(l:List UInt8)(w:World)(h:Lib.IsBuilderF 59 5 B b (Lib.byteCells l) w)(hBw:B<=w.heap.size):
 Calls Tryz.prog 16 #[.pointer (some ⟨b,0,none⟩)] w fun e w'=>e= .returned (.string ⟨l.toArray⟩)/\(Lib.IsBuilderF 59 5 B b (Lib.byteCells l) w'/\Below B w w'/\Lib.OthersKept 5 (some b) w w'):=Any.Builder_String_any_k {Tryz.pT with} Tryz.eg B b l w h hBw
end Go.Proofs
namespace Go.Proofs.Nw
open Go Go.Proofs Go.AV Go.RowKit Go.Shelf Go.Sort
set_option maxRecDepth 1000000
theorem Ny.below{w w':World}{T e:TypeId}{B b:Nat}{bs:List Value}(h:Lib.IsBuilderF T e B b bs w)(hb:Below w.heap.size w w'):Lib.IsBuilderF T e B b bs w':=by
 have one: ∀p,Lib.BuilderAtF T e B b p bs w->Lib.BuilderAtF T e B b p bs w':=fun p ⟨h0,v,h1,h2,h3⟩=>
  ⟨h0,v,(hb.block b (Array.getElem?_eq_some_iff.1 h1).1).trans h1,h2.kept (mQ hb) (by cases v.ownBlock<;>simp),h3⟩
 rcases h with h|h
 ·exact .inl (one _ h)
 ·exact .inr (one _ h)
theorem Ny.lt{w:World}{T e:TypeId}{B b:Nat}{bs:List Value}(h:Lib.IsBuilderF T e B b bs w):b<w.heap.size:=by
 rcases h with ⟨_,v,h1,_⟩|⟨_,v,h1,_⟩
 ·exact(Array.getElem?_eq_some_iff.1 h1).1
 ·exact(Array.getElem?_eq_some_iff.1 h1).1
theorem B1.Rj{w W W':World}{q:Array Value}{k:Nat}(h:B1 w W q)(hk:w.heap.size<k)(hb:Below k W W'):B1 w W' q:=
 ⟨(hb.block _ hk).trans h.r0,h.du.trans (hb.mono (by omega))⟩
theorem B1.cells{W wr:World}{v0 v1 v2 v3 v4 v5 v6 v7 v8:Value}(R:B1 W wr #[v0,v1,v2,v3,v4,v5,v6,v7,v8])(o:Obj):(wr.alloc o).cell? ⟨W.heap.size,0,none⟩=some v0/\(wr.alloc o).cell? ⟨W.heap.size,1,none⟩=some v1/\(wr.alloc o).cell? ⟨W.heap.size,2,none⟩=some v2/\(wr.alloc o).cell? ⟨W.heap.size,3,none⟩=some v3/\(wr.alloc o).cell? ⟨W.heap.size,4,none⟩=some v4/\(wr.alloc o).cell? ⟨W.heap.size,5,none⟩=some v5/\(wr.alloc o).cell? ⟨W.heap.size,6,none⟩=some v6/\(wr.alloc o).cell? ⟨W.heap.size,7,none⟩=some v7/\(wr.alloc o).cell? ⟨W.heap.size,8,none⟩=some v8:=by
 have hlt:=R.lt
 have hb:Below wr.heap.size wr (wr.alloc o):=dZ (da _) _
 have h0:=fun k=>(hb.cell (p:=⟨W.heap.size,k,none⟩) (by show W.heap.size<_;omega)).trans (bh R.r0 k)
 exact⟨h0 0,h0 1,h0 2,h0 3,h0 4,h0 5,h0 6,h0 7,h0 8⟩
theorem WE(w:World)(a b c d e f:Value):(w.alloc (.cells #[a,b,c,d,e,f] 9)).ownsRow 0 9 1 (.slice (some ⟨w.heap.size,0,none⟩) 6 6) 6 [a,b,c,d,e,f]:=
 ⟨rfl, .inr ⟨w.heap.size,6,_,rfl,Nat.zero_le _,heap_alloc w _,Nat.le_refl _,by unfold maxLen;omega,rfl,rfl⟩⟩
abbrev vX(b:Nat)(x0:Value)(dp ar ri fa wk:Int)(x6:Value)(wx:World):Prop:=
 wx.cell? ⟨b,1,none⟩=some (zv dp)/\wx.cell? ⟨b,2,none⟩=some (zv ar)/\wx.cell? ⟨b,3,none⟩=some (zv ri)/\wx.cell? ⟨b,5,none⟩=some (zv wk)/\wx.heap[b]? =some (.cells #[x0,zv dp,zv ar,zv ri,zv fa,zv wk,x6] 50 (0,0))
theorem vX.of{b:Nat}{x0:Value}{dp ar ri fa wk:Int}{x6:Value}{wx:World}(h:wx.heap[b]? =some (.cells #[x0,zv dp,zv ar,zv ri,zv fa,zv wk,x6] 50 (0,0))):vX b x0 dp ar ri fa wk x6 wx:=
 ⟨bh h 1,bh h 2,bh h 3,bh h 5,h⟩
theorem vX.lt{b:Nat}{x0:Value}{dp ar ri fa wk:Int}{x6:Value}{wx:World}(h:vX b x0 dp ar ri fa wk x6 wx):b<wx.heap.size:=(Array.getElem?_eq_some_iff.1 h.2.2.2.2).1
theorem vX.c8{w1 w2:World}{b:Nat}{x0:Value}{dp ar ri fa wk:Int}{x6:Value}(hb:Below w1.heap.size w1 w2)(h:vX b x0 dp ar ri fa wk x6 w1):vX b x0 dp ar ri fa wk x6 w2:=
 vX.of ((hb.block _ h.lt).trans h.2.2.2.2)
theorem vX.TA{w1 w2:World}{b B:Nat}{x0:Value}{dp ar ri fa wk:Int}{x6:Value}(hk:Lib.OthersKept 5 (some B) w1 w2)(hB:B<b)(h:vX b x0 dp ar ri fa wk x6 w1):vX b x0 dp ar ri fa wk x6 w2:=
 vX.of (hk _ _ h.2.2.2.2 (by simp;omega) (by intro c fz h;injection h with _ h2;exact absurd h2 (by decide)))
set_option maxHeartbeats 6400000 in
theorem Pn{W:World}{N:cd}{a0 a1 a2 a3 a4 a5 ao:Option Addr}{l0 l1 l2 l3 l4 l5 lo c0 c1 c2 c3 c4 c5 co:Nat}{n6 n7 n8:Value}{code:Int}{L:List gy}(hF:NF W N a0 l0 a2 l2)(hO:OF W L ao lo)(hV0:code=0->NV N)(hn20:L.length<=20)(hf: ∀o∈L,o.P3)(hP:Pow W)
 (hC: ∀w',Below W.heap.size W w'->Calls Tryz.prog 26 #[.agg #[.slice a0 l0 c0, .slice a1 l1 c1, .slice a2 l2 c2, .slice a3 l3 c3, .slice a4 l4 c4, .slice a5 l5 c5,n6,n7,n8]] w' fun en w''=>(∃a b,en= .returned (.tuple #[a,b, .int .i64 code]))/\Below w'.heap.size w' w''):
 Calls Tryz.prog 7 #[.agg #[.slice a0 l0 c0, .slice a1 l1 c1, .slice a2 l2 c2, .slice a3 l3 c3, .slice a4 l4 c4, .slice a5 l5 c5,n6,n7,n8], .slice ao lo co] W fun en w'=>en= .returned (.tuple #[.string ⟨(mJ code N 0 L []).1.toArray⟩, .int .i64 (mJ code N 0 L []).2])/\Below W.heap.size W w':=by
 have HC:=Lib.hid hC
 have HP:=Lib.hid hP
 have R0:=B1.start W #[.slice a0 l0 c0, .slice a1 l1 c1, .slice a2 l2 c2, .slice a3 l3 c3, .slice a4 l4 c4, .slice a5 l5 c5,n6,n7,n8]
 obtain⟨T,hT⟩: ∃T,T=mJ code N 0 L []:=⟨_,rfl⟩
 rw[←hT]
 have HT:=Lib.hid (show mJ code N 0 (L.drop 0) []=T from hT.symm)
 have HF:=Lib.hid hF
 have HO:=Lib.hid hO
 have HN:=Lib.hid hV0
 have HL:=Lib.hid hf
 have e0:=hO.e
 clear hT hC hF hO hf hV0 hP
 subst e0
 have hI0:Lib.IsBuilderF 59 5 (W.heap.size+1) (W.heap.size+1) (Lib.byteCells []) ((W.alloc (.cells #[.slice a0 l0 c0, .slice a1 l1 c1, .slice a2 l2 c2, .slice a3 l3 c3, .slice a4 l4 c4, .slice a5 l5 c5,n6,n7,n8] 31)).alloc (.cells #[.pointer none, .slice none 0 0] 59)):=by
  have e1:(W.alloc (.cells #[.slice a0 l0 c0, .slice a1 l1 c1, .slice a2 l2 c2, .slice a3 l3 c3, .slice a4 l4 c4, .slice a5 l5 c5,n6,n7,n8] 31)).heap.size=W.heap.size+1:=by simp
  exact .inl ⟨Nat.le_refl _,_,by rw[←e1];exact heap_alloc _ _,World.ownsRowF_nil _ _ _ _,by simp[Value.ownBlock]⟩
 go_enter Tryz.func7,Tryz.ntmps7
 go_wp2
 go_loopw [14] (fun i wr=> ∃(n:Nat)(acc:List UInt8),n<=L.length/\i= .int .i64 n/\acc.length<=n*6400/\mJ code N n (L.drop n) acc=T/\Lib.IsBuilderF 59 5 (W.heap.size+1) (W.heap.size+1) (Lib.byteCells acc) wr/\B1 W wr #[.slice a0 l0 c0, .slice a1 l1 c1, .slice a2 l2 c2, .slice a3 l3 c3, .slice a4 l4 c4, .slice a5 l5 c5,n6,n7,n8]) (fun i _=>L.length - (intOf i).toNat)
 case atStart=>exact⟨0,[],Nat.zero_le _,rfl,Nat.zero_le _,HT.out,hI0,R0.after (dZ (da _) _)⟩
 case round=>
  obtain⟨n,acc,hn,rfl,hsz,hj,hI,R⟩:=hrel
  rename World=>wr
  clear R0 hI0
  have HJ:=Lib.hid hj
  have HI:=Lib.hid hI
  have hBlt:=Ny.lt hI
  clear hj hI
  have hlt2:=R.lt
  by_cases hlt:n<L.length
  ·obtain⟨o,hx⟩: ∃o,L[n]? =some o:=⟨_,List.getElem?_eq_getElem hlt⟩
   obtain⟨g,f,aj,cj,ta,tn,tc,hao,hg,q0,q1,q2,q3,q4,q5,q6,hLF⟩:=(HO.out.below R.du).op n o hx
   have hlt':(n:Int)<(L.length:Int):=by omega
   have hok:=HL.out o (List.mem_of_getElem? hx)
   have hJ:=(wu hx acc).symm.trans HJ.out
   obtain⟨jv,eD,dp,ar,ri,fa,wk,tv⟩:=o
   obtain⟨⟨hd,hd'⟩,⟨ha,ha'⟩,⟨hr,hr'⟩,⟨hfa,hfa'⟩,⟨hw,hw'⟩,hG,hl⟩:=hok
   simp only at q0 q1 q2 q3 q4 q5 q6 hd ha hr hfa hw hd' ha' hr' hfa' hw' hG hl hJ hLF
   subst hao
   have htl:=xe HN.out eD hG
   have HLF:=Lib.hid hLF
   have HG:=Lib.hid hl
   clear hl hLF
   generalize hTJ:ig code N eD=TJ at hJ htl
   obtain⟨tj,ej⟩:=TJ
   have HTJ:=Lib.hid hTJ
   clear hTJ
   simp only at hJ htl
   have HJ2:=Lib.hid hJ
   clear hJ
   obtain⟨v0,v1,v2,v3,v4,v5,v6,v7,v8⟩:=R.cells (Obj.cells #[.slice aj eD.length cj,zv dp,zv ar,zv ri,zv fa,zv wk, .slice ta tn tc] 50)
   have hbx:=heap_alloc wr (Obj.cells #[.slice aj eD.length cj,zv dp,zv ar,zv ri,zv fa,zv wk, .slice ta tn tc] 50)
   have k0:=bh hbx 0
   have k4:=bh hbx 4
   simp only[List.getElem?_toArray,List.getElem?_cons_zero,List.getElem?_cons_succ] at k0 k4
   have hbl:wr.heap.size<(wr.alloc (Obj.cells #[.slice aj eD.length cj,zv dp,zv ar,zv ri,zv fa,zv wk, .slice ta tn tc] 50)).heap.size:=by simp
   have JT:=Lib.hid (Mz (a1:=a1) (l1:=l1) (c0:=c0) (c1:=c1) (c2:=c2) (a3:=a3) (l3:=l3) (c3:=c3) (a4:=a4) (l4:=l4) (c4:=c4) (a5:=a5) (l5:=l5) (c5:=c5) (n6:=n6) (n7:=n7) (n8:=n8) (cj:=cj) ((HF.out.below R.du).below (dZ (da _) (Obj.cells #[.slice aj eD.length cj,zv dp,zv ar,zv ri,zv fa,zv wk, .slice ta tn tc] 50))) (HLF.out.below (dZ (da _) _)) HN.out hG HG.out (jx HP.out (dZ R.du _)) (fun w' hw'=>HC.out w' (blt (dZ R.du _) hw')))
   rw[HTJ.out] at JT
   by_cases hej:ej=0
   ·subst hej
    have hJ:=HJ2.out
    rw[if_neg (by simp)] at hJ
    by_cases hfr:fa<0\/1000000<fa
    ·rw[if_pos hfr] at hJ
     have E:=Lib.hid hJ.symm
     have HFR:=Lib.hid hfr
     clear hJ hfr
     go_wp2_with (first
      |(go_at_call 11;refine JT.out.mono ?_;rintro e w3 ⟨rfl,hb3⟩;have r4:=aG hb3 hbl k4)
      |(go_at_call 12;refine(FC fa _ HFR.out).mono ?_;rintro e w4 ⟨rfl,hb4⟩))
     go_ret2
     exact⟨by rw[E.out];rfl,blt (blt (dZ R.du _) hb3) hb4⟩
    ·rw[if_neg hfr] at hJ
     obtain⟨m,rfl⟩: ∃m:Nat,fa=m:=⟨fa.toNat,by omega⟩
     have HJ3:=Lib.hid hJ
     clear hJ
     have hm:m<=1000000:=by omega
     have w1:IntKind.i64.wrap ((n:Int)+1)=(n:Int)+1:=by simp only[IntKind.wrap,IntKind.signed,IntKind.bits];simp;omega
     obtain⟨sJ,hsJ⟩: ∃s:ByteArray,s=⟨(Lib.join (List.map (fun x:ByteArray=>x.data.toList) [aB (IntKind.i64.wrap ((n:Int)+1)),aB dp,aB ar,aB ri,⟨(ez m).toArray⟩,aB wk]) [32]).toArray⟩:=⟨_,rfl⟩
     have hJL:sJ.data.toList++[10]=ue n ⟨jv,eD,dp,ar,ri,m,wk,tv⟩:=by
      rw[hsJ]
      simp[Lib.join,List.intercalate,ue,kF,w1]
     have hOz:(ue n ⟨jv,eD,dp,ar,ri,m,wk,tv⟩).length<=300:=by
      have y1:=fQ ((n:Int)+1)
      have y2:=fQ dp
      have y3:=fQ ar
      have y4:=fQ ri
      have y5:=tW m
      have y6:=fQ wk
      simp only[ue,List.length_append,List.length_cons,List.length_nil]
      omega
     have hJz:sJ.data.toList.length+1<=300:=by
      have h:=congrArg List.length hJL
      simp only[List.length_append,List.length_cons,List.length_nil] at h
      omega
     have hJz':sJ.size<=299:=by have h:sJ.data.toList.length=sJ.size:=Array.length_toList;omega
     clear w1
     have HJoin:=Lib.hid hsJ
     have HJL:=Lib.hid hJL
     have HOz:=Lib.hid hOz
     have gjz: ¬(9223372036854775807<1+tj.length):=by omega
     clear hsJ hJL hJz hOz
     go_wp2_with (first
      |(go_at_call 11;refine JT.out.mono ?_;rintro e w3 ⟨rfl,hb3⟩;have r4:=aG hb3 hbl k4)
      |(go_at_call 12;refine(P2 m _ hm).mono ?_;rintro e w4 ⟨rfl,hb4⟩;have hS:=vX.c8 hb4 (vX.c8 hb3 (vX.of hbx));have hW4:=blt (blt (dZ (da wr) _) hb3) hb4))
     clear r4 k0 k4 v0 v1 v2 v3 v4 v5 v6 v7 v8 q0 q1 q2 q3 q4 q5 q6
     go_region_held3 (fun wx=>vX wr.heap.size (.slice aj eD.length cj) dp ar ri (m:Int) wk (.slice ta tn tc) wx)
      (first|(exact vX.c8 (by assumption) (by assumption))|(exact vX.c8 (kG (da _)) (by assumption))|(exact vX.c8 (dZ (da _) _) (by assumption))|(exact vX.TA (by assumption) hBlt (by assumption))|go_keep)
      (first
        |(go_at_call 15;refine(A6 _ _ (by first|omega|exact V7 _) (by first|omega|exact V8 _)).mono ?_;rintro e w5 ⟨rfl,hb5⟩)
        |(go_at_call 14;refine(IN (n:=6) (xs:=[aB (IntKind.i64.wrap ((n:Int)+1)),aB dp,aB ar,aB ri,⟨(ez m).toArray⟩,aB wk]) (WE _ _ _ _ _ _ _) (by decide) (by simp) (by have h:=HJoin.out;have h2:=congrArg (fun z:ByteArray=>z.data.toList.length) h;simp only[List.toList_toArray] at h2;rw[←h2,Array.length_toList];show sJ.size<=100000;omega)).mono ?_;rw[←HJoin.out];rintro e w7 ⟨rfl,hb7⟩)
        |(go_at_call 13;refine(Tryz.Builder_WriteString_k (W.heap.size+1) (W.heap.size+1) (Lib.byteCells acc) _ _ (Ny.below HI.out (by(repeat' first|exact da _|(apply blt _ (by assumption))|apply dZ|apply kG))) (by rw[Lib.byteCells_length];omega) (by have:=vX.lt (by assumption);omega)).mono ?_;rintro e w8 ⟨rfl,hBA,hb8,hk8⟩))
     have hW7:Below wr.heap.size wr w7:=by(repeat' first|exact da _|(apply blt _ (by assumption))|apply dZ|apply kG)
     go_wp2_with (go_at_call 13;refine(Tryz.Builder_WriteString_k (W.heap.size+1) (W.heap.size+1) (Lib.byteCells acc++Lib.strCells sJ) _ _ (.inr hBA) (by rw[List.length_append,Lib.byteCells_length,Lib.strCells_length,ByteArray.size_append];show acc.length+sJ.size+(1+tj.length)<=140737488355328;omega) (Nat.le_of_lt (Ny.lt (.inr hBA)))).mono ?_;rintro e w9 ⟨rfl,hBA9,hb9,hk9⟩)
     refine⟨⟨n+1,acc++(ue n ⟨jv,eD,dp,ar,ri,m,wk,tv⟩++tj),by omega,by first|rfl|(congr 1;omega),by have h:=HOz.out;simp only[List.length_append];omega,HJ3.out, .inr ?_,((R.after hW7).Rj (Nat.lt_succ_self _) hb8).Rj (Nat.lt_succ_self _) hb9⟩,by simp[intOf];omega⟩
     have h9:Lib.byteCells (acc++(ue n ⟨jv,eD,dp,ar,ri,m,wk,tv⟩++tj))=(Lib.byteCells acc++Lib.strCells sJ)++Lib.strCells (⟨#[10]⟩++⟨tj.toArray⟩):=by
      have e9:ue n ⟨jv,eD,dp,ar,ri,m,wk,tv⟩++tj=sJ.data.toList++(10::tj):=by rw[←HJL.out];simp
      rw[e9,Lib.byteCells_append,Lib.byteCells_append,Lib.strCells_eq,Lib.strCells_eq,kH]
      simp
     rw[h9]
     exact hBA9
   ·have hJ:=HJ2.out
    rw[if_pos hej] at hJ
    have E:=Lib.hid hJ.symm
    clear hJ
    go_wp2_with (go_at_call 11;refine JT.out.mono ?_;rintro e w3 ⟨rfl,hb3⟩)
    go_ret2
    exact⟨by rw[E.out];rfl,blt (dZ R.du _) hb3⟩
  ·have hlt': ¬(n:Int)<(L.length:Int):=by omega
   have E:=Lib.hid (Ab (by omega) HJ.out)
   go_wp2_with (go_at_call 16;refine(Tryz.Builder_String_k _ _ _ _ HI.out (by omega)).mono ?_;rintro e w3 ⟨rfl,hBA,hb3,hk3⟩)
   go_ret2
   exact⟨by rw[E.out];rfl,(R.Rj (Nat.lt_succ_self _) hb3).du⟩
end Go.Proofs.Nw
namespace Go.Proofs.Nw
open Go Go.AV Tryz Go.RowKit
set_option maxRecDepth 100000
section
variable{H:Type}{enc:TypeId × Value->H}{W:World}{base:Nat}
theorem sq{n:Int}(h:(Lit.int .i64 n).wf=true):jg n:=by
 have e1:IntKind.i64.min= -9223372036854775808:=by decide
 have e2:IntKind.i64.max=9223372036854775807:=by decide
 simp[Lit.wf,e1,e2] at h
 exact h
theorem Hi{P:Program}{r:List Value}(h:cD enc P W base [.b, .i .i64, .i .i64, .i .i64, .i .i64, .i .i64, .i .i64, .i .i64, .b] r): ∃x:eG,r=x.row/\x.ok:=by
 obtain⟨x0,l0,rfl,h0⟩:=h.b
 obtain⟨x1,l1,rfl,b1,h1⟩:=h0.i
 obtain⟨x2,l2,rfl,b2,h2⟩:=h1.i
 obtain⟨x3,l3,rfl,b3,h3⟩:=h2.i
 obtain⟨x4,l4,rfl,b4,h4⟩:=h3.i
 obtain⟨x5,l5,rfl,b5,h5⟩:=h4.i
 obtain⟨x6,l6,rfl,b6,h6⟩:=h5.i
 obtain⟨x7,l7,rfl,b7,h7⟩:=h6.i
 obtain⟨x8,l8,rfl,h8⟩:=h7.b
 obtain rfl:=h8.e
 exact⟨⟨x0,x1,x2,x3,x4,x5,x6,x7,x8⟩,rfl,sq b1,sq b2,sq b3,sq b4,sq b5,sq b6,sq b7⟩
def gy.ok(W:World)(o:gy):Prop:=jg o.dep/\jg o.arr/\jg o.bT/\jg o.yA/\jg o.walk/\jl W o.jv 9 (o.eD.map eG.row)/\(∀l∈o.eD,l.ok)/\ ∃a n c,o.tv= .slice a n c
theorem Lb{r:List Value}(h:cD enc prog W base [.sl 43, .i .i64, .i .i64, .i .i64, .i .i64, .i .i64, .sl 48] r): ∃x:gy,r=x.row/\x.ok W:=by
 obtain⟨x0,l0,rfl,⟨n0,y0,g0⟩,h0⟩:=h.sl
 obtain⟨x1,l1,rfl,b1,h1⟩:=h0.i
 obtain⟨x2,l2,rfl,b2,h2⟩:=h1.i
 obtain⟨x3,l3,rfl,b3,h3⟩:=h2.i
 obtain⟨x4,l4,rfl,b4,h4⟩:=h3.i
 obtain⟨x5,l5,rfl,b5,h5⟩:=h4.i
 obtain⟨x6,l6,rfl,⟨n6,y6,g6⟩,h6⟩:=h5.sl
 obtain rfl:=h6.e
 obtain⟨ls,s1,s2⟩:=lh (sh:=[.b, .i .i64, .i .i64, .i .i64, .i .i64, .i .i64, .i .i64, .i .i64, .b]) (row:=eG.row) (e:=83) (sz:=9) (by kernel_rfl) (by kernel_rfl) (by decide) (by kernel_rfl) (by kernel_rfl) rfl (fun r hr=>Hi hr) g0
 obtain⟨rows,t1,_⟩:=tx (e:=231) (sz:=4) (by kernel_rfl) (by kernel_rfl) (by decide) g6
 refine⟨⟨x0,ls,x1,x2,x3,x4,x5,x6⟩,rfl,sq b1,sq b2,sq b3,sq b4,sq b5,s1,s2,?_⟩
 rcases t1 with ⟨rfl,_⟩|⟨⟨g,o,s,rfl⟩,_⟩|⟨g,o,c,rfl,_⟩
 ·exact⟨_,_,_,rfl⟩
 ·exact⟨_,_,_,rfl⟩
 ·exact⟨_,_,_,rfl⟩
theorem Lz{r:Reach}{b:Nat}{v0:Value}{n:Nat}{x:DataW H × List MemPlace}(hok:Value.okWide prog W r b 32 v0)(h:DataW.trod enc prog W base (fun _=>true) true n 32 v0.cells.toList=some x):
 ∃l:List gy,jl W v0 7 (l.map gy.row)/\ ∀o∈l,o.ok W:=by
 have hu:prog.underlying 32=some (.slice 50):=by kernel_rfl
 have hv:v0.cells.toList=[v0]:=by
  unfold Value.okWide at hok
  rw[hu] at hok
  simp only at hok
  unfold Cell.okWide at hok
  rw[hu] at hok
  cases v0<;>first|rfl|(simp[Cell.ok,hu] at hok)
 rw[hv] at h
 exact lh (sh:=[.sl 43, .i .i64, .i .i64, .i .i64, .i .i64, .i .i64, .sl 48]) (row:=gy.row) (Q:=gy.ok W) (e:=50) (sz:=7) hu (by kernel_rfl) (by decide) (by kernel_rfl) (by kernel_rfl) rfl (fun r hr=>Lb hr) h
end
theorem zG{w:World}{v:Value}{k:Nat}{rows:List (List Value)}{a:Option Addr}{n c:Nat}(h:jl w v k rows)(e:v= .slice a n c):n=rows.length/\ ∀i r,rows[i]? =some r-> ∃g f,a=some ⟨g,f,none⟩/\ ∀j x,r[j]? =some x->w.cell? ⟨g,f+i*k+j,none⟩=some x:=by
 subst e
 rcases h with ⟨h,rfl⟩|⟨⟨g,o,s,h⟩,rfl⟩|⟨g,o,c',h,hc⟩
 ·cases h;exact⟨rfl,fun i r hr=>by simp at hr⟩
 ·cases h;exact⟨rfl,fun i r hr=>by simp at hr⟩
 ·have hn:n=rows.length:=by injection h
  have ha:a=some ⟨g,o,none⟩:=by injection h
  exact⟨hn,fun i r hr=>⟨g,o,ha,fun j x hx=>hc i r hr j x hx⟩⟩
theorem SK{w:World}{N:cd}(hN:nq w N){a0 a2:Option Addr}{l0 l2 c0 c2:Nat}(e0:N.sv= .slice a0 l0 c0)(e2:N.uv= .slice a2 l2 c2):NF w N a0 l0 a2 l2:=by
 obtain⟨m0,h0⟩:=zG hN.stops e0
 obtain⟨m2,h2⟩:=zG hN.runs e2
 refine⟨by simpa using m0,by simpa using m2,fun i x hx=>?_,fun i x hx=>?_⟩
 ·obtain⟨g,f,ha,hc⟩:=h0 i x.row (by simp[hx])
  have q:=hc 0 _ rfl
  exact⟨g,f,ha,qf q,q⟩
 ·obtain⟨g,f,ha,hc⟩:=h2 i (x.row x.cv) (by simp[hx])
  obtain⟨ca,cl,cc,hcv,hm⟩:=ga (hN.calls x (List.mem_of_getElem? hx))
  have hm':cl=x.calls.length:=by simpa using hm
  subst hm'
  have q:=hc 0 _ rfl
  have q7:=hc 7 _ rfl
  rw[hcv] at q7
  exact⟨g,f,ca,cc,ha,qf q,q,hc 1 _ rfl,hc 2 _ rfl,hc 3 _ rfl,hc 4 _ rfl,hc 5 _ rfl,hc 6 _ rfl,q7⟩
theorem Tx{w:World}{v:Value}{G:List eG}{a:Option Addr}{l c:Nat}(h:jl w v 9 (G.map eG.row))(e:v= .slice a l c):LF w G a l:=by
 obtain⟨m0,h0⟩:=zG h e
 refine⟨by simpa using m0,fun i x hx=>?_⟩
 obtain⟨g,f,ha,hc⟩:=h0 i x.row (by simp[hx])
 have q:=hc 0 _ rfl
 exact⟨g,f,ha,qf q,q,hc 1 _ rfl,hc 2 _ rfl,hc 3 _ rfl,hc 4 _ rfl,hc 5 _ rfl,hc 6 _ rfl,hc 7 _ rfl,hc 8 _ rfl⟩
theorem SD{w:World}{v:Value}{L:List gy}{a:Option Addr}{l c:Nat}(h:jl w v 7 (L.map gy.row))(hok: ∀o∈L,o.ok w)(e:v= .slice a l c):OF w L a l:=by
 obtain⟨m0,h0⟩:=zG h e
 refine⟨by simpa using m0,fun i o hx=>?_⟩
 obtain⟨g,f,ha,hc⟩:=h0 i o.row (by simp[hx])
 obtain⟨_,_,_,_,_,hj,_,ta,tn,tc,ht⟩:=hok o (List.mem_of_getElem? hx)
 obtain⟨aj,lj,cj,ej,hm⟩:=ga hj
 have hm':lj=o.eD.length:=by simpa using hm
 subst hm'
 have q:=hc 0 _ rfl
 have q6:=hc 6 _ rfl
 have hl:=Tx hj ej
 rw[ej] at q
 rw[ht] at q6
 exact⟨g,f,aj,cj,ta,tn,tc,ha,qf q,q,hc 1 _ rfl,hc 2 _ rfl,hc 3 _ rfl,hc 4 _ rfl,hc 5 _ rfl,q6,hl⟩
section
variable{N:aM}{D:BP}
theorem zq(h:(fG N D).2.2=0):(b9 D.stops).2=0/\(bY D.eL).2=0/\(cG N.ns N.nr D.runs).2=0:=by
 unfold fG iy at h
 by_cases e1:(b9 D.stops).2=0
 ·rw[if_neg (by simpa using e1)] at h
  by_cases e2:(bY D.eL).2=0
  ·rw[if_neg (by simpa using e2)] at h
   by_cases e3:(cG N.ns N.nr D.runs).2=0
   ·exact⟨e1,e2,e3⟩
   ·rw[if_pos e3] at h;exact(e3 h).elim
  ·rw[if_pos e2] at h;exact(e2 h).elim
 ·rw[if_pos e1] at h;exact(e1 h).elim
end
theorem KX{l:List bJ}(h:(b9 l).2=0){i:Nat}{x:bJ}(hx:l[i]? =some x):bK x.id=true:=by
 unfold b9 at h
 split at h
 ·cases h
 have:=im (b:=dB l) (fun i hi=>by unfold dB at hi;(repeat' split at hi)<;>simp at hi) _ _ h i (Nat.zero_le _) (by have:=(List.getElem?_eq_some_iff.1 hx).1;omega)
 unfold dB at this
 rw[hx] at this
 simp only at this
 (repeat' split at this)<;>simp_all
theorem Pf{ns nr:Nat}{l:List RunT}(h:(cG ns nr l).2=0){i:Nat}{x:RunT}(hx:l[i]? =some x):bK x.v.id=true/\0<=x.v.day/\x.v.day<=36524/\0<=x.v.inst:=by
 unfold cG at h
 split at h
 ·cases h
 have:=im (qU ns nr l) _ _ h i (Nat.zero_le _) (by have:=(List.getElem?_eq_some_iff.1 hx).1;omega)
 unfold dm at this
 rw[hx] at this
 simp only at this
 (repeat' split at this)<;>simp_all<;>omega
theorem SH{w:World}{N:cd}(hN:nq w N)(h:(fG N.V N.T).2.2=0):NV N:=by
 obtain⟨h1,-,h3⟩:=zq h
 refine⟨fun x hx=>?_,fun x hx=>?_⟩
 ·obtain⟨i,hi⟩:=List.mem_iff_getElem?.1 hx
  exact nE (KX h1 hi)
 ·obtain⟨i,hi⟩:=List.mem_iff_getElem?.1 hx
  have hT:N.T.runs[i]? =some (x.abs i):=by simp[cd.T,hi]
  obtain⟨r1,r2,r3,r4⟩:=Pf h3 hT
  exact⟨r1,r2,r3,r4,hN.zi x hx⟩
end Go.Proofs.Nw
namespace Go.Proofs.Nw
open Go Go.Proofs Go.AV Go.RowKit Go.Shelf Go.Sort
set_option maxRecDepth 1000000
def G0:Value->Nat
 | .slice _ n _=>n
 |_=>0
def EZ(r:gO):Bool:=decide (r.calls.length<=40)
def NR(o:gy):Bool:=decide (o.eD.length<=20) && decide (G0 o.tv<=20)
def oT(l0 l1 l2 l3 l4 l5:Nat)(N:cd):Bool:=decide (l0<=6/\l1<=20/\l2<=7/\l3<=30/\l4<=60/\l5<=16) && N.runs.all EZ
def oS(L:List gy):Bool:=decide (L.length<=20) && L.all NR
theorem all_cons{α:Type}{L:List α}{f:α->Bool}{n:Nat}{x:α}(hx:L[n]? =some x):(L.drop n).all f=(f x && (L.drop (n+1)).all f):=by
 obtain⟨hn,rfl⟩:=List.getElem?_eq_some_iff.1 hx
 rw[List.drop_eq_getElem_cons hn,List.all_cons]
theorem Ev{α:Type}{L:List α}{f:α->Bool}{n:Nat}(hn:L.length<=n):(L.drop n).all f=true:=by
 rw[List.drop_eq_nil_of_le hn];rfl
structure OT(w:World)(L:List gy)(a:Option Addr)(l:Nat):Prop where
 e:l=L.length
 op: ∀i o,L[i]? =some o-> ∃g f aj cj ta tc,a=some ⟨g,f,none⟩/\g<w.heap.size/\w.cell? ⟨g,f+i*7,none⟩=some (.slice aj o.eD.length cj)/\w.cell? ⟨g,f+i*7+6,none⟩=some (.slice ta (G0 o.tv) tc)
theorem SB{w:World}{v:Value}{L:List gy}{a:Option Addr}{l c:Nat}(h:jl w v 7 (L.map gy.row))(hok: ∀o∈L,o.ok w)(e:v= .slice a l c):OT w L a l:=by
 obtain⟨m0,h0⟩:=zG h e
 refine⟨by simpa using m0,fun i o hx=>?_⟩
 obtain⟨g,f,ha,hc⟩:=h0 i o.row (by simp[hx])
 obtain⟨_,_,_,_,_,hj,_,ta,tn,tc,ht⟩:=hok o (List.mem_of_getElem? hx)
 obtain⟨aj,lj,cj,ej,hm⟩:=ga hj
 have hm':lj=o.eD.length:=by simpa using hm
 subst hm'
 have q:=hc 0 _ rfl
 have q6:=hc 6 _ rfl
 rw[ej] at q
 rw[ht] at q6
 exact⟨g,f,aj,cj,ta,tc,ha,qf q,q,by rw[ht];exact q6⟩
theorem OT.below{w W:World}{L:List gy}{a:Option Addr}{l:Nat}(h:OT w L a l)(hb:Below w.heap.size w W):OT W L a l:=by
 refine⟨h.e,fun i x hx=>?_⟩
 obtain⟨g,f,aj,cj,ta,tc,h1,h2,q0,q6⟩:=h.op i x hx
 exact⟨g,f,aj,cj,ta,tc,h1,Nat.lt_of_lt_of_le h2 hb.size,aG hb h2 q0,aG hb h2 q6⟩
theorem B1.now{W wr:World}{v0 v1 v2 v3 v4 v5 v6 v7 v8:Value}(R:B1 W wr #[v0,v1,v2,v3,v4,v5,v6,v7,v8]):wr.cell? ⟨W.heap.size,0,none⟩=some v0/\wr.cell? ⟨W.heap.size,1,none⟩=some v1/\wr.cell? ⟨W.heap.size,2,none⟩=some v2/\wr.cell? ⟨W.heap.size,3,none⟩=some v3/\wr.cell? ⟨W.heap.size,4,none⟩=some v4/\wr.cell? ⟨W.heap.size,5,none⟩=some v5/\wr.cell? ⟨W.heap.size,6,none⟩=some v6/\wr.cell? ⟨W.heap.size,7,none⟩=some v7/\wr.cell? ⟨W.heap.size,8,none⟩=some v8:=
 ⟨bh R.r0 0,bh R.r0 1,bh R.r0 2,bh R.r0 3,bh R.r0 4,bh R.r0 5,bh R.r0 6,bh R.r0 7,bh R.r0 8⟩
set_option maxHeartbeats 3200000 in
theorem IB{W:World}{L:List gy}{ao:Option Addr}{lo co:Nat}(hO:OT W L ao lo):
 Calls Tryz.prog 5 #[.slice ao lo co] W fun en w'=>en= .returned (.bool (oS L))/\Below W.heap.size W w':=by
 obtain⟨b,hb⟩: ∃b,b=oS L:=⟨_,rfl⟩
 rw[←hb]
 have e2:=hO.e
 subst e2
 have HO:=Lib.hid hO
 by_cases hn:L.length<=20
 ·have HB:=Lib.hid (show(L.drop 0).all NR=b by rw[hb];simp[oS,hn])
  have hn': ¬(20:Int)<(L.length:Int):=by omega
  clear hb hO
  go_enter Tryz.func5,Tryz.ntmps5
  go_wp2
  go_loopw [9] (fun i wr=> ∃(n:Nat),n<=L.length/\i= .int .i64 n/\(L.drop n).all NR=b/\Below W.heap.size W wr) (fun i _=>L.length - (intOf i).toNat)
  case atStart=>exact⟨0,Nat.zero_le _,rfl,HB.out,by first|exact da _|exact kG (da _)⟩
  case round=>
   obtain⟨n,hn2,rfl,hj,R⟩:=hrel
   rename World=>wr
   have HJ:=Lib.hid hj
   clear hj
   by_cases hlt:n<L.length
   ·obtain⟨o,hx⟩: ∃o,L[n]? =some o:=⟨_,List.getElem?_eq_getElem hlt⟩
    obtain⟨g,f,aj,cj,ta,tc,hao,hg,q0,q6⟩:=HO.out.op n o hx
    have r0:=aG R hg q0
    have r6:=aG R hg q6
    subst hao
    have hlt':(n:Int)<(L.length:Int):=by omega
    have hJ:=(all_cons hx).symm.trans HJ.out
    by_cases h1:o.eD.length<=20
    ·have h1': ¬(20:Int)<(o.eD.length:Int):=by omega
     by_cases h2:G0 o.tv<=20
     ·have h2': ¬(20:Int)<(G0 o.tv:Int):=by omega
      have HK:=Lib.hid (show(L.drop (n+1)).all NR=b by rw[←hJ];simp[NR,h1,h2])
      clear hJ
      go_wp2
      exact⟨⟨n+1,by omega,by first|rfl|(congr 1;omega),HK.out,by first|exact R|exact kG R⟩,by simp[intOf];omega⟩
     ·have h2':(20:Int)<(G0 o.tv:Int):=by omega
      have HK:=Lib.hid (show false=b by rw[←hJ];simp[NR,h1,h2])
      clear hJ
      go_wp2
      go_ret
      exact⟨by obtain rfl:=HK.out;rfl,by first|exact R|exact kG R⟩
    ·have h1':(20:Int)<(o.eD.length:Int):=by omega
     have HK:=Lib.hid (show false=b by rw[←hJ];simp[NR,h1])
     clear hJ
     go_wp2
     go_ret
     exact⟨by obtain rfl:=HK.out;rfl,by first|exact R|exact kG R⟩
   ·have hlt': ¬(n:Int)<(L.length:Int):=by omega
    have HK:=Lib.hid (show true=b by rw[←HJ.out];exact(Ev (by omega)).symm)
    go_wp2
    go_ret
    exact⟨by obtain rfl:=HK.out;rfl,by first|exact R|exact kG R⟩
 ·have hn':(20:Int)<(L.length:Int):=by omega
  have HB:=Lib.hid (show false=b by rw[hb];simp[oS,hn])
  clear hb hO
  go_enter Tryz.func5,Tryz.ntmps5
  go_wp2
  go_ret
  exact⟨by obtain rfl:=HB.out;rfl,by first|exact da _|exact kG (da _)⟩
set_option maxHeartbeats 3200000 in
theorem IC{W:World}{N:cd}{a0 a1 a2 a3 a4 a5:Option Addr}{l0 l1 l2 l3 l4 l5 c0 c1 c2 c3 c4 c5:Nat}{n6 n7 n8:Value}(hF:NF W N a0 l0 a2 l2):
 Calls Tryz.prog 4 #[.agg #[.slice a0 l0 c0, .slice a1 l1 c1, .slice a2 l2 c2, .slice a3 l3 c3, .slice a4 l4 c4, .slice a5 l5 c5,n6,n7,n8]] W fun en w'=>en= .returned (.bool (oT l0 l1 l2 l3 l4 l5 N))/\Below W.heap.size W w':=by
 have R0:=B1.start W #[.slice a0 l0 c0, .slice a1 l1 c1, .slice a2 l2 c2, .slice a3 l3 c3, .slice a4 l4 c4, .slice a5 l5 c5,n6,n7,n8]
 obtain⟨b,hb⟩: ∃b,b=oT l0 l1 l2 l3 l4 l5 N:=⟨_,rfl⟩
 rw[←hb]
 have HF:=Lib.hid hF
 clear hF
 by_cases hn:l0<=6/\l1<=20/\l2<=7/\l3<=30/\l4<=60/\l5<=16
 ·have HB:=Lib.hid (show(N.runs.drop 0).all EZ=b by rw[hb];simp[oT,hn])
  obtain⟨h0,h1,h2,h3,h4,h5⟩:=hn
  have h0': ¬(6:Int)<(l0:Int):=by omega
  have h1': ¬(20:Int)<(l1:Int):=by omega
  have h2': ¬(7:Int)<(l2:Int):=by omega
  have h3': ¬(30:Int)<(l3:Int):=by omega
  have h4': ¬(60:Int)<(l4:Int):=by omega
  have h5': ¬(16:Int)<(l5:Int):=by omega
  clear hb
  go_enter Tryz.func4,Tryz.ntmps4
  go_wp2
  go_loopw [3,42] (fun _ i wr=> ∃(n:Nat),n<=l2/\i= .int .i64 n/\(N.runs.drop n).all EZ=b/\B1 W wr #[.slice a0 l0 c0, .slice a1 l1 c1, .slice a2 l2 c2, .slice a3 l3 c3, .slice a4 l4 c4, .slice a5 l5 c5,n6,n7,n8]) (fun _ i _=>l2 - (intOf i).toNat)
  case atStart=>exact⟨0,Nat.zero_le _,rfl,HB.out,R0⟩
  case round=>
   obtain⟨n,hn2,rfl,hj,R⟩:=hrel
   rename World=>wr
   have HJ:=Lib.hid hj
   have z2:=bh R.r0 2
   simp only[List.getElem?_toArray,List.getElem?_cons_zero,List.getElem?_cons_succ] at z2
   clear hj R0
   by_cases hlt:n<l2
   ·have hlr:n<N.runs.length:=by have:=HF.out.e2;omega
    obtain⟨r,hx⟩: ∃r,N.runs[n]? =some r:=⟨_,List.getElem?_eq_getElem hlr⟩
    obtain⟨g,f,ca,cc,ha2,hg,q0,q1,q2,q3,q4,q5,q6,q7⟩:=(HF.out.below R.du).ru n r hx
    subst ha2
    have hlt':(n:Int)<(l2:Int):=by omega
    have hJ:=(all_cons hx).symm.trans HJ.out
    by_cases h6:r.calls.length<=40
    ·have h6': ¬(40:Int)<(r.calls.length:Int):=by omega
     have HK:=Lib.hid (show(N.runs.drop (n+1)).all EZ=b by rw[←hJ];simp[EZ,h6])
     clear hJ
     go_wp2
     exact⟨⟨n+1,by omega,by first|rfl|(congr 1;omega),HK.out,by first|exact R|exact R.after (kG (da _))⟩,by simp[intOf];omega⟩
    ·have h6':(40:Int)<(r.calls.length:Int):=by omega
     have HK:=Lib.hid (show false=b by rw[←hJ];simp[EZ,h6])
     clear hJ
     go_wp2
     go_ret
     exact⟨by obtain rfl:=HK.out;rfl,by first|exact R.du|exact kG R.du⟩
   ·have hlt': ¬(n:Int)<(l2:Int):=by omega
    have HK:=Lib.hid (show true=b by rw[←HJ.out];exact(Ev (by have:=HF.out.e2;omega)).symm)
    go_wp2
    go_ret
    exact⟨by obtain rfl:=HK.out;rfl,by first|exact R.du|exact kG R.du⟩
 ·have HB:=Lib.hid (show false=b by rw[hb];simp only[oT,hn];simp)
  clear hb
  go_enter Tryz.func4,Tryz.ntmps4
  go_wp2
  all_goals first
   |(go_ret;exact⟨by obtain rfl:=HB.out;rfl,R0.du⟩)
   |(exfalso;exact hn (by omega))
end Go.Proofs.Nw
namespace Go.Proofs.Nw
open Go Go.AV Tryz Go.RowKit
set_option maxRecDepth 100000
theorem exP(w:World):Calls prog 6 #[] w fun e w'=>e= .returned (.bool true)/\Below w.heap.size w w':=
 (yE (Ji (by kernel_rfl)) (fuel:=3000) (nx:=6) (by kernel_rfl) w).mono fun e w' ⟨h1,h2,h3,h4,h5,h6⟩=>⟨h1,⟨h2,h3,h4,h5,h6⟩⟩
end Go.Proofs.Nw
namespace Go.Proofs.Nw
open Go Go.Proofs Go.AV Go.RowKit Go.Shelf Go.Sort
set_option maxRecDepth 1000000
theorem Cx{w:World}{N:cd}(hN:nq w N)(hll:N.paths.length<=10000):
 (∀w',Below w.heap.size w w'->Calls Tryz.prog 26 #[.agg ⟨N.cells⟩] w' fun en w''=>(∃a b,en= .returned (.tuple #[a,b, .int .i64 (fG N.V N.T).2.2]))/\Below w'.heap.size w' w'')/\
 (∀w',Below w.heap.size w w'->Calls Tryz.prog 32 #[.agg ⟨N.cells⟩] w' fun en w''=>en= .returned (.bool ((fG N.V N.T).2.2==0))/\Below w'.heap.size w' w''):=by
 obtain⟨z,z1,z2,z3,z4⟩:=I6 N.Gx (N.runs.length+6) w (Cy N) (H3 hN)
 have z5:cT (j5 N.Gx) [.agg ⟨N.V.cells⟩] [.agg ⟨N.cells⟩]:=LG hN (fun _ _=>rfl) .nil
 have hz:=Pt hN (fun _ _=>rfl) z4
 exact⟨fun w' hb=>(N9 (JU z2 hz hll) rfl z1 z3 z5 hb).mono fun en w'' ⟨h1,h2⟩=>⟨⟨_,_,h1⟩,h2⟩,fun w' hb=>N9 (MZ z2 (by omega) hz) rfl z1 z3 z5 hb⟩
set_option maxHeartbeats 3200000 in
theorem W7{W:World}{N:cd}(hN:nq W N){L:List gy}{v:Value}(hL:jl W v 7 (L.map gy.row))(hok: ∀o∈L,o.ok W)(hP:Pow W):
 Calls Tryz.prog 3 #[.agg ⟨N.cells⟩,v] W fun en w'=>en= .returned (.bool true)/\Below W.heap.size W w':=by
 obtain⟨a0,l0,c0,e0,m0⟩:=ga hN.stops
 obtain⟨a1,l1,c1,e1,m1⟩:=ga hN.eL
 obtain⟨a2,l2,c2,e2,m2⟩:=ga hN.runs
 obtain⟨a3,l3,c3,e3,m3⟩:=ga hN.dX
 obtain⟨a4,l4,c4,e4,m4⟩:=ga hN.paths
 obtain⟨a5,l5,c5,e5,m5⟩:=ga hN.iK
 obtain⟨ao,lo,co,eo,mo⟩:=ga hL
 have hp:l4=N.paths.length:=by simpa using m4
 have hF:=SK hN e0 e2
 have hO:=SD hL hok eo
 have hT:=SB hL hok eo
 subst eo
 have e:(Array.mk N.cells)= #[.slice a0 l0 c0, .slice a1 l1 c1, .slice a2 l2 c2, .slice a3 l3 c3, .slice a4 l4 c4, .slice a5 l5 c5,zv N.d,zv N.w,zv N.c]:=by
  unfold cd.cells
  rw[e0,e1,e2,e3,e4,e5]
 have HE:=Lib.hid exP
 have HF:=Lib.hid hF
 have HO:=Lib.hid hO
 have HT:=Lib.hid hT
 have R0:=B1.start W #[.slice a0 l0 c0, .slice a1 l1 c1, .slice a2 l2 c2, .slice a3 l3 c3, .slice a4 l4 c4, .slice a5 l5 c5,zv N.d,zv N.w,zv N.c]
 by_cases hb:oT l0 l1 l2 l3 l4 l5 N=true/\oS L=true
 ·obtain⟨hb1,hb2⟩:=hb
  have h1:=hb1
  have h2:=hb2
  simp only[oT,oS,Bool.and_eq_true,decide_eq_true_eq] at h1 h2
  obtain⟨⟨_,_,_,_,h4,_⟩,_⟩:=h1
  obtain⟨hn20,hall⟩:=h2
  have hfine: ∀o∈L,o.P3:=fun o ho=>by
   obtain⟨k1,k2,k3,k4,k5,_,k6,_⟩:=hok o ho
   have h:=List.all_eq_true.1 hall o ho
   simp only[NR,Bool.and_eq_true,decide_eq_true_eq] at h
   exact⟨k1,k2,k3,k4,k5,h.1,k6⟩
  obtain⟨hC',hV⟩:=Cx hN (by omega)
  have hV0:(fG N.V N.T).2.2=0->NV N:=SH hN
  generalize (fG N.V N.T).2.2=c at hC' hV hV0
  rw[e] at hC' hV ⊢
  have HP:=Lib.hid hP
  have HN:=Lib.hid hV0
  have HL:=Lib.hid hfine
  have HC:=Lib.hid hC'
  have HV:=Lib.hid hV
  have HB1:=Lib.hid hb1
  have HB2:=Lib.hid hb2
  clear hC' hV hV0 hfine hall hP hF hO hT hok hL hN hb1 hb2
  clear e e0 e1 e2 e3 e4 e5 m0 m1 m2 m3 m4 m5 mo hp h4
  generalize hTT:mJ c N 0 L []=TT
  obtain⟨ts,te⟩:=TT
  have HTT:=Lib.hid hTT
  clear hTT
  go_enter Tryz.func3,Tryz.ntmps3
  go_wp2_with (first
   |(go_at_call 4;refine(IC (HF.out.below R0.du)).mono ?_;rw[HB1.out];rintro en w2 ⟨rfl,hb2⟩;have R2:=R0.after hb2;clear hb2)
   |(go_at_call 5;refine(IB (HT.out.below R2.du)).mono ?_;rw[HB2.out];rintro en w3 ⟨rfl,hb3⟩;have R3:=R2.after hb3;obtain⟨y0,y1,y2,y3,y4,y5,y6,y7,y8⟩:=R3.now;clear hb3)
   |(go_at_call 7;refine(Pn (HF.out.below R3.du) (HO.out.below R3.du) HN.out hn20 HL.out (jx HP.out R3.du) (fun w' hw'=>HC.out w' (blt R3.du hw'))).mono ?_;rw[HTT.out];rintro en w4 ⟨rfl,hb4⟩;have R4:=R3.after hb4;obtain⟨x0,x1,x2,x3,x4,x5,x6,x7,x8⟩:=R4.now;clear hb4)
   |(go_at_call 8;refine(Sp (HF.out.below R4.du) (HO.out.below R4.du) HN.out hn20 HL.out (fun w' hw'=>HV.out w' (blt R4.du hw'))).mono ?_;rw[HTT.out];rintro en w5 ⟨rfl,hb5⟩;have R5:=R4.after hb5;clear hb5)
   |(go_at_call 6;refine(HE.out _).mono ?_;rintro en w9 ⟨rfl,hb9⟩))
  go_ret
  exact⟨rfl,blt R5.du hb9⟩
 ·obtain⟨b1,hb1⟩: ∃b,b=oT l0 l1 l2 l3 l4 l5 N:=⟨_,rfl⟩
  obtain⟨b2,hb2⟩: ∃b,b=oS L:=⟨_,rfl⟩
  rw[←hb1,←hb2] at hb
  have HB1:=Lib.hid hb1.symm
  have HB2:=Lib.hid hb2.symm
  rw[e]
  clear hb1 hb2 hP hF hO hT hok hL hN
  clear e e0 e1 e2 e3 e4 e5 m0 m1 m2 m3 m4 m5 mo hp
  cases b1<;>cases b2<;>first|(exact absurd ⟨rfl,rfl⟩ hb)|skip
  all_goals (
   clear hb
   go_enter Tryz.func3,Tryz.ntmps3
   go_wp2_with (first
    |(go_at_call 4;refine(IC (HF.out.below R0.du)).mono ?_;rw[HB1.out];rintro en w2 ⟨rfl,hb2⟩;have R2:=R0.after hb2;clear hb2)
    |(go_at_call 5;refine(IB (HT.out.below R2.du)).mono ?_;rw[HB2.out];rintro en w3 ⟨rfl,hb3⟩;have R3:=R2.after hb3;clear hb3)
    |(go_at_call 6;refine(HE.out _).mono ?_;rintro en w9 ⟨rfl,hb9⟩))
   go_ret
   exact⟨rfl,by first|exact blt R3.du hb9|exact blt R2.du hb9⟩)
end Go.Proofs.Nw
namespace Go.Proofs.Nw
open Go Go.Proofs Go.Lib Go.Proofs.YtglogmeapcdmeaaGreatDoor
set_option maxRecDepth 100000
abbrev xb:List (String × DataW Unit):=[("math/bits.deBruijn32tab",Rows.laid_math_bits_deBruijn32tab),("math/bits.deBruijn64tab",Rows.laid_math_bits_deBruijn64tab),("internal/strconv.uint64pow10",Rows.laid_internal_strconv_uint64pow10)]
theorem wb{P:Program}{w:World}{x:String × DataW Unit}{r:List (String × DataW Unit)}{ps:List MemPlace}(h:DataW.LaidVars P w (x::r) ps): ∃q,DataW.LaidVars P w r q:=by
 obtain⟨n,d⟩:=x
 obtain⟨_,_,_,_,_,q,_,_,_,_,h,_⟩:=h
 exact⟨q,h⟩
theorem z8{w:World}(h:laidMetH Tryz.prog xb w):Pow w:=by
 have h0:laidMet Tryz.prog xb w:=h
 obtain⟨ps,h1,_⟩:=h0
 obtain⟨q1,h2⟩:=wb h1
 obtain⟨q2,h3⟩:=wb h2
 obtain⟨g',t',cs,fuel,p,q,hg',ht',hvar,hd,_,_⟩:=h3
 have hg:Tryz.prog.globalNamed "internal/strconv.uint64pow10" =some 1:=by kernel_rfl
 obtain rfl:=Option.some.inj (hg.symm.trans hg')
 have hd':DataW.trod (fun _=>()) Tryz.prog w 0 (fun _=>true) false fuel t' cs.toList=some (tabData .u64 pow10Tab,p):=hd
 have hty:(Tryz.prog.globals[1]?).map (·.type)=some 166:=by kernel_rfl
 obtain rfl:=Option.some.inj (hty.symm.trans ht')
 unfold Pow TabIs
 rw[hvar,←cells_of_tab (e:=90) (n:=20) (by kernel_rfl) (by kernel_rfl) (by kernel_rfl) (by kernel_rfl) hd']
end Go.Proofs.Nw
