/-
  A part of the proof: lemmas of my own.
-/
import Derived.Test.YtglogmeapcdmeaaGreatDoorPE
set_option linter.unusedVariables false
set_option linter.unusedSimpArgs false
namespace Go.Proofs.Nw
open Go Go.Proofs Go.AV Go.RowKit Go.Shelf Go.Sort
set_option maxRecDepth 1000000
theorem AT{N:cd}{G:List eG}{n:Nat}{acc:List UInt8}{x:eG}{T:List UInt8 × Int}(hx:G[n]? =some x)(h:nU N (G.drop n) acc=T)(hb:kB N x=true):T=([],9):=by
 obtain⟨hn,rfl⟩:=List.getElem?_eq_some_iff.1 hx
 rw[List.drop_eq_getElem_cons hn,nU,if_pos hb] at h
 exact h.symm
theorem xc{N:cd}{G:List eG}{n:Nat}{acc:List UInt8}{x:eG}{T:List UInt8 × Int}(hx:G[n]? =some x)(h:nU N (G.drop n) acc=T)(hb: ¬kB N x=true):nU N (G.drop (n+1)) (acc++mN N x)=T:=by
 obtain⟨hn,rfl⟩:=List.getElem?_eq_some_iff.1 hx
 rw[List.drop_eq_getElem_cons hn,nU,if_neg hb] at h
 exact h
theorem AS{N:cd}{G:List eG}{n:Nat}{acc:List UInt8}{T:List UInt8 × Int}(hn:G.length<=n)(h:nU N (G.drop n) acc=T):T=(acc,0):=by
 rw[List.drop_eq_nil_of_le hn,nU] at h
 exact h.symm
theorem wZ{N:cd}{x:eG}(h:kB N x=true)(h1:0<=x.fz1)(h2:x.fz1<N.stops.length)(h3:0<=x.aq)(h4:x.aq<N.stops.length)(h5:x.df=true->pY N x=true):False:=by
 simp only[kB,Bool.or_eq_true,decide_eq_true_eq,Bool.and_eq_true] at h
 rcases h with h|h|h|h|⟨h,h'⟩
 ·omega
 ·omega
 ·omega
 ·omega
 ·rw[h5 h] at h';cases h'
theorem yp{N:cd}{x:eG}(h: ¬kB N x=true):0<=x.fz1/\x.fz1<N.stops.length/\0<=x.aq/\x.aq<N.stops.length/\(x.df=true->pY N x=true):=by
 simp only[kB,Bool.or_eq_true,decide_eq_true_eq,Bool.and_eq_true,not_or,not_and] at h
 refine⟨by omega,by omega,by omega,by omega,fun hr=>?_⟩
 have:=h.2.2.2.2 hr
 simpa using this
theorem Bx.cells{W wr:World}{v0 v1 v2 v3 v4 v5 v6 v7 v8 vj:Value}{u:TypeId}(R:Bx W wr #[v0,v1,v2,v3,v4,v5,v6,v7,v8] #[vj] u)(o:Obj):(wr.alloc o).cell? ⟨W.heap.size,0,none⟩=some v0/\(wr.alloc o).cell? ⟨W.heap.size,1,none⟩=some v1/\(wr.alloc o).cell? ⟨W.heap.size,2,none⟩=some v2/\(wr.alloc o).cell? ⟨W.heap.size,3,none⟩=some v3/\(wr.alloc o).cell? ⟨W.heap.size,4,none⟩=some v4/\(wr.alloc o).cell? ⟨W.heap.size,5,none⟩=some v5/\(wr.alloc o).cell? ⟨W.heap.size,6,none⟩=some v6/\(wr.alloc o).cell? ⟨W.heap.size,7,none⟩=some v7/\(wr.alloc o).cell? ⟨W.heap.size,8,none⟩=some v8/\(wr.alloc o).cell? ⟨W.heap.size+1,0,none⟩=some vj:=by
 have hlt:=R.lt
 have hb:Below wr.heap.size wr (wr.alloc o):=dZ (da _) _
 have h0:=fun k=>(hb.cell (p:=⟨W.heap.size,k,none⟩) (by show W.heap.size<_;omega)).trans (bh R.r0 k)
 have h1:=fun k=>(hb.cell (p:=⟨W.heap.size+1,k,none⟩) (by show W.heap.size+1<_;omega)).trans (bh R.r1 k)
 exact⟨h0 0,h0 1,h0 2,h0 3,h0 4,h0 5,h0 6,h0 7,h0 8,h1 0⟩
abbrev BS(wr:World)(B b:Nat)(v0 v2 jv:Value)(x:eG)(g f i k:Nat)(s0 s1:ByteArray)(g2 f2 r:Nat)(y:gO)(ca:Option Addr)(cc:Nat)(b2:Nat)(wy:World):Prop:=vY wr B b v0 v2 jv x g f i k s0 s1 g2 f2 r y ca cc wy/\wy.cell? ⟨b2,1,none⟩=some (zv y.day)/\wy.cell? ⟨b2,2,none⟩=some (zv y.inst)/\wy.cell? ⟨b2,3,none⟩=some (.string y.id)/\b2<wy.heap.size
theorem BS.c8{wr w1 w2:World}{B b:Nat}{v0 v2 jv:Value}{x:eG}{g f i k:Nat}{s0 s1:ByteArray}{g2 f2 r:Nat}{y:gO}{ca:Option Addr}{cc b2:Nat}(hb:Below w1.heap.size w1 w2)(hB:B+1<wr.heap.size)(hG:g<wr.heap.size)(hR:g2<wr.heap.size)(h:BS wr B b v0 v2 jv x g f i k s0 s1 g2 f2 r y ca cc b2 w1):BS wr B b v0 v2 jv x g f i k s0 s1 g2 f2 r y ca cc b2 w2:=
 ⟨vY.c8 hb hB hG hR h.1,aG hb h.2.2.2.2 h.2.1,aG hb h.2.2.2.2 h.2.2.1,aG hb h.2.2.2.2 h.2.2.2.1,Nat.lt_of_lt_of_le h.2.2.2.2 hb.size⟩
theorem vY.du{wr w1:World}{B b:Nat}{v0 v2 jv:Value}{x:eG}{g f i k:Nat}{s0 s1:ByteArray}{g2 f2 r:Nat}{y:gO}{ca:Option Addr}{cc:Nat}(h:vY wr B b v0 v2 jv x g f i k s0 s1 g2 f2 r y ca cc w1):Below wr.heap.size wr w1:=h.2.2.2.2.2.2.2.2.2.2.2.2.2.2.2.2.2.2.2.2.2
set_option maxHeartbeats 6400000 in
theorem Cc{W:World}{N:cd}{a0 a1 a2 a3 a4 a5 aj:Option Addr}{l0 l1 l2 l3 l4 l5 lj c0 c1 c2 c3 c4 c5 cj:Nat}{n6 n7 n8:Value}{code:Int}{G:List eG}(hF:NF W N a0 l0 a2 l2)(hL:LF W G aj lj)(hV0:code=0->NV N)(hG:G.length<=20)(hl: ∀l∈G,l.ok)
 (hV: ∀w',Below W.heap.size W w'->Calls Tryz.prog 32 #[.agg #[.slice a0 l0 c0, .slice a1 l1 c1, .slice a2 l2 c2, .slice a3 l3 c3, .slice a4 l4 c4, .slice a5 l5 c5,n6,n7,n8]] w' fun en w''=>en= .returned (.bool (code==0))/\Below w'.heap.size w' w''):
 Calls Tryz.prog 17 #[.agg #[.slice a0 l0 c0, .slice a1 l1 c1, .slice a2 l2 c2, .slice a3 l3 c3, .slice a4 l4 c4, .slice a5 l5 c5,n6,n7,n8], .agg #[.slice aj lj cj]] W fun en w'=>en= .returned (.tuple #[.string ⟨(ig code N G).1.toArray⟩, .int .i64 (ig code N G).2])/\Below W.heap.size W w':=by
 have HV:=Lib.hid hV
 have R0:=Bx.start W #[.slice a0 l0 c0, .slice a1 l1 c1, .slice a2 l2 c2, .slice a3 l3 c3, .slice a4 l4 c4, .slice a5 l5 c5,n6,n7,n8] #[.slice aj lj cj] 45
 obtain⟨T,hT⟩: ∃T,T=ig code N G:=⟨_,rfl⟩
 rw[←hT]
 by_cases hc:code=0
 ·subst hc
  have hN:=hV0 rfl
  have HT:=Lib.hid (show nU N (G.drop 0) []=T from hT.symm)
  have HF:=Lib.hid hF
  have HL:=Lib.hid hL
  have HN:=Lib.hid hN
  have HO:=Lib.hid hl
  have e0:=hF.e0
  have ej:=hL.e
  clear hT hV hN hF hL hl hV0
  subst e0 ej
  go_enter Tryz.func17,Tryz.ntmps17
  go_wp2_with (go_at_call 32;refine(HV.out _ R0.du).mono ?_;rintro en w2 ⟨rfl,hb2⟩;have R2:=R0.after hb2)
  go_loopw [6,7] (fun s i wr=> ∃(n:Nat)(sb:ByteArray),n<=G.length/\i= .int .i64 n/\s= .string sb/\sb.size<=n*300/\nU N (G.drop n) sb.data.toList=T/\Bx W wr #[.slice a0 N.stops.length c0, .slice a1 l1 c1, .slice a2 l2 c2, .slice a3 l3 c3, .slice a4 l4 c4, .slice a5 l5 c5,n6,n7,n8] #[.slice aj G.length cj] 45) (fun _ i _=>G.length - (intOf i).toNat)
  case atStart=>exact⟨0,⟨#[]⟩,Nat.zero_le _,rfl,rfl,Nat.zero_le _,HT.out,R2⟩
  case round=>
   obtain⟨n,sb,hn,rfl,rfl,hsz,hj,R⟩:=hrel
   rename World=>wr
   clear R0 R2 hb2
   have HJ:=Lib.hid hj
   clear hj
   have hlt2:=R.lt
   have z0:=bh R.r0 0
   have z2:=bh R.r0 2
   have zj:=bh R.r1 0
   simp only[List.getElem?_toArray,List.getElem?_cons_zero,List.getElem?_cons_succ] at z0 z2 zj
   by_cases hlt:n<G.length
   ·obtain⟨x,hx⟩: ∃x,G[n]? =some x:=⟨_,List.getElem?_eq_getElem hlt⟩
    obtain⟨gj,fj,haj,hgj,y0,y1,y2,y3,y4,y5,y6,y7,y8⟩:=(HL.out.below R.du).le n x hx
    have hlt':(n:Int)<(G.length:Int):=by omega
    have hok:=HO.out x (List.mem_of_getElem? hx)
    obtain⟨df,run,ek,off,fr,tt,dp,ar,stay⟩:=x
    simp only at y0 y1 y2 y3 y4 y5 y6 y7 y8
    subst haj
    by_cases hb:kB N ⟨df,run,ek,off,fr,tt,dp,ar,stay⟩=true
    ·have E:=Lib.hid (AT hx HJ.out hb)
     have HB:=Lib.hid hb
     obtain⟨v0,v1,v2,v3,v4,v5,v6,v7,v8,vj⟩:=R.cells (Obj.cells #[Value.bool df,zv run,zv ek,zv off,zv fr,zv tt,zv dp,zv ar,Value.bool stay] 83)
     clear hb hok
     go_wp2_with (go_at_call 33;refine(uM ((HF.out.below R.du).below (dZ (da _) _)) _ _ _ _ _ _ _ _ _).mono ?_;rintro en w3 ⟨rfl,hb3⟩;have R3:=R.after (blt (dZ (da _) _) hb3))
     all_goals first
      |(go_ret2;exact⟨by rw[E.out];rfl,by first|exact R3.du|exact(R.after (dZ (da _) _)).du⟩)
      |(exfalso;exact wZ HB.out (by assumption) (by assumption) (by assumption) (by assumption) (fun hr=>by first|exact absurd hr (by assumption)|(have hh:=(‹_/\(!pY N _)=false›).2;rw[Bool.not_eq_false'] at hh;exact hh)))
    ·have hgd:=yp hb
     have HJ2:=Lib.hid (xc hx HJ.out hb)
     simp only at hgd
     clear hb
     obtain⟨i,rfl⟩: ∃i:Nat,fr=i:=⟨fr.toNat,by omega⟩
     obtain⟨k,rfl⟩: ∃k:Nat,tt=k:=⟨tt.toNat,by omega⟩
     have hi2:i<N.stops.length:=by omega
     have hk2:k<N.stops.length:=by omega
     obtain⟨g,f,ha0,hg,hs0⟩:=(HF.out.below R.du).st i _ (List.getElem?_eq_getElem hi2)
     obtain⟨g',f',ha0',-,hs1⟩:=(HF.out.below R.du).st k _ (List.getElem?_eq_getElem hk2)
     rw[ha0] at ha0'
     obtain⟨rfl,rfl⟩:g=g'/\f=f':=by injection ha0' with h;injection h with h1 h2;exact⟨h1,h2⟩
     clear ha0'
     subst ha0
     have hn0:=HN.out.st _ (List.getElem_mem hi2)
     have hn1:=HN.out.st _ (List.getElem_mem hk2)
     have e0:N.stop (i:Int)=N.stops[i].id:=by simp[cd.stop,hi2]
     have e1:N.stop (k:Int)=N.stops[k].id:=by simp[cd.stop,hk2]
     generalize N.stops[i].id=s0 at hs0 hn0 e0
     generalize N.stops[k].id=s1 at hs1 hn1 e1
     have hokd:jg dp:=hok.2.2.2.2.2.1
     have hoka:jg ar:=hok.2.2.2.2.2.2
     have zd:=c9 dp
     have za:=c9 ar
     have hsb:sb.size<=6000:=by omega
     have hi3: ¬(i:Int)<0:=by omega
     have hk3: ¬(k:Int)<0:=by omega
     have hi4:(i:Int)<N.stops.length:=by omega
     have hk4:(k:Int)<N.stops.length:=by omega
     cases df
     ·cases stay
      ·skip
       obtain⟨v0,v1,v2,v3,v4,v5,v6,v7,v8,vj⟩:=R.cells (Obj.cells #[Value.bool false,zv run,zv ek,zv off,zv (i:Int),zv (k:Int),zv dp,zv ar,Value.bool false] 83)
       have hS:ku wr W.heap.size wr.heap.size (.slice (some ⟨g,f,none⟩) N.stops.length c0) (.slice a2 l2 c2) (.slice (some ⟨gj,fj,none⟩) G.length cj) ⟨false,run,ek,off,i,k,dp,ar,false⟩ g f i k s0 s1 (wr.alloc (Obj.cells #[Value.bool false,zv run,zv ek,zv off,zv (i:Int),zv (k:Int),zv dp,zv ar,Value.bool false] 83)):=by
        refine⟨v0,v2,vj,?_,?_,?_,?_,?_,?_,?_,aG (dZ (da _) _) hg hs0,aG (dZ (da _) _) hg hs1,by simp,dZ (da _) _⟩<;>(simp only[World.cell?,heap_alloc];rfl)
       have gz0: ¬(9223372036854775807<sb.size+s0.size):=by omega
       have gz1: ¬(9223372036854775807<sb.size+s0.size+1):=by omega
       have gz2: ¬(9223372036854775807<sb.size+s0.size+1+(aB dp).size):=by omega
       have gz3: ¬(9223372036854775807<sb.size+s0.size+1+(aB dp).size+1):=by omega
       have gz4: ¬(9223372036854775807<sb.size+s0.size+1+(aB dp).size+1+4):=by omega
       have gz5: ¬(9223372036854775807<sb.size+s0.size+1+(aB dp).size+1+4+1):=by omega
       have gz6: ¬(9223372036854775807<sb.size+s0.size+1+(aB dp).size+1+4+1+s1.size):=by omega
       have gz7: ¬(9223372036854775807<sb.size+s0.size+1+(aB dp).size+1+4+1+s1.size+1):=by omega
       have gz8: ¬(9223372036854775807<sb.size+s0.size+1+(aB dp).size+1+4+1+s1.size+1+(aB ar).size):=by omega
       have gz9: ¬(9223372036854775807<sb.size+s0.size+1+(aB dp).size+1+4+1+s1.size+1+(aB ar).size+1):=by omega
       have e:((((((((((sb++s0)++⟨#[32]⟩)++aB dp)++⟨#[32]⟩)++⟨#[119,97,108,107]⟩)++⟨#[32]⟩)++s1)++⟨#[32]⟩)++aB ar)++⟨#[10]⟩)=⟨(sb.data.toList++mN N ⟨false,run,ek,off,i,k,dp,ar,false⟩).toArray⟩:=rZ (by simp[kH,mN,e0,e1,vM,kF,rm])
       have E:=Lib.hid e
       have HZ:=Lib.hid (show((((((((((sb++s0)++⟨#[32]⟩)++aB dp)++⟨#[32]⟩)++⟨#[119,97,108,107]⟩)++⟨#[32]⟩)++s1)++⟨#[32]⟩)++aB ar)++⟨#[10]⟩).size<=(n+1)*300 by
        have q1:(⟨#[32]⟩:ByteArray).size=1:=rfl
        have q2:(⟨#[10]⟩:ByteArray).size=1:=rfl
        have q3:(⟨#[119,97,108,107]⟩:ByteArray).size=4:=rfl
        have q4:(⟨#[32,115,116,97,121]⟩:ByteArray).size=5:=rfl
        simp only[ByteArray.size_append,q1,q2,q3,q4]
        omega)
       clear e
       go_wp2_with fail
       go_region_held3 (fun wx=>ku wr W.heap.size wr.heap.size (.slice (some ⟨g,f,none⟩) N.stops.length c0) (.slice a2 l2 c2) (.slice (some ⟨gj,fj,none⟩) G.length cj) ⟨false,run,ek,off,i,k,dp,ar,false⟩ g f i k s0 s1 wx)
        (first|(exact ku.c8 (by assumption) hlt2 hg (by assumption))|(exact ku.c8 (kG (da _)) hlt2 hg (by assumption))|go_keep)
        (first|(go_at_call 18;refine(eU _ _ hokd.1 hokd.2).mono ?_;rintro e w' ⟨rfl,hb⟩))
       go_wp2_with fail
       go_region_held3 (fun wx=>ku wr W.heap.size wr.heap.size (.slice (some ⟨g,f,none⟩) N.stops.length c0) (.slice a2 l2 c2) (.slice (some ⟨gj,fj,none⟩) G.length cj) ⟨false,run,ek,off,i,k,dp,ar,false⟩ g f i k s0 s1 wx)
        (first|(exact ku.c8 (by assumption) hlt2 hg (by assumption))|(exact ku.c8 (kG (da _)) hlt2 hg (by assumption))|go_keep)
        (first|(go_at_call 18;refine(eU _ _ hoka.1 hoka.2).mono ?_;rintro e w' ⟨rfl,hb⟩))
       go_wp2_with fail
       rename_i hH
       exact⟨⟨n+1,_,by omega,by first|rfl|(congr 1;omega),rfl,HZ.out,by rw[E.out];exact HJ2.out,R.after hH.2.2.2.2.2.2.2.2.2.2.2.2.2⟩,by simp[intOf];omega⟩
      ·skip
       obtain⟨v0,v1,v2,v3,v4,v5,v6,v7,v8,vj⟩:=R.cells (Obj.cells #[Value.bool false,zv run,zv ek,zv off,zv (i:Int),zv (k:Int),zv dp,zv ar,Value.bool true] 83)
       have hS:ku wr W.heap.size wr.heap.size (.slice (some ⟨g,f,none⟩) N.stops.length c0) (.slice a2 l2 c2) (.slice (some ⟨gj,fj,none⟩) G.length cj) ⟨false,run,ek,off,i,k,dp,ar,true⟩ g f i k s0 s1 (wr.alloc (Obj.cells #[Value.bool false,zv run,zv ek,zv off,zv (i:Int),zv (k:Int),zv dp,zv ar,Value.bool true] 83)):=by
        refine⟨v0,v2,vj,?_,?_,?_,?_,?_,?_,?_,aG (dZ (da _) _) hg hs0,aG (dZ (da _) _) hg hs1,by simp,dZ (da _) _⟩<;>(simp only[World.cell?,heap_alloc];rfl)
       have gz0: ¬(9223372036854775807<sb.size+s0.size):=by omega
       have gz1: ¬(9223372036854775807<sb.size+s0.size+1):=by omega
       have gz2: ¬(9223372036854775807<sb.size+s0.size+1+(aB dp).size):=by omega
       have gz3: ¬(9223372036854775807<sb.size+s0.size+1+(aB dp).size+1):=by omega
       have gz4: ¬(9223372036854775807<sb.size+s0.size+1+(aB dp).size+1+4):=by omega
       have gz5: ¬(9223372036854775807<sb.size+s0.size+1+(aB dp).size+1+4+5):=by omega
       have gz6: ¬(9223372036854775807<sb.size+s0.size+1+(aB dp).size+1+4+5+1):=by omega
       have gz7: ¬(9223372036854775807<sb.size+s0.size+1+(aB dp).size+1+4+5+1+s1.size):=by omega
       have gz8: ¬(9223372036854775807<sb.size+s0.size+1+(aB dp).size+1+4+5+1+s1.size+1):=by omega
       have gz9: ¬(9223372036854775807<sb.size+s0.size+1+(aB dp).size+1+4+5+1+s1.size+1+(aB ar).size):=by omega
       have gz10: ¬(9223372036854775807<sb.size+s0.size+1+(aB dp).size+1+4+5+1+s1.size+1+(aB ar).size+1):=by omega
       have e:(((((((((((sb++s0)++⟨#[32]⟩)++aB dp)++⟨#[32]⟩)++⟨#[119,97,108,107]⟩)++⟨#[32,115,116,97,121]⟩)++⟨#[32]⟩)++s1)++⟨#[32]⟩)++aB ar)++⟨#[10]⟩)=⟨(sb.data.toList++mN N ⟨false,run,ek,off,i,k,dp,ar,true⟩).toArray⟩:=rZ (by simp[kH,mN,e0,e1,vM,kF,rm])
       have E:=Lib.hid e
       have HZ:=Lib.hid (show(((((((((((sb++s0)++⟨#[32]⟩)++aB dp)++⟨#[32]⟩)++⟨#[119,97,108,107]⟩)++⟨#[32,115,116,97,121]⟩)++⟨#[32]⟩)++s1)++⟨#[32]⟩)++aB ar)++⟨#[10]⟩).size<=(n+1)*300 by
        have q1:(⟨#[32]⟩:ByteArray).size=1:=rfl
        have q2:(⟨#[10]⟩:ByteArray).size=1:=rfl
        have q3:(⟨#[119,97,108,107]⟩:ByteArray).size=4:=rfl
        have q4:(⟨#[32,115,116,97,121]⟩:ByteArray).size=5:=rfl
        simp only[ByteArray.size_append,q1,q2,q3,q4]
        omega)
       clear e
       go_wp2_with fail
       go_region_held3 (fun wx=>ku wr W.heap.size wr.heap.size (.slice (some ⟨g,f,none⟩) N.stops.length c0) (.slice a2 l2 c2) (.slice (some ⟨gj,fj,none⟩) G.length cj) ⟨false,run,ek,off,i,k,dp,ar,true⟩ g f i k s0 s1 wx)
        (first|(exact ku.c8 (by assumption) hlt2 hg (by assumption))|(exact ku.c8 (kG (da _)) hlt2 hg (by assumption))|go_keep)
        (first|(go_at_call 18;refine(eU _ _ hokd.1 hokd.2).mono ?_;rintro e w' ⟨rfl,hb⟩))
       go_wp2_with fail
       go_region_held3 (fun wx=>ku wr W.heap.size wr.heap.size (.slice (some ⟨g,f,none⟩) N.stops.length c0) (.slice a2 l2 c2) (.slice (some ⟨gj,fj,none⟩) G.length cj) ⟨false,run,ek,off,i,k,dp,ar,true⟩ g f i k s0 s1 wx)
        (first|(exact ku.c8 (by assumption) hlt2 hg (by assumption))|(exact ku.c8 (kG (da _)) hlt2 hg (by assumption))|go_keep)
        (first|(go_at_call 18;refine(eU _ _ hoka.1 hoka.2).mono ?_;rintro e w' ⟨rfl,hb⟩))
       go_wp2_with fail
       rename_i hH
       exact⟨⟨n+1,_,by omega,by first|rfl|(congr 1;omega),rfl,HZ.out,by rw[E.out];exact HJ2.out,R.after hH.2.2.2.2.2.2.2.2.2.2.2.2.2⟩,by simp[intOf];omega⟩
     ·obtain⟨x0,x1,x2,x3,x4⟩:=CS (hgd.2.2.2.2 rfl)
      have hex:=hgd.2.2.2.2 rfl
      simp only at x0 x1
      obtain⟨r,rfl⟩: ∃r:Nat,run=r:=⟨run.toNat,by omega⟩
      have hr2:r<N.runs.length:=by omega
      obtain⟨g2,f2,ca,cc,ha2,hg2,q0,q1,q2,q3,q4,q5,q6,q7⟩:=(HF.out.below R.du).ru r _ (List.getElem?_eq_getElem hr2)
      subst ha2
      obtain⟨hid,hd0,hd1,hi0,hi1⟩:=HN.out.ru _ (List.getElem_mem hr2)
      have e2:=run_get (List.getElem?_eq_getElem hr2)
      generalize N.runs[r]=y at*
      have hids:=nE hid
      have zy:=c9 y.day
      have zi:=c9 y.inst
      have hr3:r<l2:=by have:=HF.out.e2;omega
      have hr4:(r:Int)<(l2:Int):=by omega
      clear x0 x1 x2 x3 x4
      cases stay
      ·skip
       obtain⟨v0,v1,v2,v3,v4,v5,v6,v7,v8,vj⟩:=R.cells (Obj.cells #[Value.bool true,zv (r:Int),zv ek,zv off,zv (i:Int),zv (k:Int),zv dp,zv ar,Value.bool false] 83)
       have hS:vY wr W.heap.size wr.heap.size (.slice (some ⟨g,f,none⟩) N.stops.length c0) (.slice (some ⟨g2,f2,none⟩) l2 c2) (.slice (some ⟨gj,fj,none⟩) G.length cj) ⟨true,r,ek,off,i,k,dp,ar,false⟩ g f i k s0 s1 g2 f2 r y ca cc (wr.alloc (Obj.cells #[Value.bool true,zv (r:Int),zv ek,zv off,zv (i:Int),zv (k:Int),zv dp,zv ar,Value.bool false] 83)):=by
        refine⟨v0,v2,vj,?_,?_,?_,?_,?_,?_,?_,aG (dZ (da _) _) hg hs0,aG (dZ (da _) _) hg hs1,aG (dZ (da _) _) hg2 q0,aG (dZ (da _) _) hg2 q1,aG (dZ (da _) _) hg2 q2,aG (dZ (da _) _) hg2 q3,aG (dZ (da _) _) hg2 q4,aG (dZ (da _) _) hg2 q5,aG (dZ (da _) _) hg2 q6,aG (dZ (da _) _) hg2 q7,by simp,dZ (da _) _⟩<;>(simp only[World.cell?,heap_alloc];rfl)
       have gz0: ¬(9223372036854775807<sb.size+s0.size):=by omega
       have gz1: ¬(9223372036854775807<sb.size+s0.size+1):=by omega
       have gz2: ¬(9223372036854775807<sb.size+s0.size+1+(aB dp).size):=by omega
       have gz3: ¬(9223372036854775807<sb.size+s0.size+1+(aB dp).size+1):=by omega
       have gz4: ¬(9223372036854775807<sb.size+s0.size+1+(aB dp).size+1+y.id.size):=by omega
       have gz5: ¬(9223372036854775807<sb.size+s0.size+1+(aB dp).size+1+y.id.size+1):=by omega
       have gz6: ¬(9223372036854775807<sb.size+s0.size+1+(aB dp).size+1+y.id.size+1+(aB y.day).size):=by omega
       have gz7: ¬(9223372036854775807<sb.size+s0.size+1+(aB dp).size+1+y.id.size+1+(aB y.day).size+1):=by omega
       have gz8: ¬(9223372036854775807<sb.size+s0.size+1+(aB dp).size+1+y.id.size+1+(aB y.day).size+1+(aB y.inst).size):=by omega
       have gz9: ¬(9223372036854775807<sb.size+s0.size+1+(aB dp).size+1+y.id.size+1+(aB y.day).size+1+(aB y.inst).size+1):=by omega
       have gz10: ¬(9223372036854775807<sb.size+s0.size+1+(aB dp).size+1+y.id.size+1+(aB y.day).size+1+(aB y.inst).size+1+s1.size):=by omega
       have gz11: ¬(9223372036854775807<sb.size+s0.size+1+(aB dp).size+1+y.id.size+1+(aB y.day).size+1+(aB y.inst).size+1+s1.size+1):=by omega
       have gz12: ¬(9223372036854775807<sb.size+s0.size+1+(aB dp).size+1+y.id.size+1+(aB y.day).size+1+(aB y.inst).size+1+s1.size+1+(aB ar).size):=by omega
       have gz13: ¬(9223372036854775807<sb.size+s0.size+1+(aB dp).size+1+y.id.size+1+(aB y.day).size+1+(aB y.inst).size+1+s1.size+1+(aB ar).size+1):=by omega
       have e:((((((((((((((sb++s0)++⟨#[32]⟩)++aB dp)++⟨#[32]⟩)++y.id)++⟨#[64]⟩)++aB y.day)++⟨#[35]⟩)++aB y.inst)++⟨#[32]⟩)++s1)++⟨#[32]⟩)++aB ar)++⟨#[10]⟩)=⟨(sb.data.toList++mN N ⟨true,r,ek,off,i,k,dp,ar,false⟩).toArray⟩:=rZ (by simp[kH,mN,e0,e1,e2,vM,kF,rm,oH])
       have E:=Lib.hid e
       have HZ:=Lib.hid (show((((((((((((((sb++s0)++⟨#[32]⟩)++aB dp)++⟨#[32]⟩)++y.id)++⟨#[64]⟩)++aB y.day)++⟨#[35]⟩)++aB y.inst)++⟨#[32]⟩)++s1)++⟨#[32]⟩)++aB ar)++⟨#[10]⟩).size<=(n+1)*300 by
        have q1:(⟨#[32]⟩:ByteArray).size=1:=rfl
        have q2:(⟨#[10]⟩:ByteArray).size=1:=rfl
        have q3:(⟨#[64]⟩:ByteArray).size=1:=rfl
        have q5:(⟨#[35]⟩:ByteArray).size=1:=rfl
        have q4:(⟨#[32,115,116,97,121]⟩:ByteArray).size=5:=rfl
        simp only[ByteArray.size_append,q1,q2,q3,q4,q5]
        omega)
       have hHF:=Lib.hid (uM ((HF.out.below R.du).below (dZ (da _) (Obj.cells #[Value.bool true,zv (r:Int),zv ek,zv off,zv (i:Int),zv (k:Int),zv dp,zv ar,Value.bool false] 83))) (c0:=c0) (a1:=a1) (l1:=l1) (c1:=c1) (c2:=c2) (a3:=a3) (l3:=l3) (c3:=c3) (a4:=a4) (l4:=l4) (c4:=c4) (a5:=a5) (l5:=l5) (c5:=c5) (n6:=n6) (n7:=n7) (n8:=n8) true r ek off i k dp ar false)
       have hex':=hex
       clear e
       go_wp2_with (go_at_call 33;refine hHF.out.mono ?_;rw[hex'];rintro en w3 ⟨rfl,hb3⟩;have hS3:=vY.c8 hb3 hlt2 hg hg2 hS)
       go_region_held3 (fun wx=>vY wr W.heap.size wr.heap.size (.slice (some ⟨g,f,none⟩) N.stops.length c0) (.slice (some ⟨g2,f2,none⟩) l2 c2) (.slice (some ⟨gj,fj,none⟩) G.length cj) ⟨true,r,ek,off,i,k,dp,ar,false⟩ g f i k s0 s1 g2 f2 r y ca cc wx)
        (first|(exact vY.c8 (by assumption) hlt2 hg hg2 (by assumption))|(exact vY.c8 (kG (da _)) hlt2 hg hg2 (by assumption))|go_keep)
        (first|(go_at_call 18;refine(eU _ _ hokd.1 hokd.2).mono ?_;rintro e wx ⟨rfl,hb⟩))
       go_wp2_with fail
       rename_i hH kk ka
       have hK:BS wr W.heap.size wr.heap.size (.slice (some ⟨g,f,none⟩) N.stops.length c0) (.slice (some ⟨g2,f2,none⟩) l2 c2) (.slice (some ⟨gj,fj,none⟩) G.length cj) ⟨true,r,ek,off,i,k,dp,ar,false⟩ g f i k s0 s1 g2 f2 r y ca cc wx.heap.size (wx.alloc (Obj.cells #[zv y.oC,zv y.day,zv y.inst,Value.string y.id,zv y.gE,Value.bool y.sf,Value.bool y.cancelled,Value.slice ca y.calls.length cc] 42)):=⟨vY.c8 (dZ (da _) _) hlt2 hg hg2 hH,by simp only[World.cell?,heap_alloc];rfl,by simp only[World.cell?,heap_alloc];rfl,by simp only[World.cell?,heap_alloc];rfl,by simp⟩
       go_region_held3 (fun wy=>BS wr W.heap.size wr.heap.size (.slice (some ⟨g,f,none⟩) N.stops.length c0) (.slice (some ⟨g2,f2,none⟩) l2 c2) (.slice (some ⟨gj,fj,none⟩) G.length cj) ⟨true,r,ek,off,i,k,dp,ar,false⟩ g f i k s0 s1 g2 f2 r y ca cc wx.heap.size wy)
        (first|(exact BS.c8 (by assumption) hlt2 hg hg2 (by assumption))|(exact BS.c8 (kG (da _)) hlt2 hg hg2 (by assumption))|go_keep)
        (first|(go_at_call 18;refine(eU _ _ (by omega) (by omega)).mono ?_;rintro e w' ⟨rfl,hb⟩))
       go_wp2_with fail
       go_region_held3 (fun wy=>BS wr W.heap.size wr.heap.size (.slice (some ⟨g,f,none⟩) N.stops.length c0) (.slice (some ⟨g2,f2,none⟩) l2 c2) (.slice (some ⟨gj,fj,none⟩) G.length cj) ⟨true,r,ek,off,i,k,dp,ar,false⟩ g f i k s0 s1 g2 f2 r y ca cc wx.heap.size wy)
        (first|(exact BS.c8 (by assumption) hlt2 hg hg2 (by assumption))|(exact BS.c8 (kG (da _)) hlt2 hg hg2 (by assumption))|go_keep)
        (first|(go_at_call 18;refine(eU _ _ hoka.1 hoka.2).mono ?_;rintro e w' ⟨rfl,hb⟩))
       go_wp2_with fail
       rename_i hH2
       exact⟨⟨n+1,_,by omega,by first|rfl|(congr 1;omega),rfl,HZ.out,by rw[E.out];exact HJ2.out,R.after (vY.du hH2.1)⟩,by simp[intOf];omega⟩
      ·skip
       obtain⟨v0,v1,v2,v3,v4,v5,v6,v7,v8,vj⟩:=R.cells (Obj.cells #[Value.bool true,zv (r:Int),zv ek,zv off,zv (i:Int),zv (k:Int),zv dp,zv ar,Value.bool true] 83)
       have hS:vY wr W.heap.size wr.heap.size (.slice (some ⟨g,f,none⟩) N.stops.length c0) (.slice (some ⟨g2,f2,none⟩) l2 c2) (.slice (some ⟨gj,fj,none⟩) G.length cj) ⟨true,r,ek,off,i,k,dp,ar,true⟩ g f i k s0 s1 g2 f2 r y ca cc (wr.alloc (Obj.cells #[Value.bool true,zv (r:Int),zv ek,zv off,zv (i:Int),zv (k:Int),zv dp,zv ar,Value.bool true] 83)):=by
        refine⟨v0,v2,vj,?_,?_,?_,?_,?_,?_,?_,aG (dZ (da _) _) hg hs0,aG (dZ (da _) _) hg hs1,aG (dZ (da _) _) hg2 q0,aG (dZ (da _) _) hg2 q1,aG (dZ (da _) _) hg2 q2,aG (dZ (da _) _) hg2 q3,aG (dZ (da _) _) hg2 q4,aG (dZ (da _) _) hg2 q5,aG (dZ (da _) _) hg2 q6,aG (dZ (da _) _) hg2 q7,by simp,dZ (da _) _⟩<;>(simp only[World.cell?,heap_alloc];rfl)
       have gz0: ¬(9223372036854775807<sb.size+s0.size):=by omega
       have gz1: ¬(9223372036854775807<sb.size+s0.size+1):=by omega
       have gz2: ¬(9223372036854775807<sb.size+s0.size+1+(aB dp).size):=by omega
       have gz3: ¬(9223372036854775807<sb.size+s0.size+1+(aB dp).size+1):=by omega
       have gz4: ¬(9223372036854775807<sb.size+s0.size+1+(aB dp).size+1+y.id.size):=by omega
       have gz5: ¬(9223372036854775807<sb.size+s0.size+1+(aB dp).size+1+y.id.size+1):=by omega
       have gz6: ¬(9223372036854775807<sb.size+s0.size+1+(aB dp).size+1+y.id.size+1+(aB y.day).size):=by omega
       have gz7: ¬(9223372036854775807<sb.size+s0.size+1+(aB dp).size+1+y.id.size+1+(aB y.day).size+1):=by omega
       have gz8: ¬(9223372036854775807<sb.size+s0.size+1+(aB dp).size+1+y.id.size+1+(aB y.day).size+1+(aB y.inst).size):=by omega
       have gz9: ¬(9223372036854775807<sb.size+s0.size+1+(aB dp).size+1+y.id.size+1+(aB y.day).size+1+(aB y.inst).size+5):=by omega
       have gz10: ¬(9223372036854775807<sb.size+s0.size+1+(aB dp).size+1+y.id.size+1+(aB y.day).size+1+(aB y.inst).size+5+1):=by omega
       have gz11: ¬(9223372036854775807<sb.size+s0.size+1+(aB dp).size+1+y.id.size+1+(aB y.day).size+1+(aB y.inst).size+5+1+s1.size):=by omega
       have gz12: ¬(9223372036854775807<sb.size+s0.size+1+(aB dp).size+1+y.id.size+1+(aB y.day).size+1+(aB y.inst).size+5+1+s1.size+1):=by omega
       have gz13: ¬(9223372036854775807<sb.size+s0.size+1+(aB dp).size+1+y.id.size+1+(aB y.day).size+1+(aB y.inst).size+5+1+s1.size+1+(aB ar).size):=by omega
       have gz14: ¬(9223372036854775807<sb.size+s0.size+1+(aB dp).size+1+y.id.size+1+(aB y.day).size+1+(aB y.inst).size+5+1+s1.size+1+(aB ar).size+1):=by omega
       have e:(((((((((((((((sb++s0)++⟨#[32]⟩)++aB dp)++⟨#[32]⟩)++y.id)++⟨#[64]⟩)++aB y.day)++⟨#[35]⟩)++aB y.inst)++⟨#[32,115,116,97,121]⟩)++⟨#[32]⟩)++s1)++⟨#[32]⟩)++aB ar)++⟨#[10]⟩)=⟨(sb.data.toList++mN N ⟨true,r,ek,off,i,k,dp,ar,true⟩).toArray⟩:=rZ (by simp[kH,mN,e0,e1,e2,vM,kF,rm,oH])
       have E:=Lib.hid e
       have HZ:=Lib.hid (show(((((((((((((((sb++s0)++⟨#[32]⟩)++aB dp)++⟨#[32]⟩)++y.id)++⟨#[64]⟩)++aB y.day)++⟨#[35]⟩)++aB y.inst)++⟨#[32,115,116,97,121]⟩)++⟨#[32]⟩)++s1)++⟨#[32]⟩)++aB ar)++⟨#[10]⟩).size<=(n+1)*300 by
        have q1:(⟨#[32]⟩:ByteArray).size=1:=rfl
        have q2:(⟨#[10]⟩:ByteArray).size=1:=rfl
        have q3:(⟨#[64]⟩:ByteArray).size=1:=rfl
        have q5:(⟨#[35]⟩:ByteArray).size=1:=rfl
        have q4:(⟨#[32,115,116,97,121]⟩:ByteArray).size=5:=rfl
        simp only[ByteArray.size_append,q1,q2,q3,q4,q5]
        omega)
       have hHF:=Lib.hid (uM ((HF.out.below R.du).below (dZ (da _) (Obj.cells #[Value.bool true,zv (r:Int),zv ek,zv off,zv (i:Int),zv (k:Int),zv dp,zv ar,Value.bool true] 83))) (c0:=c0) (a1:=a1) (l1:=l1) (c1:=c1) (c2:=c2) (a3:=a3) (l3:=l3) (c3:=c3) (a4:=a4) (l4:=l4) (c4:=c4) (a5:=a5) (l5:=l5) (c5:=c5) (n6:=n6) (n7:=n7) (n8:=n8) true r ek off i k dp ar true)
       have hex':=hex
       clear e
       go_wp2_with (go_at_call 33;refine hHF.out.mono ?_;rw[hex'];rintro en w3 ⟨rfl,hb3⟩;have hS3:=vY.c8 hb3 hlt2 hg hg2 hS)
       go_region_held3 (fun wx=>vY wr W.heap.size wr.heap.size (.slice (some ⟨g,f,none⟩) N.stops.length c0) (.slice (some ⟨g2,f2,none⟩) l2 c2) (.slice (some ⟨gj,fj,none⟩) G.length cj) ⟨true,r,ek,off,i,k,dp,ar,true⟩ g f i k s0 s1 g2 f2 r y ca cc wx)
        (first|(exact vY.c8 (by assumption) hlt2 hg hg2 (by assumption))|(exact vY.c8 (kG (da _)) hlt2 hg hg2 (by assumption))|go_keep)
        (first|(go_at_call 18;refine(eU _ _ hokd.1 hokd.2).mono ?_;rintro e wx ⟨rfl,hb⟩))
       go_wp2_with fail
       rename_i hH kk ka
       have hK:BS wr W.heap.size wr.heap.size (.slice (some ⟨g,f,none⟩) N.stops.length c0) (.slice (some ⟨g2,f2,none⟩) l2 c2) (.slice (some ⟨gj,fj,none⟩) G.length cj) ⟨true,r,ek,off,i,k,dp,ar,true⟩ g f i k s0 s1 g2 f2 r y ca cc wx.heap.size (wx.alloc (Obj.cells #[zv y.oC,zv y.day,zv y.inst,Value.string y.id,zv y.gE,Value.bool y.sf,Value.bool y.cancelled,Value.slice ca y.calls.length cc] 42)):=⟨vY.c8 (dZ (da _) _) hlt2 hg hg2 hH,by simp only[World.cell?,heap_alloc];rfl,by simp only[World.cell?,heap_alloc];rfl,by simp only[World.cell?,heap_alloc];rfl,by simp⟩
       go_region_held3 (fun wy=>BS wr W.heap.size wr.heap.size (.slice (some ⟨g,f,none⟩) N.stops.length c0) (.slice (some ⟨g2,f2,none⟩) l2 c2) (.slice (some ⟨gj,fj,none⟩) G.length cj) ⟨true,r,ek,off,i,k,dp,ar,true⟩ g f i k s0 s1 g2 f2 r y ca cc wx.heap.size wy)
        (first|(exact BS.c8 (by assumption) hlt2 hg hg2 (by assumption))|(exact BS.c8 (kG (da _)) hlt2 hg hg2 (by assumption))|go_keep)
        (first|(go_at_call 18;refine(eU _ _ (by omega) (by omega)).mono ?_;rintro e w' ⟨rfl,hb⟩))
       go_wp2_with fail
       go_region_held3 (fun wy=>BS wr W.heap.size wr.heap.size (.slice (some ⟨g,f,none⟩) N.stops.length c0) (.slice (some ⟨g2,f2,none⟩) l2 c2) (.slice (some ⟨gj,fj,none⟩) G.length cj) ⟨true,r,ek,off,i,k,dp,ar,true⟩ g f i k s0 s1 g2 f2 r y ca cc wx.heap.size wy)
        (first|(exact BS.c8 (by assumption) hlt2 hg hg2 (by assumption))|(exact BS.c8 (kG (da _)) hlt2 hg hg2 (by assumption))|go_keep)
        (first|(go_at_call 18;refine(eU _ _ hoka.1 hoka.2).mono ?_;rintro e w' ⟨rfl,hb⟩))
       go_wp2_with fail
       rename_i hH2
       exact⟨⟨n+1,_,by omega,by first|rfl|(congr 1;omega),rfl,HZ.out,by rw[E.out];exact HJ2.out,R.after (vY.du hH2.1)⟩,by simp[intOf];omega⟩
   ·have hlt': ¬(n:Int)<(G.length:Int):=by omega
    have E:=Lib.hid (AS (by omega) HJ.out)
    go_wp2
    go_ret2
    exact⟨by rw[E.out];rfl,R.du⟩
 ·have hT':T=([],21):=by rw[hT,ig,if_neg hc]
  have E:=Lib.hid hT'
  have hc':(code==0)=false:=by simpa using hc
  clear hT hT' hF hL
  go_enter Tryz.func17,Tryz.ntmps17
  go_wp2_with (go_at_call 32;refine(HV.out _ R0.du).mono ?_;rw[hc'];rintro en w2 ⟨rfl,hb2⟩;have R2:=R0.after hb2)
  go_ret2
  exact⟨by rw[E.out];rfl,R2.du⟩
end Go.Proofs.Nw
