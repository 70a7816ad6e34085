/-
  A part of the proof: lemmas of my own.
-/
import Derived.Test.YtgjfjkgigigibaaGreatPC
import Derived.Below
import Derived.KernelRfl
set_option linter.unusedVariables false
set_option linter.unusedSimpArgs false
namespace Go.Proofs.Nw
open Go Go.AV Tryz
set_option maxRecDepth 100000
section
variable{z:T aa}{zn:Nat}
theorem Jy(d w c:Int)(hz:aw z zn)(hg:fq prog z gP)(l:List bO)(cp:Nat)(e:TypeId)(he:z.get 5=some (.az (bk e (l.map bO.row).flatten)))(hl:l.length<100000)(i:Nat)(x:bO)(hx:l[i]? =some x)(b:Bool)(hb:b=(l.take i).any fun y=>y.id.data==x.id.data):
 aj prog (ah (ah (ag f76) 0) 0) 2 88 (xY i 0) [(0,xl (tb 5 l.length cp) d w c),(1,MW x)] 2 z zn (Al.R (Vg z zn i (xl (tb 5 l.length cp) d w c) x b).l):=by
 have hil:i<l.length:=(List.getElem?_eq_some_iff.1 hx).1
 refine ax hD hg (α:=Nat) 2 88 2 (fun k=>k<=i/\((l.take k).any fun y=>y.id.data==x.id.data)=false) (fun k=>xY i k) (fun _=>[(0,xl (tb 5 l.length cp) d w c),(1,MW x)]) (fun _=>z) (fun _=>zn) (fun k=>i - k) _ (fun k hI=>?_) 0 ⟨Nat.zero_le _,rfl⟩
 obtain⟨h1,h2⟩:=hI
 have hlen:=aO (row:=bO.row) (sz:=6) l fun _=>rfl
 have rx:ai prog (bk e (l.map bO.row).flatten) 9 (0+i*6+0)=some (.string x.id):=aT (r:=x.row) (j:=0) underlying9 rfl hlen (by rw[List.getElem?_map,hx];rfl) rfl
 by_cases hk:k<i
 ·obtain⟨y,hy⟩:=dm (l:=l) (i:=k) (by omega)
  have ry:ai prog (bk e (l.map bO.row).flatten) 9 (0+k*6+0)=some (.string y.id):=aT (r:=y.row) (j:=0) underlying9 rfl hlen (by rw[List.getElem?_map,hy];rfl) rfl
  have hc:decide ((k:Int)<(i:Int))=true:=by simp;omega
  refine t100 (UL z zn i k l.length cp (bk e (l.map bO.row).flatten) x y d w c (au _ _ _ _ _ _ _ _ _) ⟨fun _=>?_,nC1 hc⟩)
  (repeat' first|(with_reducible first|exact rfl|assumption|apply And.intro|exact(by omega:k<l.length)|exact bH (by omega))|intro hq)
  ·rw[p8] at hq
   exact bh (by rw[hb];exact any_true hy hk hq)
  ·rw[p8] at hq
   exact⟨k+1,rfl,rfl,rfl,rfl,rfl,⟨hk,by rw[ku hy,h2,hq];rfl⟩,by show i - (k+1)<i - k;omega⟩
 ·have hc:decide ((k:Int)<(i:Int))=false:=by simp;omega
  refine t100 (UL z zn i k l.length cp (bk e (l.map bO.row).flatten) x x d w c (au _ _ _ _ _ _ _ _ _) ⟨nC1 hc,fun _=>?_⟩)
  (repeat' first|(with_reducible first|exact rfl|assumption|apply And.intro))
  refine c8 (bh ?_)
  rw[hb,←h2,show k=i by omega]
theorem Nv(d w c:Int)(hz:aw z zn)(hg:fq prog z gP)(l:List bO)(cp:Nat)(ht:bP z 5 (l.map bO.row))(hl:l.length<100000)(r:Int × Int)(hr:scan (eH l) l.length 0=r):
 aj prog (ah (ag f76) 0) 1 88 (tM 0) [(0,xl (tb 5 l.length cp) d w c)] 1 z zn (Al.R (Vh z zn (xl (tb 5 l.length cp) d w c) r.1 r.2).l):=by
 refine ax hD hg (α:=Nat) 1 88 1 (fun i=>i<=l.length/\scan (eH l) (l.length - i) i=r) (fun i=>tM i) (fun i=>[(0,xl (tb 5 l.length cp) d w c)]) (fun _=>z) (fun _=>zn) (fun i=>l.length - i) _ (fun i hI=>?_) 0 ⟨Nat.zero_le _,hr⟩
 obtain⟨h1,h2⟩:=hI
 by_cases hi:i<l.length
 ·obtain⟨e,he⟩:=ht.az (i:=i) (by simpa using hi)
  obtain⟨x,hx⟩:=dm hi
  have hid:=Xh (ht.sz (i:=i) (r:=x.row) (s:=x.id) (by rw[List.getElem?_map,hx];rfl) (by simp))
  have hlen:=aO (row:=bO.row) (sz:=6) l fun _=>rfl
  have hr:(l.map bO.row)[i]? =some x.row:=by rw[List.getElem?_map,hx];rfl
  have r0:ai prog (bk e (l.map bO.row).flatten) 99 (0+i*6)=some (.agg ⟨x.row⟩):=bG (r:=x.row) (sz:=6) underlying99 rfl rfl hlen hr
  have hL:=Jy d w c hz hg l cp e he hl i x hx _ rfl
  generalize hb:((l.take i).any fun y=>y.id.data==x.id.data)=b at hL
  have hc:decide ((i:Int)<(l.length:Int))=true:=by simp;omega
  have ret: ∀e:Int,eH l i=some e->Al.R (Vh z zn (xl (tb 5 l.length cp) d w c) r.1 r.2).l ⟨.ret,[(2,iv i),(3,zv e)],[],1,z,zn⟩:=fun e h=>by
   have:r=((i:Int),e):=by rw[←h2,cZ hi h]
   rw[this];exact bh trivial
  have hbad:eH l i=if bW x.id=false then some 12 else if b=true then some 6 else if (AI x.cF 0 1000000 && AI x.ba 1 8 && AI x.cD 1 16 && AI x.aK 0 86400 && AI x.bL 1 255)=false then some 2 else none:=by
   simp only[eH,hx,hb]
  refine t100 (rrf z zn i l.length cp (bk e (l.map bO.row).flatten) x b d w c (au _ _ _ _ _ _ _ _ _) ⟨fun _=>?_,nC1 hc⟩)
  (repeat' first|(with_reducible first|exact rfl|assumption|apply And.intro|exact bH (by omega))|exact(rfl:gP _ _=_)|exact hL|intro hq)
  all_goals clear hL r0 hr hlen he ht hz
  all_goals first
   |with_reducible assumption
   |rfl
   |(refine ret _ ?_;clear ret h2;rw[hbad];(try simp only[fold] at*);simp_all;done)
   |(refine ret _ ?_;clear ret h2;rw[hbad];(try simp only[fold] at*);simp_all;omega)
   |(have hb0:eH l i=none:=by
      clear ret h2
      rw[hbad,if_neg (by simp_all),if_neg (by simp_all),if_neg (by(try simp only[fold] at*);simp_all;done)]
     exact⟨i+1,rfl,rfl,rfl,rfl,rfl,⟨hi,by rw[←cI hi hb0];exact h2⟩,by show l.length - (i+1)<l.length - i;omega⟩)
 ·have hc:decide ((i:Int)<(l.length:Int))=false:=by simp;omega
  refine t100 (rrf z zn i l.length cp ⟨[],0,0,0,true,true,0,true⟩ ⟨⟨#[]⟩,0,0,0,0,0⟩ true d w c (au _ _ _ _ _ _ _ _ _) ⟨nC1 hc,fun _=>?_⟩)
  (repeat' first|(with_reducible first|exact rfl|assumption|apply And.intro))
  refine c8 (bh ?_)
  rw[dN (by omega)] at h2
  rw[←h2]
  exact⟨rfl,rfl⟩
theorem KI(hz:aw z zn)(hg:fq prog z gP)(l:List bO)(cp:Nat)(ht:bP z 5 (l.map bO.row))(d w c:Int):
 A1 z zn 76 [.agg ⟨[tb 5 l.length cp,zv d,zv w,zv c]⟩] [] 0 0 (.tuple ⟨[zv (bE d w c l).1,zv (bE d w c l).2]⟩) []:=by
 refine dg hg (fn:=f76) (by kernel_rfl) (by kernel_rfl) hz ⟨by decide,by decide⟩ rfl (frf z zn l.length cp (bE d w c l).1 (bE d w c l).2 d w c _ ?_)
 cases hf:fN d w c with
 |false=>
  have hr:bE d w c l=(-1,2):=if_pos hf
  rw[hr]
  unfold fN at hf
  (repeat' first|(with_reducible first|exact rfl|assumption|apply And.intro|exact q1)|exact(rfl:gP _ _=_)|exact q1|intro hq)
  all_goals (exfalso;(try simp only[fold] at*);simp_all;done)
 |true=>
  by_cases h:16<l.length
  ·have hr:bE d w c l=(0,5):=by unfold bE;rw[if_neg (by simp[hf]),if_pos h]
   have hc:decide ((l.length:Int)>16)=true:=by simp;omega
   rw[hr]
   unfold fN at hf
   (repeat' first|(with_reducible first|exact rfl|assumption|apply And.intro|exact q1)|exact(rfl:gP _ _=_)|exact q1|intro hq)
   all_goals (exfalso;(try simp only[fold] at*);simp_all;done)
  ·have hr:bE d w c l=scan (eH l) l.length 0:=by unfold bE;rw[if_neg (by simp[hf]),if_neg h]
   have hc:decide ((l.length:Int)>16)=false:=by simp;omega
   have hL:=Nv d w c hz hg l cp ht (by omega) (bE d w c l) hr.symm
   unfold fN at hf
   (repeat' first|(with_reducible first|exact rfl|assumption|apply And.intro|exact q1)|exact(rfl:gP _ _=_)|exact hL|intro hq)
   all_goals first|(rw[hq.1,hq.2];exact q1)|(exfalso;(try simp only[fold] at*);simp_all;done)|trace_state
end
end Go.Proofs.Nw
namespace Go.Proofs.Nw
open Go Go.AV Tryz
set_option maxHeartbeats 4000000
set_option maxRecDepth 100000
section
variable{z:T aa}{zn:Nat}
theorem G7(hz:aw z zn)(hg:fq prog z gP):A1 z zn 71 [an] [] 0 0 (.tuple ⟨[I 0,I 0]⟩) []:=by
 have hL:aj prog (ah (ag f71) 0) 0 57 vO [] 0 z zn (Al.R (Vp z zn 57).l):=by
  refine ax hD hg (α:=Unit) 0 57 0 (fun _=>True) (fun _=>vO) (fun _=>[]) (fun _=>z) (fun _=>zn) (fun _=>0) _ (fun i hI=>?_) () trivial
  refine t100 (Z9 z zn (au _ _ _ _ _ _ _ _ _) ?_)
  (repeat' first|(with_reducible first|exact rfl|assumption|apply And.intro))
  exact bh trivial
 refine dg hg (fn:=f71) (by kernel_rfl) (by kernel_rfl) hz ⟨by decide,by decide⟩ rfl (abb z zn _ ?_)
 (repeat' first|(with_reducible first|exact rfl|assumption|apply And.intro|exact q1)|exact hL|intro hq)
theorem D9(hz:aw z zn)(hg:fq prog z gP):A1 z zn 72 [an] [] 0 0 (.tuple ⟨[I 0,I 0]⟩) []:=by
 have hL:aj prog (ah (ag f72) 0) 0 48 vO [] 0 z zn (Al.R (Vp z zn 48).l):=by
  refine ax hD hg (α:=Unit) 0 48 0 (fun _=>True) (fun _=>vO) (fun _=>[]) (fun _=>z) (fun _=>zn) (fun _=>0) _ (fun i hI=>?_) () trivial
  refine t100 (aaa z zn (au _ _ _ _ _ _ _ _ _) ?_)
  (repeat' first|(with_reducible first|exact rfl|assumption|apply And.intro))
  exact bh trivial
 refine dg hg (fn:=f72) (by kernel_rfl) (by kernel_rfl) hz ⟨by decide,by decide⟩ rfl (abc z zn _ ?_)
 (repeat' first|(with_reducible first|exact rfl|assumption|apply And.intro|exact q1)|exact hL|intro hq)
theorem Oy(hz:aw z zn)(hg:fq prog z gP)(d w c:Int):A1 z zn 48 [.agg ⟨[an,zv d,zv w,zv c]⟩] [] 0 0 (.tuple ⟨[zv (bE d w c []).1,zv (bE d w c []).2]⟩) []:=by
 have hL:aj prog (ah (ag f48) 0) 2 79 xZ [(1,bt [])] 2 z zn (Al.R (Vm z zn).l):=by
  refine ax hD hg (α:=Unit) 2 79 2 (fun _=>True) (fun _=>xZ) (fun _=>[(1,bt [])]) (fun _=>z) (fun _=>zn) (fun _=>0) _ (fun i hI=>?_) () trivial
  refine t100 (aac z zn (au _ _ _ _ _ _ _ _ _) ?_)
  (repeat' first|(with_reducible first|exact rfl|assumption|apply And.intro))
  exact bh trivial
 refine dg hg (fn:=f48) (by kernel_rfl) (by kernel_rfl) hz ⟨by decide,by decide⟩ rfl (abg z zn d w c _ ?_)
 (repeat' first|(with_reducible first|exact rfl|assumption|apply And.intro)|exact(rfl:gP _ _=_)|exact hL|intro hq)
 all_goals first
  |(have hf:fN d w c=false:=by(simp only[Bool.not_eq_true',Bool.not_eq_false'] at*;simp only[fN,AI, *,Bool.false_and,Bool.and_false,Bool.true_and,Bool.and_true])
    have hr:bE d w c []=(-1,2):=if_pos hf
    rw[hr];exact q1)
  |(have hf:fN d w c=true:=by(simp only[Bool.not_eq_true',Bool.not_eq_false'] at*;simp only[fN,AI, *,Bool.false_and,Bool.and_false,Bool.true_and,Bool.and_true])
    have hr:bE d w c []=(0,0):=by unfold bE;rw[if_neg (by simp[hf]),if_neg (by simp)];rfl
    rw[hr];exact q1)
theorem Ha(hz:aw z zn)(hg:fq prog z gP)(d w c:Int):A1 z zn 76 [.agg ⟨[an,zv d,zv w,zv c]⟩] [] 0 0 (.tuple ⟨[zv (bE d w c []).1,zv (bE d w c []).2]⟩) []:=by
 have hL:aj prog (ah (ag f76) 0) 1 88 (tM 0) [(0,xl an d w c)] 1 z zn (Al.R (aaG z zn d w c).l):=by
  refine ax hD hg (α:=Unit) 1 88 1 (fun _=>True) (fun _=>tM 0) (fun _=>[(0,xl an d w c)]) (fun _=>z) (fun _=>zn) (fun _=>0) _ (fun i hI=>?_) () trivial
  refine t100 (aab z zn d w c (au _ _ _ _ _ _ _ _ _) ?_)
  (repeat' first|(with_reducible first|exact rfl|assumption|apply And.intro))
  exact bh trivial
 refine dg hg (fn:=f76) (by kernel_rfl) (by kernel_rfl) hz ⟨by decide,by decide⟩ rfl (abd z zn d w c _ ?_)
 (repeat' first|(with_reducible first|exact rfl|assumption|apply And.intro)|exact(rfl:gP _ _=_)|exact hL|intro hq)
 all_goals first
  |(have hf:fN d w c=false:=by(simp only[Bool.not_eq_true',Bool.not_eq_false'] at*;simp only[fN,AI, *,Bool.false_and,Bool.and_false,Bool.true_and,Bool.and_true])
    have hr:bE d w c []=(-1,2):=if_pos hf
    rw[hr];exact q1)
  |(have hf:fN d w c=true:=by(simp only[Bool.not_eq_true',Bool.not_eq_false'] at*;simp only[fN,AI, *,Bool.false_and,Bool.and_false,Bool.true_and,Bool.and_true])
    have hr:bE d w c []=(0,0):=by unfold bE;rw[if_neg (by simp[hf]),if_neg (by simp)];rfl
    rw[hr];exact q1)
end
section
variable{z:T aa}{zn:Nat}
theorem OG(hz:aw z zn)(hg:fq prog z gP)(a b c d e f:Int):
 A1 z zn 44 [.slice (some ⟨0,0,none⟩) 2 2] [(0,LP a b c d e f)] 1 1 (.agg ⟨[zv (pk c f a d),zv (pk c f b e),zv (pk c f c f)]⟩) []:=by
 have hL:aj prog (ah (ag f44) 0) 2 17 (BH 0) [(0,LP a b c d e f),(1,du 0 0 0)] 2 z zn (Al.R (aaH z zn a b c d e f (pk c f a d) (pk c f b e) (pk c f c f)).l):=by
  refine ax hD hg (α:=Nat) 2 17 2 (fun i=>i<=2/\(0<i->c=0)/\(1<i->f=0)) (fun i=>BH i) (fun _=>[(0,LP a b c d e f),(1,du 0 0 0)]) (fun _=>z) (fun _=>zn) (fun i=>2 - i) _ (fun i hI=>?_) 0 ⟨by omega,fun h=>by omega,fun h=>by omega⟩
  obtain⟨h1,h2,h3⟩:=hI
  match i,h1 with
  |0,_=>
   refine t100 (aaf z zn 0 a b c d e f 0 0 0 (au _ _ _ _ _ _ _ _ _) ?_)
   (repeat' first|(with_reducible first|exact rfl|assumption|apply And.intro)|intro hq)
   all_goals first
    |(have h:c≠0:=by simpa using hq
      have ea:pk c f a d=a:=if_pos h
      have eb:pk c f b e=b:=if_pos h
      have ec:pk c f c f=c:=if_pos h
      rw[ea,eb,ec]
      exact bh ⟨ea.symm,eb.symm,ec.symm⟩)
    |(have h:c=0:=by simpa using hq
      exact⟨1,rfl,rfl,rfl,rfl,rfl,⟨by omega,fun _=>h,fun h=>by omega⟩,by decide⟩)
  |1,_=>
   have h0:=h2 (by omega)
   refine t100 (aae z zn 0 a b c d e f 0 0 0 (au _ _ _ _ _ _ _ _ _) ?_)
   (repeat' first|(with_reducible first|exact rfl|assumption|apply And.intro)|intro hq)
   all_goals first
    |(have h:f≠0:=by simpa using hq
      have ea:pk c f a d=d:=by unfold pk;rw[if_neg (by simp[h0]),if_pos h]
      have eb:pk c f b e=e:=by unfold pk;rw[if_neg (by simp[h0]),if_pos h]
      have ec:pk c f c f=f:=by unfold pk;rw[if_neg (by simp[h0]),if_pos h]
      rw[ea,eb,ec]
      exact bh ⟨ea.symm,eb.symm,ec.symm⟩)
    |(have h:f=0:=by simpa using hq
      exact⟨2,rfl,rfl,rfl,rfl,rfl,⟨by omega,fun _=>h0,fun _=>h⟩,by decide⟩)
  |2,_=>
   refine t100 (aad z zn 0 a b c d e f 0 0 0 (au _ _ _ _ _ _ _ _ _) ?_)
   (repeat' first|(with_reducible first|exact rfl|assumption|apply And.intro))
   all_goals first|exact c8 (bh ⟨h2 (by omega),h3 (by omega)⟩)|trace_state
 refine dg hg (fn:=f44) (by kernel_rfl) (by kernel_rfl) hz ⟨by decide,by decide⟩ rfl (ffi z zn 0 a b c d e f (pk c f a d) (pk c f b e) (pk c f c f) _ ?_)
 (repeat' first|(with_reducible first|exact rfl|assumption|apply And.intro)|exact hL|intro hq)
 all_goals first
  |(obtain⟨e1,e2,e3⟩:=hq
    exact q1)
  |(obtain⟨e1,e2⟩:=hq
    refine qh ?_
    simp[pk,e1,e2];done)
def ig(s r:Int × Int)(u k p:Int × Int × Int)(f:Int × Int):Int × Int × Int:=
 if s.2≠0 then (0,s.1,s.2) else if r.2≠0 then (1,r.1,r.2) else if u.2.2≠0 then u else if k.2.2≠0 then k else if p.2.2≠0 then p else if f.2≠0 then (5,f.1,f.2) else (0,0,0)
theorem OH(hz:aw z zn)(hg:fq prog z gP)(N:aq)(s r:Int × Int)(u k p:Int × Int × Int)(f:Int × Int)(hnet:aS (sig []) [.agg ⟨N.cells⟩]=some [.agg ⟨N.cells⟩])
 (hs1:aS (sig []) [.slice N.sa N.ns N.sc]=some [.slice N.sa N.ns N.sc]) (hr1:aS (sig []) [.slice N.ra N.nr N.rc]=some [.slice N.ra N.nr N.rc]) (hf1:aS (sig []) [.agg ⟨[.slice N.fa N.nf N.fc,zv N.d,zv N.w,zv N.c]⟩]=some [.agg ⟨[.slice N.fa N.nf N.fc,zv N.d,zv N.w,zv N.c]⟩])
 (hs:A1 z zn 42 [.slice N.sa N.ns N.sc] [] 0 0 (.tuple ⟨[zv s.1,zv s.2]⟩) [])
 (hr:A1 z zn 43 [.slice N.ra N.nr N.rc] [] 0 0 (.tuple ⟨[zv r.1,zv r.2]⟩) [])
 (hu:s.2=0->r.2=0->A1 z zn 46 [.agg ⟨N.cells⟩] [] 0 0 (.agg ⟨[zv u.1,zv u.2.1,zv u.2.2]⟩) [])
 (hk:s.2=0->r.2=0->u.2.2=0->A1 z zn 47 [.agg ⟨N.cells⟩] [] 0 0 (.agg ⟨[zv k.1,zv k.2.1,zv k.2.2]⟩) [])
 (hp:s.2=0->r.2=0->u.2.2=0->k.2.2=0->A1 z zn 49 [.agg ⟨N.cells⟩] [] 0 0 (.agg ⟨[zv p.1,zv p.2.1,zv p.2.2]⟩) [])
 (hf:A1 z zn 48 [.agg ⟨[.slice N.fa N.nf N.fc,zv N.d,zv N.w,zv N.c]⟩] [] 0 0 (.tuple ⟨[zv f.1,zv f.2]⟩) []):
 A1 z zn 24 [.agg ⟨N.cells⟩] [] 0 0 (.tuple ⟨[zv (ig s r u k p f).1,zv (ig s r u k p f).2.1,zv (ig s r u k p f).2.2]⟩) []:=by
 have pk0: ∀{c f:Int},(pk c f c f==0)=true->c=0/\f=0:=fun {c f} h=>by
  unfold pk at h
  split at h
  ·rename_i h1;exact(h1 (by simpa using h)).elim
  ·rename_i h1
   split at h
   ·rename_i h2;exact(h2 (by simpa using h)).elim
   ·rename_i h2;exact⟨by simpa using h1,by simpa using h2⟩
 have pk1: ∀{c f:Int},(pk c f c f==0)=false-> ¬(c=0/\f=0):=fun {c f} h ⟨h1,h2⟩=>by
  subst h1 h2;simp[pk] at h
 refine dg hg (fn:=f24) (by kernel_rfl) (by kernel_rfl) hz ⟨by decide,by decide⟩ rfl (abo z zn N s.1 s.2 r.1 r.2 f.1 f.2 u.1 u.2.1 u.2.2 k.1 k.2.1 k.2.2 p.1 p.2.1 p.2.2 _ ?_)
 (repeat' first|(with_reducible first|exact rfl|assumption|apply And.intro)|exact(rfl:gP _ _=_)|exact OG hz hg _ _ _ _ _ _|intro hq)
 all_goals try (have e1:=pk0 (by with_reducible assumption);obtain⟨e1,e2⟩:=e1)
 all_goals try (have e1:=pk1 (by with_reducible assumption))
 all_goals clear pk1
 all_goals try (have e3:u.2.2=0:=by simpa using (by assumption:(u.2.2==0)=true))
 all_goals try (have e4:k.2.2=0:=by simpa using (by assumption:(k.2.2==0)=true))
 all_goals first
  |exact congrArg Value.bool (by assumption)
  |exact hu e1 e2
  |exact hk e1 e2 e3
  |exact hp e1 e2 e3 e4
  |(refine qh ?_
    clear hs hr hu hk hp hf hs1 hr1 hf1 hnet pk0
    simp only[pk,ig]
    (repeat' split)<;>first|rfl|(exfalso;simp_all;done))
end
def rH(er:Nat->Int)(i:Nat):Option Int:=if er i=0 then none else some (er i)
theorem ly{x:Int}(h:(x !=0)=false):x=0:=by simpa using h
section
variable{z:T aa}{zn:Nat}
theorem NM(hz:aw z zn)(hg:fq prog z gP)(N:aq)(hl:N.nu<100000)(er:Nat->Int)(hnet: ∀σ:bq,aD (ay σ []) N.box=some N.box)(hv:aP (sig []) (.agg ⟨N.cells⟩)=some (.agg ⟨N.cells⟩))
 (hc: ∀i,i<N.nu->(∀j,j<i->er j=0)->A1 z zn 73 [.agg ⟨N.cells⟩,iv i] [] 0 0 (zv (er i)) []) (r:Int × Int) (hr:scan (rH er) N.nu 0=r):
 aj prog (ah (ag f40) 0) 1 84 (DC 0) [(0,N.box)] 1 z zn (Al.R (Vj z zn N r.1 r.2).l):=by
 refine ax hD hg (α:=Nat) 1 84 1 (fun i=>i<=N.nu/\scan (rH er) (N.nu - i) i=r/\ ∀j,j<i->er j=0) (fun i=>DC i) (fun i=>[(0,N.box)]) (fun _=>z) (fun _=>zn) (fun i=>N.nu - i) _ (fun i hI=>?_) 0 ⟨Nat.zero_le _,hr,fun j hj=>by omega⟩
 obtain⟨h1,h2,h3⟩:=hI
 by_cases hi:i<N.nu
 ·have hdc:decide ((i:Int)<(N.nu:Int))=true:=by simp;omega
  have hcc:=hc i hi h3
  have ha:aS (sig []) [.agg ⟨N.cells⟩,iv i]=some [.agg ⟨N.cells⟩,iv i]:=bM hv rfl
  refine t100 (rc7 z zn i N (er i) (au _ _ _ _ _ _ _ _ _) ⟨fun _=>?_,nC1 hdc⟩)
  (repeat' first|(with_reducible first|exact rfl|assumption|apply And.intro|exact bH (by omega))|exact hnet _|intro hq)
  all_goals first
   |(have h:er i≠0:=by simpa using (by assumption:(er i !=0)=true)
     have hb:rH er i=some (er i):=if_neg h
     have e:r=((i:Int),er i):=by rw[←h2,cZ hi hb]
     rw[e]
     exact bh h)
   |(have h:er i=0:=by simpa using (by assumption:(er i !=0)=false)
     have hb:rH er i=none:=if_pos h
     refine⟨i+1,rfl,rfl,rfl,rfl,rfl,⟨hi,by rw[←cI hi hb];exact h2,fun j hj=>?_⟩,by show N.nu - (i+1)<N.nu - i;omega⟩
     by_cases e:j=i
     ·subst e;exact h
     ·exact h3 j (by omega))
 ·have hdc:decide ((i:Int)<(N.nu:Int))=false:=by simp;omega
  refine t100 (rc7 z zn i N 0 (au _ _ _ _ _ _ _ _ _) ⟨nC1 hdc,fun _=>?_⟩)
  (repeat' first|(with_reducible first|exact rfl|assumption|apply And.intro)|exact hnet _)
  rw[dN (by omega)] at h2
  refine c8 (bh ?_)
  rw[←h2]
theorem NL(hz:aw z zn)(hg:fq prog z gP)(N:aq)(hl:N.nl<100000)(er:Nat->Int)(hnet: ∀σ:bq,aD (ay σ []) N.box=some N.box)(hv:aP (sig []) (.agg ⟨N.cells⟩)=some (.agg ⟨N.cells⟩))
 (hc: ∀i,i<N.nl->(∀j,j<i->er j=0)->A1 z zn 74 [.agg ⟨N.cells⟩,iv i] [] 0 0 (zv (er i)) []) (r:Int × Int) (hr:scan (rH er) N.nl 0=r):
 aj prog (ah (ag f40) 1) 1 84 (DB 0) [(0,N.box)] 1 z zn (Al.R (Vi z zn N r.1 r.2).l):=by
 refine ax hD hg (α:=Nat) 1 84 1 (fun i=>i<=N.nl/\scan (rH er) (N.nl - i) i=r/\ ∀j,j<i->er j=0) (fun i=>DB i) (fun i=>[(0,N.box)]) (fun _=>z) (fun _=>zn) (fun i=>N.nl - i) _ (fun i hI=>?_) 0 ⟨Nat.zero_le _,hr,fun j hj=>by omega⟩
 obtain⟨h1,h2,h3⟩:=hI
 by_cases hi:i<N.nl
 ·have hdc:decide ((i:Int)<(N.nl:Int))=true:=by simp;omega
  have hcc:=hc i hi h3
  have ha:aS (sig []) [.agg ⟨N.cells⟩,iv i]=some [.agg ⟨N.cells⟩,iv i]:=bM hv rfl
  refine t100 (rc8 z zn i N (er i) (au _ _ _ _ _ _ _ _ _) ⟨fun _=>?_,nC1 hdc⟩)
  (repeat' first|(with_reducible first|exact rfl|assumption|apply And.intro|exact bH (by omega))|exact hnet _|intro hq)
  all_goals first
   |(have h:er i≠0:=by simpa using (by assumption:(er i !=0)=true)
     have hb:rH er i=some (er i):=if_neg h
     have e:r=((i:Int),er i):=by rw[←h2,cZ hi hb]
     rw[e]
     exact bh h)
   |(have h:er i=0:=by simpa using (by assumption:(er i !=0)=false)
     have hb:rH er i=none:=if_pos h
     refine⟨i+1,rfl,rfl,rfl,rfl,rfl,⟨hi,by rw[←cI hi hb];exact h2,fun j hj=>?_⟩,by show N.nl - (i+1)<N.nl - i;omega⟩
     by_cases e:j=i
     ·subst e;exact h
     ·exact h3 j (by omega))
 ·have hdc:decide ((i:Int)<(N.nl:Int))=false:=by simp;omega
  refine t100 (rc8 z zn i N 0 (au _ _ _ _ _ _ _ _ _) ⟨nC1 hdc,fun _=>?_⟩)
  (repeat' first|(with_reducible first|exact rfl|assumption|apply And.intro)|exact hnet _)
  rw[dN (by omega)] at h2
  refine c8 (bh ?_)
  rw[←h2]
theorem KJ(hz:aw z zn)(hg:fq prog z gP)(N:aq)(s r p f u k:Int × Int)(eu el:Nat->Int)(hnet: ∀σ:bq,aD (ay σ []) N.box=some N.box)(hv:aP (sig []) (.agg ⟨N.cells⟩)=some (.agg ⟨N.cells⟩))
 (hs1:aS (sig []) [.slice N.sa N.ns N.sc]=some [.slice N.sa N.ns N.sc]) (hr1:aS (sig []) [.slice N.ra N.nr N.rc]=some [.slice N.ra N.nr N.rc]) (hf1:aS (sig []) [.agg ⟨[.slice N.fa N.nf N.fc,zv N.d,zv N.w,zv N.c]⟩]=some [.agg ⟨[.slice N.fa N.nf N.fc,zv N.d,zv N.w,zv N.c]⟩])
 (hs:A1 z zn 71 [.slice N.sa N.ns N.sc] [] 0 0 (.tuple ⟨[zv s.1,zv s.2]⟩) [])
 (hr:A1 z zn 72 [.slice N.ra N.nr N.rc] [] 0 0 (.tuple ⟨[zv r.1,zv r.2]⟩) [])
 (hu:s.2=0->r.2=0->N.nu<=1024-> ∀i,i<N.nu->(∀j,j<i->eu j=0)->A1 z zn 73 [.agg ⟨N.cells⟩,iv i] [] 0 0 (zv (eu i)) [])
 (hur:u=if 1024<N.nu then (0,5) else scan (rH eu) N.nu 0)
 (hk:s.2=0->r.2=0->u.2=0->N.nl<=1024-> ∀i,i<N.nl->(∀j,j<i->el j=0)->A1 z zn 74 [.agg ⟨N.cells⟩,iv i] [] 0 0 (zv (el i)) [])
 (hkr:k=if 1024<N.nl then (0,5) else scan (rH el) N.nl 0)
 (hp:s.2=0->r.2=0->u.2=0->k.2=0->A1 z zn 75 [.agg ⟨N.cells⟩] [] 0 0 (.tuple ⟨[zv p.1,zv p.2]⟩) [])
 (hf:A1 z zn 76 [.agg ⟨[.slice N.fa N.nf N.fc,zv N.d,zv N.w,zv N.c]⟩] [] 0 0 (.tuple ⟨[zv f.1,zv f.2]⟩) []):
 A1 z zn 40 [.agg ⟨N.cells⟩] [] 0 0 (.tuple ⟨[zv (ig s r (2,u) (3,k) (4,p) f).1,zv (ig s r (2,u) (3,k) (4,p) f).2.1,zv (ig s r (2,u) (3,k) (4,p) f).2.2]⟩) []:=by
 have hv1:aS (sig []) [.agg ⟨N.cells⟩]=some [.agg ⟨N.cells⟩]:=bM hv rfl
 have hL7:s.2=0->r.2=0->decide ((N.nu:Int)>1024)=false->aj prog (ah (ag f40) 0) 1 84 (DC 0) [(0,N.box)] 1 z zn (Al.R (Vj z zn N u.1 u.2).l):=fun h1 h2 h3=>by
  have h3: ¬1024<N.nu:=by simp at h3;omega
  rw[if_neg h3] at hur
  exact NM hz hg N (by omega) eu hnet hv (hu h1 h2 (by omega)) u hur.symm
 have hL8:s.2=0->r.2=0->u.2=0->decide ((N.nl:Int)>1024)=false->aj prog (ah (ag f40) 1) 1 84 (DB 0) [(0,N.box)] 1 z zn (Al.R (Vi z zn N k.1 k.2).l):=fun h1 h2 h3 h4=>by
  have h4: ¬1024<N.nl:=by simp at h4;omega
  rw[if_neg h4] at hkr
  exact NL hz hg N (by omega) el hnet hv (hk h1 h2 h3 (by omega)) k hkr.symm
 refine dg hg (fn:=f40) (by kernel_rfl) (by kernel_rfl) hz ⟨by decide,by decide⟩ rfl (VS z zn N s.1 s.2 r.1 r.2 u.1 u.2 k.1 k.2 p.1 p.2 f.1 f.2 _ ?_)
 have hu5:decide ((N.nu:Int)>1024)=true->u=(0,5):=fun h=>by rw[hur,if_pos (by simp at h;omega)]
 have hk5:decide ((N.nl:Int)>1024)=true->k=(0,5):=fun h=>by rw[hkr,if_pos (by simp at h;omega)]
 (repeat' first|(with_reducible first|exact rfl|assumption|apply And.intro|exact hp (ly (by assumption)) (ly (by assumption)) (by assumption) (by assumption))|exact hnet _|exact hL7 (ly (by assumption)) (ly (by assumption)) (by assumption)|exact hL8 (ly (by assumption)) (ly (by assumption)) (by assumption) (by assumption)|intro hq)
 all_goals try (have e1:s.2=0:=ly (by assumption))
 all_goals try (have e2:r.2=0:=ly (by assumption))
 all_goals try (have e3:p.2=0:=ly (by assumption))
 all_goals try (have e3:f.2=0:=ly (by assumption))
 all_goals try (have e4:=hu5 (by assumption))
 all_goals try (have e4:=hk5 (by assumption))
 all_goals clear hs hr hu hk hp hf hs1 hr1 hf1 hnet hv hv1 hL7 hL8 hu5 hk5 hur hkr
 all_goals first
  |(refine qh ?_
    simp only[ig]
    (repeat' split)<;>first|rfl|(exfalso;simp_all;done)|(simp_all;done))
end
end Go.Proofs.Nw
namespace Go.Proofs.Nw
open Go Go.AV Tryz
set_option maxRecDepth 100000
theorem jt:aw (T.leaf:T aa) 0:=fun k o h=>by cases h
theorem bC{zg:T aa}:fq prog zg (fun _ _=>none):=fun _ _ _ h=>by cases h
theorem cz{z:T aa}{f:Nat}{args:List Value}{u:Value}(h:A1 .leaf 0 f args [] 0 0 u [])(hp:aC u=true)(ha:bJ args=true):kZ prog z f args u:=by
 obtain⟨h1,h2⟩:=sH h (fun _ _=>rfl) hp (fun k o hk=>by cases hk) (fun σ _=>cQ ha)
 exact⟨h1,fun ρ W args' hz hv=>h2 ρ W args' (fun k o hk=>by cases hk) hv⟩
theorem Ik{z:T aa}(a b:Int):kZ prog z 80 [zv a,zv b] (.bool (decide (0<=a) && decide (a<b))):=by
 refine cz ?_ rfl rfl
 refine aK1 (bC (zg:= .leaf)) (fn:=f80) jt (gwi .leaf 0 a b _ ?_)
 (repeat' first|(with_reducible first|exact rfl|apply And.intro|exact jt)|intro hq)
 all_goals (refine qh ?_;simp_all;try (intros;omega))
theorem ZU{z:T aa}(n a b:Int):kZ prog z 119 [zv n,zv a,zv b] (.bool (decide (a<=n) && decide (n<=b))):=by
 refine cz ?_ rfl rfl
 refine aK1 (bC (zg:= .leaf)) (fn:=f119) jt (gin .leaf 0 n a b _ ?_)
 (repeat' first|(with_reducible first|exact rfl|apply And.intro|exact jt)|intro hq)
 all_goals (refine qh ?_;simp_all;try (intros;omega))
theorem ZR{z:T aa}(n a b:Int):kZ prog z 82 [zv n,zv a,zv b] (.bool (decide (a<=n) && decide (n<=b))):=by
 refine cz ?_ rfl rfl
 refine aK1 (bC (zg:= .leaf)) (fn:=f82) jt (gpw .leaf 0 n a b _ ?_)
 (repeat' first|(with_reducible first|exact rfl|apply And.intro|exact jt)|intro hq)
 all_goals (refine qh ?_;simp_all;try (intros;omega))
theorem Mo{z:T aa}(n:Int):kZ prog z 78 [zv n] (.bool (decide (0<=n) && decide (n<8))):=by
 refine cz ?_ rfl rfl
 refine aK1 (bC (zg:= .leaf)) (fn:=f78) jt (gkn .leaf 0 n _ ?_)
 (repeat' first|(with_reducible first|exact rfl|apply And.intro|exact jt)|intro hq)
 all_goals (refine qh ?_;simp_all;try (intros;omega))
theorem ZT{z:T aa}(a b c:Int):kZ prog z 45 [zv a,zv b,zv c] (.agg ⟨[zv a,zv b,zv c]⟩):=by
 refine cz ?_ rfl rfl
 refine aK1 (bC (zg:= .leaf)) (fn:=f45) jt (gof .leaf 0 a b c _ ?_)
 (repeat' first|(with_reducible first|exact rfl|apply And.intro|exact jt))
 all_goals (exact q1)
theorem AX{s:ByteArray}{ρ:aX}{args':List Value}(h:cU ρ [.string s] args'):args'=[.string s]:=by
 cases h with
 |cons _ _ _ _ h1 h2=>
  cases h2
  cases h1 with
  |sc _ _=>rfl
theorem gd(z:T aa):fq prog z gP:=by
 intro f args v h
 unfold gP at h
 split at h
 ·split at h
  ·rename_i s hs
   cases h
   refine⟨rfl,fun ρ W args' _ ha=>?_⟩
   rw[AX ha]
   exact(Qs _ W (Nat.le_of_ble_eq_true hs)).mono fun e w' ⟨h1,h2⟩=>⟨h1,by subst h2;exact Go.RowKit.Below.refl _ _⟩
  ·cases h
 ·split at h
  ·rename_i s hs
   cases h
   refine⟨rfl,fun ρ W args' _ ha=>?_⟩
   rw[AX ha]
   exact(Qr _ W (Nat.le_of_ble_eq_true hs)).mono fun e w' ⟨h1,h2⟩=>⟨h1,by subst h2;exact Go.RowKit.Below.refl _ _⟩
  ·cases h
 ·cases h;exact Mo _
 ·cases h;exact ZR _ _ _
 ·cases h;exact ZT _ _ _
 ·cases h;exact Ik _ _
 ·cases h;exact ZU _ _ _
 ·cases h
end Go.Proofs.Nw
namespace Go.AV
open Go.RowKit
def CM(P:Program)(f:Nat)(args:List Value)(v:Value):Prop:= ∀w,Calls P f ⟨args⟩ w fun e w'=>e= .returned v/\Below w.heap.size w w'
section
variable{P:Program}
theorem Bg{c:cN}(hc:dJ P c){f:Nat}{args:List Value}{v:Value}{nx:Nat}(hp:bJ args=true)(hv:aC v=true)
 (hr:(c f args {heap:= .leaf,next:=nx,log:=[]}).map (·.1)=some v):CM P f args v:=by
 cases he:c f args {heap:= .leaf,next:=nx,log:=[]} with
 |none=>rw[he] at hr;cases hr
 |some x=>
  obtain⟨v0,h'⟩:=x
  rw[he] at hr
  simp only[Option.map_some,Option.some.injEq] at hr
  subst hr
  intro w
  have hh:aM Bn (T.leaf:T aa).get w:=⟨fun b o hb=>absurd hb (by rw[T.dP];simp),fun i j oi oj Li Lj hi=>absurd hi (by rw[T.dP];simp)⟩
  have hk:=(hc _ _ _ _ _ he).2 Bn w args 0 (cU.aQ hp) hh (fun _ _ _=>rfl)
  refine Calls.mono (hk.calls fun _=>room_wide _) fun e w' hg=>?_
  obtain⟨ρ',v',rfl,h1,h2,h3⟩:=hg
  have e1:=h1.plain hv
  subst e1
  exact⟨rfl,h3.os,h3.tape,h3.output,h3.size,fun r hr=>h3.same r hr fun b o L hb=>absurd hb (by rw[T.dP];simp)⟩
end
end Go.AV
namespace Go.Proofs.Nw
open Go Go.AV Tryz
set_option maxHeartbeats 1000000
set_option maxRecDepth 100000
section
variable{z:T aa}{zn:Nat}
theorem Wi(hz:aw z zn)(a:Int):A1 z zn 189 [zv a] [] 0 0 F0 []:=by
 refine aK1 (bC (zg:=z)) (fn:=f189) hz (N:=100) ?_
 refine aaT z zn a _ ?_
 (repeat' first|(with_reducible first|exact rfl|assumption|apply And.intro)|intro hq)
 all_goals first|exact q1|(simp at hq;done)
theorem Wt(hz:aw z zn)(a b:Int):A1 z zn 155 [zv a,zv b] [] 0 0 (zv (Co a b)) []:=by
 refine aK1 (bC (zg:=z)) (fn:=f155) hz (N:=100) ?_
 refine aaV z zn a b _ ?_
 (repeat' first|(with_reducible first|exact rfl|assumption|apply And.intro|exact Wi hz _)|intro hq)
 all_goals (refine qh ?_;simp only[decide_eq_true_eq,decide_eq_false_iff_not] at*;unfold Co;(repeat' split)<;>first|rfl|(exfalso;omega))
theorem NB(hz:aw z zn)(kb:aV)(hkb:z.get 0=some (.az kb))(c:Nat->Int)(hc: ∀i,i<3->ai prog kb 3 (0+i*1)=some (zv (c i))):
 aj prog (ah (ag f154) 0) 0 18 (Gw 0) [] 0 z zn (Al.R (aaB z zn (LR (c 0) (c 1) (c 2))).l):=by
 refine ax hD (bC (zg:=z)) (α:=Nat) 0 18 0 (fun i=>i<=3/\ ∀j,j<i->c j=0) (fun i=>Gw i) (fun _=>[]) (fun _=>z) (fun _=>zn) (fun i=>3 - i) _ (fun i hI=>?_) 0 ⟨by omega,fun j h=>by omega⟩
 obtain⟨h1,h2⟩:=hI
 have orE: ∀i,i<3->(∀j,j<i->c j=0)->c i≠0->LR (c 0) (c 1) (c 2)=c i:=fun i hi h hn=>by
  unfold LR
  match i,hi with
  |0,_=>rw[if_pos hn]
  |1,_=>rw[if_neg (by simpa using h 0 (by omega)),if_pos hn]
  |2,_=>rw[if_neg (by simpa using h 0 (by omega)),if_neg (by simpa using h 1 (by omega))]
 refine t100 (aaS z zn i kb (c i) 0 (au _ _ _ _ _ _ _ _ _) ?_)
 by_cases hi:i<3
 ·have d1:decide ((i:Int)<3)=true:=by simp;omega
  have hr:=hc i hi
  refine⟨fun _=>?_,nC1 d1⟩
  (repeat' first|(with_reducible first|exact rfl|assumption|apply And.intro|exact bH (by omega))|intro hq)
  all_goals first
   |(have h:c i≠0:=by simpa using (by assumption:(c i !=0)=true)
     have e:=orE i hi h2 h
     rw[e]
     exact bh h)
   |(have h:c i=0:=by simpa using (by assumption:(c i !=0)=false)
     exact⟨i+1,rfl,rfl,rfl,rfl,rfl,⟨hi,fun j hj=>by
      by_cases e:j=i
      ·subst e;exact h
      ·exact h2 j (by omega)⟩,by show 3 - (i+1)<3 - i;omega⟩)
 ·have d1:decide ((i:Int)<3)=false:=by simp;omega
  refine⟨nC1 d1,fun _=>?_⟩
  (repeat' first|(with_reducible first|exact rfl|assumption|apply And.intro))
  refine c8 (bh ?_)
  unfold LR
  rw[if_neg (by simpa using h2 0 (by omega)),if_neg (by simpa using h2 1 (by omega))]
  exact h2 2 (by omega)
theorem abv(hz:aw z zn)(kb:aV)(hkb:z.get 0=some (.az kb))(c:Nat->Int)(hc: ∀i,i<3->ai prog kb 3 (0+i*1)=some (zv (c i))):
 A1 z zn 154 [tb 0 3 3] [] 0 0 (zv (LR (c 0) (c 1) (c 2))) []:=by
 have hL:=NB hz kb hkb c hc
 refine aK1 (bC (zg:=z)) (fn:=f154) hz (N:=100) ?_
 refine jor z zn (LR (c 0) (c 1) (c 2)) _ ?_
 (repeat' first|(with_reducible first|exact rfl|assumption|apply And.intro)|exact hL|intro hq)
 all_goals first
  |exact q1
  |(refine qh ?_;simp_all;done)
end
def zT(e:TypeId)(x y w:Int):T aa:=(T.leaf:T aa).set 0 (.az (bk e [zv x,zv y,zv w]))
theorem y8(e:TypeId)(x y w:Int)(k:Nat):(zT e x y w).get k=if k=0 then some (.az (bk e [zv x,zv y,zv w])) else none:=by
 unfold zT;rw[T.aH];split<;>simp[T.dP]
theorem Qp(e:TypeId)(x y w:Int):aw (zT e x y w) 1:=fun k o h=>by
 rw[y8] at h
 split at h
 ·rename_i hk;subst hk;cases h
  exact⟨by decide,fun σ _=>rfl⟩
 ·cases h
theorem ZS(e:TypeId)(x y w:Int):kZ prog (zT e x y w) 154 [tb 0 3 3] (zv (LR x y w)):=by
 have h:=abv (z:=zT e x y w) (zn:=1) (Qp e x y w) (bk e [zv x,zv y,zv w]) (by rw[y8,if_pos rfl]) (fun i=>match i with|0=>x|1=>y|_=>w) (fun i hi=>by
  match i,hi with
  |0,_=>rfl
  |1,_=>rfl
  |2,_=>rfl)
 exact sH h (fun _ _=>rfl) rfl (fun k o hk=>by
  rw[y8] at hk
  split at hk
  ·cases hk;rfl
  ·cases hk) (fun σ hσ=>by
  have:=hσ 0 (by decide)
  simp only[aS,aP,this])
theorem UB(a b:Int):kZ prog (T.leaf:T aa) 155 [zv a,zv b] (zv (Co a b)):=cz (Wt jt a b) rfl rfl
def Kz:cN:=fun f args h=>match f,args with
 |155,[.int .i64 a, .int .i64 b]=>some (zv (Co a b),h)
 |154,[.slice (some ⟨b,0,none⟩) 3 3]=>match h.heap.get b with
  |some (.az ⟨[.int .i64 x, .int .i64 y, .int .i64 w],_,_,_,true,_,_,_⟩)=>some (zv (LR x y w),h)
  |_=>none
 |_,_=>none
theorem v9{ρ:aX}{h:Hs}{w w':World}{v:Value}(hv:aC v=true)(hh:aM ρ h.heap.get w)(hb:Go.RowKit.Below w.heap.size w w'):Pb ρ h w v h (.returned v) w':=by
 refine⟨ρ,v,rfl,VR.aQ hv,⟨fun b o ho=>?_,hh.inj⟩,⟨hb.os,hb.tape,hb.output,hb.size,fun r hr _=>hb.block r hr,fun b o L h1 h2 h3=> .inl ⟨b,o,L,h1,h2,h3,rfl⟩,fun b o L h1 h3=> .inl ⟨b,o,L,h1,h3,rfl⟩,aX.le.refl _,fun _ _=>rfl⟩⟩
 obtain⟨L,x,a1,a2,a3⟩:=hh.obj b o ho
 exact⟨L,x,a1,by rw[hb.block _ (Array.getElem?_eq_some_iff.1 a2).1];exact a2,a3⟩
theorem Ky:dJ prog Kz:=by
 intro f args h v h' he
 unfold Kz at he
 split at he
 ·rename_i a b
  cases he
  refine⟨Mod.refl _,fun ρ w args' n hargs hh hf=>callsIn_wide.2 ?_⟩
  have e:=hargs.plain rfl
  subst e
  exact((UB a b).2 Bn w _ (fun k o hk=>by cases hk) (cU.aQ rfl)).mono fun e w' ⟨h1,hb⟩=>by rw[h1];exact v9 rfl hh hb
 ·rename_i b
  split at he
  ·rename_i x y u cap ko el wh fz ow hb0
   cases he
   refine⟨Mod.refl _,fun ρ w args' n hargs hh hf=>callsIn_wide.2 ?_⟩
   obtain⟨L,o,k1,k2,k3⟩:=hh.obj b _ hb0
   cases o<;>simp only[OR] at k3
   rename_i c el' fr
   have hψ:=k3.exact rfl
   have ha:args'=[.slice (some ⟨L.φ,L.δ+0,none⟩) 3 (3+L.ψ)]:=by
    cases hargs with
    |cons _ _ _ _ h1 h2=>
     cases h2
     cases h1 with
     |sc _ h=>simp[simple] at h
     |sl _ _ _ _ L' h=>rw[k1] at h;cases h;rfl
   let ρ2:aX:=fun i=>if i=510 then some L else none
   have hv:cU ρ2 [tb 0 3 3] args':=by
    rw[ha]
    exact .cons _ _ _ _ (.sl (256*0+510) 0 3 3 L (if_pos rfl)) .nil
   have hfz:Pc (zT el x y u) ρ2 w:=fun k o hk=>by
    rw[y8] at hk
    split at hk
    ·rename_i hk0
     subst hk0;cases hk
     refine⟨L,_,if_pos rfl,k2,?_⟩
     refine⟨k3.elem,Nat.le_refl _,fun hh=>(by cases hh),fun i v hv=>?_,fun _=>hψ,fun hh=>(by cases hh),fun hh=>(by cases hh),fun hh=>(by cases hh)⟩
     obtain⟨v',q1,q2⟩:=k3.cell i v hv
     have hp:aC v=true:=by
      match i,hv with
      |0,hv=>cases hv;rfl
      |1,hv=>cases hv;rfl
      |2,hv=>cases hv;rfl
     have:=q2.plain hp
     subst this
     exact⟨v',q1,VR.aQ hp⟩
    ·cases hk
   exact((ZS el x y u).2 ρ2 w args' hfz hv).mono fun e w' ⟨h1,hb⟩=>by rw[h1];exact v9 rfl hh hb
  ·cases he
 ·cases he
theorem aak(a b c d e f:Int)(s t:Bool):CM prog 153 [.agg ⟨[.int .i64 a, .int .i64 b, .int .i64 c, .bool s]⟩, .agg ⟨[.int .i64 d, .int .i64 e, .int .i64 f, .bool t]⟩] (zv (sF a b c d e f)):=
 Bg (c:=yI prog (qY prog Kz 300) (fun _ _ _=>none)) (wv (wc hD Ky 300)) (by kernel_rfl) (by kernel_rfl) (nx:=6) (by kernel_rfl)
theorem nh(z:T aa):fq prog z gS:=by
 intro f args v h
 unfold gS at h
 split at h
 ·cases h
  refine⟨rfl,fun ρ W args' _ ha=>?_⟩
  have e:=ha.plain rfl
  subst e
  exact aak _ _ _ _ _ _ _ _ W
 ·cases h
end Go.Proofs.Nw
namespace Go.Proofs.Nw
open Go Go.AV Tryz
set_option maxRecDepth 1000000
noncomputable section
theorem VN(z:T aa)(zn:Nat)(a b:cS)(Q:QF)(hyp:Br (decide (a.len<b.len)) (E6 24 z zn (YA/\Q T1 [] 0 z zn)) (Br (a.len==b.len) (Br (decide (a.gq<b.gq)) (E6 24 z zn (YA/\Q T1 [] 0 z zn)) (E6 24 z zn (YQ/\Q F0 [] 0 z zn))) (E6 24 z zn (YQ/\Q F0 [] 0 z zn)))):FnT prog Yi z f239 [AG a.row,AG b.row] z [] 0 zn Q:=K1t hyp (tA 2 ((tA 8 (Yn z zn)).fork (tA 7 ((tA 8 ((tA 3 (Yn z zn)).fork (tA 3 (Yo z zn)))).fork (tA 9 (Yo z zn))))))
abbrev lK:Value:=Value.func (Fn.func 239) Ut Ut
abbrev P5:aa:=BQ [lK,Y5,YM] 3 1 337
theorem pR(z:T aa)(zn:Nat)(Q:QF)(hyp:E6 8 z zn (Rs P5/\AQ/\Q Y3 [(0,P5)] 1 z zn)):FnT prog Yi z f238 [JK] z [] 0 zn Q:=K1t hyp (tA 2 (tR YC [] Y3 [(0,P5)] 1 z zn))
abbrev Za(cs:List Value)(cc i:Nat)(a:cx):Prop:=ai prog (aV.mk cs cc 4 339 false false 0 true) 339 (0+i*4)=some (AG [ZV a.x.node,ZV a.x.len,ZV a.x.gq,ZV a.num])
abbrev YFU(a b:cx):Value:=Value.bool (pq (cS.mk a.x.node a.x.len a.x.gq) (cS.mk b.x.node b.x.len b.x.gq))
abbrev YFV(a b:cx):Prop:=gH 239 [AG [ZV a.x.node,ZV a.x.len,ZV a.x.gq],AG [ZV b.x.node,ZV b.x.len,ZV b.x.gq]]=some (YFU a b)
abbrev kH(n c:Nat)(p:Int):Prop:=Rs (BQ [lK,SL 1 n c,ZV p] 3 1 337)
abbrev m9(cs:List Value)(cc:Nat):aa:=BR cs cc 4 339
abbrev FZ(cs:List Value)(cc:Nat):Prop:=KO oe (m9 cs cc)
abbrev CH(n c:Nat)(p:Int):Nat × aa:=(0,BQ [lK,SL 1 n c,ZV p] 3 1 337)
abbrev gD(n c:Nat)(p:Int)(cs:List Value)(cc:Nat):List (Nat × aa):=[CH n c p,(1,m9 cs cc)]
abbrev LA(n c:Nat)(p:Int)(cs:List Value)(cc:Nat):List (Nat × aa):=[(0,eJ (bd 1 n c) p),(1,dZ cs cc)]
theorem aa3(z:T aa)(zn i k n c cc:Nat)(p:Int)(a b:cx)(cs:List Value)(Q:QF)(hyp:cG i/\i<n/\Za cs cc i a/\cG k/\k<n/\Za cs cc k b/\Rf z/\YFV a b/\Br (pq (cS.mk a.x.node a.x.len a.x.gq) (cS.mk b.x.node b.x.len b.x.gq)) (E6 46 z zn (kH n c p/\FZ cs cc/\YA/\Q T1 (gD n c p cs cc) 2 z zn)) (Rf z/\YFV b a/\Br (pq (cS.mk b.x.node b.x.len b.x.gq) (cS.mk a.x.node a.x.len a.x.gq)) (E6 46 z zn (kH n c p/\FZ cs cc/\YQ/\Q F0 (gD n c p cs cc) 2 z zn)) (Br (decide (a.num<b.num)) (E6 46 z zn (kH n c p/\FZ cs cc/\YA/\Q T1 (gD n c p cs cc) 2 z zn)) (E6 46 z zn (kH n c p/\FZ cs cc/\YQ/\Q F0 (gD n c p cs cc) 2 z zn))))):FnT prog gH z f250 [ip 0,iv i,iv k] z (LA n c p cs cc) 2 zn Q:=K1t hyp (tA 1 (tO (bS i) (tO (An.pP (AG a.row)) (tA 1 (tO (bS k) (tO (An.pP (AG b.row)) (tA 5 (tO (An.cl (YFU a b)) ((tR dv [] T1 (gD n c p cs cc) 2 z zn).fork (tA 3 (tO (An.cl (YFU b a)) ((tR dv [] F0 (gD n c p cs cc) 2 z zn).fork (tA 2 ((tR dv [] T1 (gD n c p cs cc) 2 z zn).fork (tR dv [] F0 (gD n c p cs cc) 2 z zn)))))))))))))))
theorem aaY(z:T aa)(zn i k n c cc:Nat)(p:Int)(a b:cx)(cs cs1 cs2:List Value)(Q:QF)(hyp:cG k/\k<n/\Za cs cc k b/\cG i/\i<n/\Za cs cc i a/\cG i/\i<n/\overwrite cs (0+i*4) [ZV b.x.node,ZV b.x.len,ZV b.x.gq,ZV b.num]=some cs1/\cs1.length<=cc/\cG k/\k<n/\overwrite cs1 (0+k*4) [ZV a.x.node,ZV a.x.len,ZV a.x.gq,ZV a.num]=some cs2/\cs2.length<=cc/\E6 32 z zn (kH n c p/\FZ cs2 cc/\nv/\Q pd (gD n c p cs2 cc) 2 z zn)):FnT prog gH z f251 [ip 0,iv i,iv k] z (LA n c p cs cc) 2 zn Q:=K1t hyp (tA 3 (tO (bS k) (tO (An.pP (AG b.row)) (tA 1 (tO (bS i) (tO (An.pP (AG a.row)) (tO (bS i) (tX (jE.EB cs1) (tO (bS k) (tX (jE.EB cs2) (tR dv [] pd (gD n c p cs2 cc) 2 z zn)))))))))))
abbrev sO(m c:Nat)(p:Int)(cs:List Value)(cc:Nat):Unit->List (Nat × aa):=fun(x:Unit)=>gD m c p cs cc
abbrev SS(m c:Nat)(p:Int):Prop:=Rs (BQ [lK,SL 4 m c,ZV p] 3 1 337)
abbrev P4(m c:Nat)(p:Int):Nat × aa:=(0,BQ [lK,SL 4 m c,ZV p] 3 1 337)
abbrev CY:List (Nat × Value):=[(0,Y3)]
noncomputable abbrev WW:Code:=ah (ag f240) 0
theorem VK(z:T aa)(zn i m c cc:Nat)(p:Int)(bf:Int->Int->Bool)(sw:Int->Int->List Value)(cs:List Value)(Q:QL)(hyp:Br (decide ((↑i:Int)>0)) (WQ1 ((↑i:Int) - 1)/\WQ1 (((↑i:Int) - 1).tdiv 2)/\aF prog z zn 250 [Y3,IV i,ZV (((↑i:Int) - 1).tdiv 2)] (gD m c p cs cc) 2 2 Yc (fun(x:Unit)=>Value.bool (bf (↑i:Int) (((↑i:Int) - 1).tdiv 2))) (sO m c p cs cc)/\Rs [Y3,IV i,ZV (((↑i:Int) - 1).tdiv 2)]/\SS m c p/\KO (sig [YB,(1,4)]) (m9 cs cc)/\ ∀(x:Unit),True->Rs (Value.bool (bf (↑i:Int) (((↑i:Int) - 1).tdiv 2)))/\kH m c p/\KO (sig [YB,(4,1)]) (m9 cs cc)/\Br (bf (↑i:Int) (((↑i:Int) - 1).tdiv 2)) (WQ1 ((↑i:Int) - 1)/\WQ1 (((↑i:Int) - 1).tdiv 2)/\(aF prog z zn 251 [Y3,IV i,ZV (((↑i:Int) - 1).tdiv 2)] (gD m c p cs cc) 2 2 Yc nq fun(x:Unit)=>[CH m c p,(1,dZ (sw (↑i:Int) (((↑i:Int) - 1).tdiv 2)) cc)])/\Rs [Y3,IV i,ZV (((↑i:Int) - 1).tdiv 2)]/\SS m c p/\KO (sig [YB,(1,4)]) (m9 cs cc)/\ ∀(x:Unit),True->nv/\kH m c p/\KO (sig [YB,(4,1)]) (BR (sw (↑i:Int) (((↑i:Int) - 1).tdiv 2)) cc 4 339)/\WQ1 ((↑i:Int) - 1)/\WQ1 (((↑i:Int) - 1).tdiv 2)/\E6 54 z zn (R2 Y3 (ZV (((↑i:Int) - 1).tdiv 2)) (SS m c p/\KO (ay [YB,(4,4)] []) (BR (sw (↑i:Int) (((↑i:Int) - 1).tdiv 2)) cc 4 339)/\Q aN [(0,Y3),(4,ZV (((↑i:Int) - 1).tdiv 2))] [P4 m c p,(4,BR (sw (↑i:Int) (((↑i:Int) - 1).tdiv 2)) cc 4 339)] 5 z zn))) (E6 54 z zn (AQ/\SS m c p/\KO (ay [YB,(4,4)] []) (m9 cs cc)/\Q YO CY [P4 m c p,(4,m9 cs cc)] 5 z zn))) (E6 54 z zn (AQ/\SS m c p/\KO (ay [YB,(4,4)] []) (m9 cs cc)/\Q YO CY [P4 m c p,(4,m9 cs cc)] 5 z zn))):RdT prog gH z WW 54 (sy i) z [(0,eJ (bd 4 m c) p),(4,dZ cs cc)] 5 zn 4 Q:=K1t hyp ((tA 4 (tO (An.val (ZV ((↑i:Int) - 1))) (tA 1 (tO (An.val (ZV (((↑i:Int) - 1).tdiv 2))) (tA 1 (Tr.cm (Cm.mk [Y3,IV i,ZV (((↑i:Int) - 1).tdiv 2)] (gD m c p cs cc) 2 2 [YB,(1,4)] [YB,(4,1)] 5) Unit Yc (fun(x:Unit)=>Value.bool (bf (↑i:Int) (((↑i:Int) - 1).tdiv 2))) (sO m c p cs cc) (fun(x:Unit)=>Value.bool (bf (↑i:Int) (((↑i:Int) - 1).tdiv 2))) (fun(x:Unit)=>[P4 m c p,(4,m9 cs cc)]) (Yl z) (Ym zn) fun(x:Unit)=>tA 1 ((tO (An.val (ZV ((↑i:Int) - 1))) (tO (An.val (ZV (((↑i:Int) - 1).tdiv 2))) (Tr.cm (Cm.mk [Y3,IV i,ZV (((↑i:Int) - 1).tdiv 2)] (gD m c p cs cc) 2 2 [YB,(1,4)] [YB,(4,1)] 5) Unit Yc nq (fun(x:Unit)=>[CH m c p,(1,dZ (sw (↑i:Int) (((↑i:Int) - 1).tdiv 2)) cc)]) nq (fun(x:Unit)=>[P4 m c p,(4,BR (sw (↑i:Int) (((↑i:Int) - 1).tdiv 2)) cc 4 339)]) (Yl z) (Ym zn) fun(x:Unit)=>tO (An.val (ZV ((↑i:Int) - 1))) (tO (An.val (ZV (((↑i:Int) - 1).tdiv 2))) (tE [YB,(4,4)] [] [(0,Y3),(4,ZV (((↑i:Int) - 1).tdiv 2))] [P4 m c p,(4,BR (sw (↑i:Int) (((↑i:Int) - 1).tdiv 2)) cc 4 339)] 5 z zn))))).fork (tE [YB,(4,4)] [] CY [P4 m c p,(4,m9 cs cc)] 5 z zn)))))))).fork (tA 8 (tE [YB,(4,4)] [] CY [P4 m c p,(4,m9 cs cc)] 5 z
 zn)))
abbrev WV(m c:Nat)(p:Int):Prop:=Rs (BQ [lK,SL 5 m c,ZV p] 3 1 337)
abbrev P3(m c:Nat)(p:Int):Nat × aa:=(0,BQ [lK,SL 5 m c,ZV p] 3 1 337)
theorem VI(z:T aa)(zn i m c cc:Nat)(p:Int)(bf:Int->Int->Bool)(sw:Int->Int->List Value)(cs:List Value)(Q:QL)(hyp:Br (decide ((↑i:Int)>0)) (WQ1 ((↑i:Int) - 1)/\WQ1 (((↑i:Int) - 1).tdiv 2)/\aF prog z zn 250 [Y3,IV i,ZV (((↑i:Int) - 1).tdiv 2)] (gD m c p cs cc) 2 2 Yc (fun(x:Unit)=>Value.bool (bf (↑i:Int) (((↑i:Int) - 1).tdiv 2))) (sO m c p cs cc)/\Rs [Y3,IV i,ZV (((↑i:Int) - 1).tdiv 2)]/\WV m c p/\KO (sig [YB,(1,5)]) (m9 cs cc)/\ ∀(x:Unit),True->Rs (Value.bool (bf (↑i:Int) (((↑i:Int) - 1).tdiv 2)))/\kH m c p/\KO (sig [YB,(5,1)]) (m9 cs cc)/\Br (bf (↑i:Int) (((↑i:Int) - 1).tdiv 2)) (WQ1 ((↑i:Int) - 1)/\WQ1 (((↑i:Int) - 1).tdiv 2)/\(aF prog z zn 251 [Y3,IV i,ZV (((↑i:Int) - 1).tdiv 2)] (gD m c p cs cc) 2 2 Yc nq fun(x:Unit)=>[CH m c p,(1,dZ (sw (↑i:Int) (((↑i:Int) - 1).tdiv 2)) cc)])/\Rs [Y3,IV i,ZV (((↑i:Int) - 1).tdiv 2)]/\WV m c p/\KO (sig [YB,(1,5)]) (m9 cs cc)/\ ∀(x:Unit),True->nv/\kH m c p/\KO (sig [YB,(5,1)]) (BR (sw (↑i:Int) (((↑i:Int) - 1).tdiv 2)) cc 4 339)/\WQ1 ((↑i:Int) - 1)/\WQ1 (((↑i:Int) - 1).tdiv 2)/\E6 54 z zn (R2 Y3 (ZV (((↑i:Int) - 1).tdiv 2)) (WV m c p/\KO (ay [YB,(5,5)] []) (BR (sw (↑i:Int) (((↑i:Int) - 1).tdiv 2)) cc 4 339)/\Q aN [(0,Y3),(4,ZV (((↑i:Int) - 1).tdiv 2))] [P3 m c p,(5,BR (sw (↑i:Int) (((↑i:Int) - 1).tdiv 2)) cc 4 339)] 6 z zn))) (E6 54 z zn (AQ/\WV m c p/\KO (ay [YB,(5,5)] []) (m9 cs cc)/\Q YO CY [P3 m c p,(5,m9 cs cc)] 6 z zn))) (E6 54 z zn (AQ/\WV m c p/\KO (ay [YB,(5,5)] []) (m9 cs cc)/\Q YO CY [P3 m c p,(5,m9 cs cc)] 6 z zn))):RdT prog gH z WW 54 (sy i) z [(0,eJ (bd 5 m c) p),(5,dZ cs cc)] 6 zn 5 Q:=K1t hyp ((tA 4 (tO (An.val (ZV ((↑i:Int) - 1))) (tA 1 (tO (An.val (ZV (((↑i:Int) - 1).tdiv 2))) (tA 1 (Tr.cm (Cm.mk [Y3,IV i,ZV (((↑i:Int) - 1).tdiv 2)] (gD m c p cs cc) 2 2 [YB,(1,5)] [YB,(5,1)] 6) Unit Yc (fun(x:Unit)=>Value.bool (bf (↑i:Int) (((↑i:Int) - 1).tdiv 2))) (sO m c p cs cc) (fun(x:Unit)=>Value.bool (bf (↑i:Int) (((↑i:Int) - 1).tdiv 2))) (fun(x:Unit)=>[P3 m c p,(5,m9 cs cc)]) (Yl z) (Ym zn) fun(x:Unit)=>tA 1 ((tO (An.val (ZV ((↑i:Int) - 1))) (tO (An.val (ZV (((↑i:Int) - 1).tdiv 2))) (Tr.cm (Cm.mk [Y3,IV i,ZV (((↑i:Int) - 1).tdiv 2)] (gD m c p cs cc) 2 2 [YB,(1,5)] [YB,(5,1)] 6) Unit Yc nq (fun(x:Unit)=>[CH m c p,(1,dZ (sw (↑i:Int) (((↑i:Int) - 1).tdiv 2)) cc)]) nq (fun(x:Unit)=>[P3 m c p,(5,BR (sw (↑i:Int) (((↑i:Int) - 1).tdiv 2)) cc 4 339)]) (Yl z) (Ym zn) fun(x:Unit)=>tO (An.val (ZV ((↑i:Int) - 1))) (tO (An.val (ZV (((↑i:Int) - 1).tdiv 2))) (tE [YB,(5,5)] [] [(0,Y3),(4,ZV (((↑i:Int) - 1).tdiv 2))] [P3 m c p,(5,BR (sw (↑i:Int) (((↑i:Int) - 1).tdiv 2)) cc 4 339)] 6 z zn))))).fork (tE [YB,(5,5)] [] CY [P3 m c p,(5,m9 cs cc)] 6 z zn)))))))).fork (tA 8 (tE [YB,(5,5)] [] CY [P3 m c p,(5,m9 cs cc)] 6 z
 zn)))
noncomputable abbrev YFj(p:Int)(z:T aa)(zn:Nat):List cx->aA:=fun(ms:List cx)=>aA.mk YO [(0,ip 0)] [(0,eJ (bd 4 1 1) (p+1)),(4,dZ (aG ms) 4)] (4+1) z zn
abbrev cW:T aa:=T.leaf
noncomputable abbrev X9:List cx->Tr:=fun(x:List cx)=>tE [] [] [] [] 0 cW 0
abbrev yU(p:Int):Value:=ZV (p+1)
abbrev SR(x:cS)(p:Int):List Value:=[ZV x.node,ZV x.len,ZV x.gq,ZV p]
theorem aa2(z:T aa)(zn:Nat)(x:cS)(p:Int)(φ:List cx->Prop)(Q:QF)(hyp:WQ1 (p+1)/\Rf 4/\aj prog WW 4 54 (sy 0) [(0,eJ (bd 4 1 1) (p+1)),(4,dZ (cx.mk x p).row 4)] (4+1) z zn (Al.cons (List cx) φ (YFj p z zn) X9 Al.nil).R/\E6 54 z zn (R2 Y3 YM (Rs (BQ [lK,SL 3 1 1,yU p] 3 1 337)/\Rs (BR (SR x p) 4 4 339)/\ ∀(x:List cx),φ x->E6 54 z zn (Rs (BQ [lK,SL 4 1 1,yU p] 3 1 337)/\KO (ay [YB,(1,4)] []) (BR (aG x) 4 4 339)/\nv/\Q pd [(0,BQ [lK,SL 1 1 1,yU p] 3 1 337),(1,BR (aG x) 4 4 339)] 2 z zn)))):FnT prog gH z f240 [ip 0,AG x.row] z [(0,eJ an p)] 1 zn Q:=K1t hyp (tA 8 (tO (An.val (yU p)) (tA 3 (Tr.lp 4 54 [YB,(4,3)] [] (sy 0) [(0,eJ (bd 4 1 1) (p+1)),(4,dZ (cx.mk x p).row 4)] (4+1) z zn (Al.cons (List cx) φ (YFj p z zn) (fun(x:List cx)=>tR [YB,(1,4)] [] pd [(0,BQ [lK,SL 1 1 1,yU p] 3 1 337),(1,BR (aG x) 4 4 339)] 2 z zn) Al.nil)))))
abbrev xr(x:List cx)(cc:Nat):aa:=BR (aG x) cc 4 339
theorem aa1(z:T aa)(zn n c cc:Nat)(x:cS)(p:Int)(cs cs1:List Value)(φ:List cx->Prop)(Q:QF)(hyp:Rs (SR x p)/\n+1<=c/\overwrite cs (0+n*4) (SR x p)=some cs1/\cs1.length<=cc/\WQ1 (p+1)/\WQ1 ((↑(n+1):Int) - 1)/\Rf 4/\aj prog WW 4 54 (sy n) [(0,eJ (bd 4 (n+1) c) (p+1)),(4,dZ cs1 cc)] (4+1) z zn (Al.cons (List cx) φ (fun(ms:List cx)=>aA.mk YO [(0,ip 0)] [(0,eJ (bd 4 (n+1) c) (p+1)),(4,dZ (aG ms) cc)] (4+1) z zn) X9 Al.nil).R/\E6 54 z zn (AQ/\some (IV n)=some (ZV ((↑(n+1):Int) - 1))/\Rs (BQ [lK,SL 1 (n+1) c,yU p] 3 1 337)/\KO (ay [YB,(4,1)] []) (m9 cs1 cc)/\ ∀(x:List cx),φ x->E6 54 z zn (Rs (BQ [lK,SL 4 (n+1) c,yU p] 3 1 337)/\KO (ay [YB,(2,4)] []) (xr x cc)/\nv/\Q pd [(0,BQ [lK,SL 2 (n+1) c,yU p] 3 1 337),(2,xr x cc)] 3 z zn))):FnT prog gH z f240 [ip 0,AG x.row] z (LA n c p cs cc) 2 zn Q:=K1t hyp (tA 5 (tX (jE.app 1 (SR x p) cs1) (tA 2 (tO (An.val (yU p)) (tA 2 (tO (An.val (ZV ((↑(n+1):Int) - 1))) (Tr.lp 4 54 [YB,(4,1)] [] (sy n) [(0,eJ (bd 4 (n+1) c) (p+1)),(4,dZ cs1 cc)] (4+1) z zn (Al.cons (List cx) φ (fun(ms:List cx)=>aA.mk YO [(0,ip 0)] [(0,eJ (bd 4 (n+1) c) (p+1)),(4,dZ (aG ms) cc)] (4+1) z zn) (fun(x:List cx)=>tR [YB,(2,4)] [] pd [(0,BQ [lK,SL 2 (n+1) c,yU p] 3 1 337),(2,xr x cc)] 3 z zn) Al.nil))))))))
noncomputable abbrev YFp(n:Nat)(p:Int)(z:T aa)(zn:Nat):List cx->aA:=fun(ms:List cx)=>aA.mk YO [(0,ip 0)] [(0,eJ (bd 5 (n+1) (n+1)) (p+1)),(5,dZ (aG ms) ((n+1)*4))] (5+1) z zn
theorem aa0(z:T aa)(zn n cc:Nat)(x:cS)(p:Int)(cs:List Value)(φ:List cx->Prop)(Q:QF)(hyp:Rs (SR x p)/\Rf n/\cs.length=n*4/\cc=n*4/\n+1<=1048576/\WQ1 (p+1)/\WQ1 ((↑(n+1):Int) - 1)/\Rf 5/\aj prog WW 5 54 (sy n) [(0,eJ (bd 5 (n+1) (n+1)) (p+1)),(5,dZ (cs++(cx.mk x p).row) ((n+1)*4))] (5+1) z zn (Al.cons (List cx) φ (YFp n p z zn) X9 Al.nil).R/\E6 54 z zn (AQ/\some (IV n)=some (ZV ((↑(n+1):Int) - 1))/\Rs (BQ [lK,SL 4 (n+1) (n+1),yU p] 3 1 337)/\KO (ay [YB,(5,4)] []) (BR (cs++SR x p) ((n+1)*4) 4 339)/\ ∀(x:List cx),φ x->E6 54 z zn (Rs (BQ [lK,SL 5 (n+1) (n+1),yU p] 3 1 337)/\KO (ay [YB,(2,5)] []) (BR (aG x) ((n+1)*4) 4 339)/\nv/\Q pd [(0,BQ [lK,SL 2 (n+1) (n+1),yU p] 3 1 337),(2,BR (aG x) ((n+1)*4) 4 339)] 3 z zn))):FnT prog gH z f240 [ip 0,AG x.row] z [(0,eJ (bd 1 n n) p),(1,dZ cs cc)] 2 zn Q:=K1t hyp (tA 5 (tX (jE.grow 1 (SR x p)) (tA 2 (tO (An.val (yU p)) (tA 2 (tO (An.val (ZV ((↑(n+1):Int) - 1))) (Tr.lp 5 54 [YB,(5,4)] [] (sy n) [(0,eJ (bd 5 (n+1) (n+1)) (p+1)),(5,dZ (cs++(cx.mk x p).row) ((n+1)*4))] (5+1) z zn (Al.cons (List cx) φ (YFp n p z zn) (fun(x:List cx)=>tR [YB,(2,5)] [] pd [(0,BQ [lK,SL 2 (n+1) (n+1),yU p] 3 1 337),(2,BR (aG x) ((n+1)*4) 4 339)] 3 z zn) Al.nil))))))))
theorem hlen(z:T aa)(zn n c cc:Nat)(p:Int)(cs:List Value)(Q:QF)(hyp:E6 10 z zn (kH n c p/\FZ cs cc/\Rs (IV n)/\Q (IV n) (gD n c p cs cc) 2 z zn)):FnT prog gH z f255 [ip 0] z (LA n c p cs cc) 2 zn Q:=K1t hyp (tA 3 (tR dv [] (IV n) (gD n c p cs cc) 2 z zn))
abbrev AO(cs:List Value)(cc:Nat):Prop:=KO (sig dv) (m9 cs cc)
abbrev O0:Value:=TP [yV,F0]
abbrev Ma(a:cS):Value:=TP [AG [ZV a.node,ZV a.len,ZV a.gq],T1]
noncomputable abbrev Lz:An:=An.idx 0
theorem hpk(z:T aa)(zn n c cc:Nat)(p:Int)(a:cS)(cs:List Value)(Q:QF)(hyp:aF prog z zn 255 [Y3] (gD n c p cs cc) 2 2 Yc (Mk n) (sO n c p cs cc)/\Rs [Y3]/\kH n c p/\AO cs cc/\ ∀(x:Unit),True->Rs (IV n)/\kH n c p/\AO cs cc/\Br ((↑n:Int)==0) (E6 16 z zn (kH n c p/\FZ cs cc/\Rs O0/\Q O0 (gD n c p cs cc) 2 z zn)) (Int.ofNat 0=0/\0<n/\ai prog (aV.mk cs cc 4 339 false false 0 true) 322 0=some (AG [ZV a.node,ZV a.len,ZV a.gq])/\E6 16 z zn (kH n c p/\FZ cs cc/\Rs (Ma a)/\Q (Ma a) (gD n c p cs cc) 2 z zn))):FnT prog gH z f252 [ip 0] z (LA n c p cs cc) 2 zn Q:=K1t hyp (Tr.cm (Cm.mk [Y3] (gD n c p cs cc) 2 2 dv dv 4) Unit Yc (Mk n) (sO n c p cs cc) (W2 n) (sO n c p cs cc) (Yl z) (Ym zn) fun(x:Unit)=>(tA 3 (tR dv [] O0 (gD n c p cs cc) 2 z zn)).fork (tA 2 (tO Lz (tO (An.pP (AG a.row)) (tA 1 (tR dv [] (Ma a) (gD n c p cs cc) 2 z zn))))))
abbrev Em(i:Nat):Value:=ZV (2*(↑i:Int)+1+1)
abbrev wY(i:Nat):Value:=ZV (2*(↑i:Int)+1)
abbrev YFw(bf:Int->Int->Bool)(i:Nat):Unit->Value:=fun(x:Unit)=>Value.bool (bf (2*(↑i:Int)+1+1) (2*(↑i:Int)+1))
abbrev YFx(bf:Int->Int->Bool)(i:Nat):Unit->Value:=fun(x:Unit)=>Value.bool (bf (2*(↑i:Int)+1+1) (↑i:Int))
abbrev WU(sw:Int->Int->List Value)(i cc:Nat):aa:=BR (sw (↑i:Int) (2*(↑i:Int)+1+1)) cc 4 339
abbrev T2(bf:Int->Int->Bool)(i:Nat):Unit->Value:=fun(x:Unit)=>Value.bool (bf (2*(↑i:Int)+1) (↑i:Int))
abbrev Ze(n c:Nat)(p:Int)(sw:Int->Int->List Value)(i cc:Nat):Unit->List (Nat × aa):=fun(x:Unit)=>[CH n c p,(1,dZ (sw (↑i:Int) (2*(↑i:Int)+1)) cc)]
abbrev T6(n c:Nat)(p:Int)(sw:Int->Int->List Value)(i cc:Nat):List (Nat × aa):=[CH n c p,(1,BR (sw (↑i:Int) (2*(↑i:Int)+1)) cc 4 339)]
theorem hsk(z:T aa)(zn i n c cc:Nat)(p:Int)(bf:Int->Int->Bool)(sw:Int->Int->List Value)(cs:List Value)(Q:QL)(hyp:WQ1 (2*(↑i:Int))/\WQ1 (2*(↑i:Int)+1)/\Br (decide (2*(↑i:Int)+1>=(↑n:Int))) (E6 41 z zn (AQ/\kH n c p/\FZ cs cc/\Q af.ret CY (gD n c p cs cc) 2 z zn)) (WQ1 (2*(↑i:Int)+1+1)/\Br (decide (2*(↑i:Int)+1+1<(↑n:Int))) (WQ1 (2*(↑i:Int)+1+1)/\aF prog z zn 250 [Y3,Em i,wY i] (gD n c p cs cc) 2 2 Yc (YFw bf i) (sO n c p cs cc)/\Rs [Y3,Em i,wY i]/\kH n c p/\AO cs cc/\ ∀(x:Unit),True->Rs (Value.bool (bf (2*(↑i:Int)+1+1) (2*(↑i:Int)+1)))/\kH n c p/\AO cs cc/\Br (bf (2*(↑i:Int)+1+1) (2*(↑i:Int)+1)) (WQ1 (2*(↑i:Int)+1+1)/\aF prog z zn 250 [Y3,Em i,IV i] (gD n c p cs cc) 2 2 Yc (YFx bf i) (sO n c p cs cc)/\Rs [Y3,Em i,IV i]/\kH n c p/\AO cs cc/\ ∀(x:Unit),True->Rs (Value.bool (bf (2*(↑i:Int)+1+1) (↑i:Int)))/\kH n c p/\AO cs cc/\Br (!bf (2*(↑i:Int)+1+1) (↑i:Int)) (E6 41 z zn (AQ/\kH n c p/\FZ cs cc/\Q af.ret CY (gD n c p cs cc) 2 z zn)) ((aF prog z zn 251 [Y3,IV i,Em i] (gD n c p cs cc) 2 2 Yc nq fun(x:Unit)=>[CH n c p,(1,dZ (sw (↑i:Int) (2*(↑i:Int)+1+1)) cc)])/\Rs [Y3,IV i,Em i]/\kH n c p/\AO cs cc/\ ∀(x:Unit),True->nv/\kH n c p/\KO (sig dv) (WU sw i cc)/\E6 41 z zn (R2 Y3 (Em i) (kH n c p/\KO oe (WU sw i cc)/\Q aN [(0,Y3),(2,Em i)] [CH n c p,(1,WU sw i cc)] 2 z zn)))) (aF prog z zn 250 [Y3,wY i,IV i] (gD n c p cs cc) 2 2 Yc (T2 bf i) (sO n c p cs cc)/\Rs [Y3,wY i,IV i]/\kH n c p/\AO cs cc/\ ∀(x:Unit),True->Rs (Value.bool (bf (2*(↑i:Int)+1) (↑i:Int)))/\kH n c p/\AO cs cc/\Br (!bf (2*(↑i:Int)+1) (↑i:Int)) (E6 41 z zn (AQ/\kH n c p/\FZ cs cc/\Q af.ret CY (gD n c p cs cc) 2 z zn)) (aF prog z zn 251 [Y3,IV i,wY i] (gD n c p cs cc) 2 2 Yc nq (Ze n c p sw i cc)/\Rs [Y3,IV i,wY i]/\kH n c p/\AO cs cc/\ ∀(x:Unit),True->nv/\kH n c p/\KO (sig dv) (BR (sw (↑i:Int) (2*(↑i:Int)+1)) cc 4 339)/\E6 41 z zn (R2 Y3 (wY i) (kH n c p/\KO oe (BR (sw (↑i:Int) (2*(↑i:Int)+1)) cc 4 339)/\Q aN [(0,Y3),(2,wY i)] (T6 n c p sw i cc) 2 z zn))))) (aF prog z zn 250 [Y3,wY i,IV i] (gD n c p cs cc) 2 2 Yc (T2 bf i) (sO n c p cs cc)/\Rs [Y3,wY i,IV i]/\kH n c p/\AO cs cc/\ ∀(x:Unit),True->Rs (Value.bool (bf (2*(↑i:Int)+1) (↑i:Int)))/\kH n c p/\AO cs cc/\Br (!bf (2*(↑i:Int)+1) (↑i:Int)) (E6 41 z zn (AQ/\kH n c p/\FZ cs cc/\Q af.ret CY (gD n c p cs cc) 2 z zn)) (aF prog z zn 251 [Y3,IV i,wY i] (gD n c p cs cc) 2 2 Yc nq (Ze n c p sw i cc)/\Rs [Y3,IV i,wY i]/\kH n c p/\AO cs cc/\ ∀(x:Unit),True->nv/\kH n c p/\KO (sig dv) (BR (sw (↑i:Int) (2*(↑i:Int)+1)) cc 4 339)/\E6 41 z zn (R2 Y3 (wY i) (kH n c p/\KO oe (BR (sw (↑i:Int) (2*(↑i:Int)+1)) cc 4 339)/\Q aN [(0,Y3),(2,wY i)] (T6 n c p sw i cc) 2 z zn)))))):RdT prog gH z (ah (ag f253) 0) 41 (BB i) z (LA n c p cs cc) 2 zn 2 Q:=K1t hyp (tO (An.val
 (ZV (2*(↑i:Int)))) (tO (An.val (wY i)) (tA 1 ((tA 1 (tE dv [] CY (gD n c p cs cc) 2 z zn)).fork (tA 1 (tO (An.val (Em i)) (tA 1 ((tA 3 (tO (An.val (Em i)) (tA 2 (Tr.cm (Cm.mk [Y3,Em i,wY i] (gD n c p cs cc) 2 2 dv dv 2) Unit Yc (YFw bf i) (sO n c p cs cc) (YFw bf i) (sO n c p cs cc) (Yl z) (Ym zn) fun(x:Unit)=>tA 1 ((tO (An.val (Em i)) (Tr.cm (Cm.mk [Y3,Em i,IV i] (gD n c p cs cc) 2 2 dv dv 2) Unit Yc (YFx bf i) (sO n c p cs cc) (YFx bf i) (sO n c p cs cc) (Yl z) (Ym zn) fun(x:Unit)=>(tE dv [] CY (gD n c p cs cc) 2 z zn).fork (Tr.cm (Cm.mk [Y3,IV i,Em i] (gD n c p cs cc) 2 2 dv dv 2) Unit Yc nq (fun(x:Unit)=>[CH n c p,(1,dZ (sw (↑i:Int) (2*(↑i:Int)+1+1)) cc)]) nq (fun(x:Unit)=>[CH n c p,(1,WU sw i cc)]) (Yl z) (Ym zn) fun(x:Unit)=>tE dv [] [(0,Y3),(2,Em i)] [CH n c p,(1,WU sw i cc)] 2 z zn))).fork (Tr.cm (Cm.mk [Y3,wY i,IV i] (gD n c p cs cc) 2 2 dv dv 2) Unit Yc (T2 bf i) (sO n c p cs cc) (T2 bf i) (sO n c p cs cc) (Yl z) (Ym zn) fun(x:Unit)=>(tE dv [] CY (gD n c p cs cc) 2 z zn).fork (Tr.cm (Cm.mk [Y3,IV i,wY i] (gD n c p cs cc) 2 2 dv dv 2) Unit Yc nq (Ze n c p sw i cc) nq (fun(x:Unit)=>T6 n c p sw i cc) (Yl z) (Ym zn) fun(x:Unit)=>tE dv [] [(0,Y3),(2,wY i)] (T6 n c p sw i cc) 2 z zn))))))).fork (tA 7 (Tr.cm (Cm.mk [Y3,wY i,IV i] (gD n c p cs cc) 2 2 dv dv 2) Unit Yc (T2 bf i) (sO n c p cs cc) (T2 bf i) (sO n c p cs cc) (Yl z) (Ym zn) fun(x:Unit)=>(tE dv [] CY (gD n c p cs cc) 2 z zn).fork (Tr.cm (Cm.mk [Y3,IV i,wY i] (gD n c p cs cc) 2 2 dv dv 2) Unit Yc nq (Ze n c p sw i cc) nq (fun(x:Unit)=>T6 n c p sw i cc) (Yl z) (Ym zn) fun(x:Unit)=>tE dv [] [(0,Y3),(2,wY i)] (T6 n c p sw i cc) 2 z zn)))))))))))
theorem VL(z:T aa)(zn n c cc:Nat)(p:Int)(cs:List Value)(φ:List cx->Prop)(Q:QF)(hyp:rU/\aj prog (ah (ag f253) 0) 2 41 (BB 0) (LA n c p cs cc) 2 z zn (Al.cons (List cx) φ (fun(ms:List cx)=>aA.mk af.ret [(0,ip 0)] [(0,eJ (bd 1 n c) p),(1,dZ (aG ms) cc)] 2 z zn) X9 Al.nil).R/\E6 41 z zn (R2 Y3 YM (kH n c p/\FZ cs cc/\ ∀(x:List cx),φ x->E6 41 z zn (kH n c p/\KO oe (xr x cc)/\nv/\Q pd [CH n c p,(1,xr x cc)] 2 z zn)))):FnT prog gH z f253 [ip 0] z (LA n c p cs cc) 2 zn Q:=K1t hyp (Tr.lp 2 41 dv [] (BB 0) (LA n c p cs cc) 2 z zn (Al.cons (List cx) φ (fun(ms:List cx)=>aA.mk af.ret [(0,ip 0)] [(0,eJ (bd 1 n c) p),(1,dZ (aG ms) cc)] 2 z zn) (fun(x:List cx)=>tR dv [] pd [CH n c p,(1,xr x cc)] 2 z zn) Al.nil))
abbrev SU(n c:Nat)(p:Int):Nat × aa:=(0,BQ [lK,SL 1 (n - 1 - 0) (c - 0),ZV p] 3 1 337)
abbrev T5:List cx->Value:=fun(x:List cx)=>pd
abbrev YF4(n c:Nat)(p:Int):Prop:=Rs (BQ [lK,SL 1 (n - 1 - 0) (c - 0),ZV p] 3 1 337)
theorem JX(z:T aa)(zn n c cc:Nat)(p:Int)(a:cS)(sw:Int->Int->List Value)(cs:List Value)(φ:List cx->Prop)(Q:QF)(hyp:aF prog z zn 252 [Y3] (gD n c p cs cc) 2 2 Yc (fun(x:Unit)=>TP [AG a.row,T1]) (sO n c p cs cc)/\Rs [Y3]/\kH n c p/\AO cs cc/\ ∀(x:Unit),True->Rs (Ma a)/\kH n c p/\AO cs cc/\WQ1 ((↑n:Int) - 1)/\(aF prog z zn 251 [Y3,YM,ZV ((↑n:Int) - 1)] (gD n c p cs cc) 2 2 Yc nq fun(x:Unit)=>[CH n c p,(1,dZ (sw 0 ((↑n:Int) - 1)) cc)])/\Rs [Y3,YM,ZV ((↑n:Int) - 1)]/\kH n c p/\AO cs cc/\ ∀(x:Unit),True->nv/\kH n c p/\KO (sig dv) (BR (sw 0 ((↑n:Int) - 1)) cc 4 339)/\tD/\(↑n:Int) - 1=(↑(n - 1):Int)/\0<=n - 1/\n - 1<=c/\0<c/\(aF prog z zn 253 [Y3] [SU n c p,(1,BR (sw 0 ((↑n:Int) - 1)) cc 4 339)] 2 2 φ T5 fun(ms:List cx)=>[SU n c p,(1,dZ (aG ms) cc)])/\Rs [Y3]/\YF4 n c p/\KO (sig dv) (BR (sw 0 ((↑n:Int) - 1)) cc 4 339)/\ ∀(x:List cx),φ x->nv/\YF4 n c p/\KO (sig dv) (xr x cc)/\E6 36 z zn (YF4 n c p/\KO oe (xr x cc)/\Rs (Ma a)/\Q (Ma a) [SU n c p,(1,xr x cc)] 2 z zn)):FnT prog gH z f241 [ip 0] z (LA n c p cs cc) 2 zn Q:=K1t hyp (Tr.cm (Cm.mk [Y3] (gD n c p cs cc) 2 2 dv dv 3) Unit Yc (fun(x:Unit)=>TP [AG a.row,T1]) (sO n c p cs cc) (fun(x:Unit)=>Ma a) (sO n c p cs cc) (Yl z) (Ym zn) fun(x:Unit)=>tA 3 (tO (An.val (ZV ((↑n:Int) - 1))) (Tr.cm (Cm.mk [Y3,YM,ZV ((↑n:Int) - 1)] (gD n c p cs cc) 2 2 dv dv 4) Unit Yc nq (fun(x:Unit)=>[CH n c p,(1,dZ (sw 0 ((↑n:Int) - 1)) cc)]) nq (fun(x:Unit)=>[CH n c p,(1,BR (sw 0 ((↑n:Int) - 1)) cc 4 339)]) (Yl z) (Ym zn) fun(x:Unit)=>tA 1 (tX (jE.Z3 0 (n - 1)) (tA 1 (Tr.cm (Cm.mk [Y3] [SU n c p,(1,BR (sw 0 ((↑n:Int) - 1)) cc 4 339)] 2 2 dv dv 4) (List cx) φ T5 (fun(ms:List cx)=>[SU n c p,(1,dZ (aG ms) cc)]) T5 (fun(x:List cx)=>[SU n c p,(1,xr x cc)]) (fun(x:List cx)=>z) (fun(x:List cx)=>zn) fun(x:List cx)=>tA 2 (tR dv [] (Ma a) [SU n c p,(1,xr x cc)] 2 z zn)))))))
abbrev YF5:Unit->Value:=fun(x:Unit)=>TP [AG (cS.mk 0 0 0).row,F0]
abbrev Zd:Unit->Value:=fun(x:Unit)=>O0
theorem VM(z:T aa)(zn n c cc:Nat)(p:Int)(cs:List Value)(φ:List cx->Prop)(Q:QF)(hyp:aF prog z zn 252 [Y3] (gD n c p cs cc) 2 2 Yc YF5 (sO n c p cs cc)/\Rs [Y3]/\kH n c p/\AO cs cc/\ ∀(x:Unit),True->Rs O0/\kH n c p/\AO cs cc/\E6 36 z zn (kH n c p/\FZ cs cc/\Rs O0/\Q O0 (gD n c p cs cc) 2 z zn)):FnT prog gH z f241 [ip 0] z (LA n c p cs cc) 2 zn Q:=K1t hyp (Tr.cm (Cm.mk [Y3] (gD n c p cs cc) 2 2 dv dv 3) Unit Yc YF5 (sO n c p cs cc) Zd (sO n c p cs cc) (Yl z) (Ym zn) fun(x:Unit)=>tA 4 (tR dv [] O0 (gD n c p cs cc) 2 z zn))
end
end Go.Proofs.Nw
namespace Go.Proofs.Nw
open Go Go.AV Tryz
set_option maxHeartbeats 4000000
set_option maxRecDepth 100000
theorem pE{b c:Nat->Option Int}: ∀(m i:Nat),(∀j,i<=j->j<i+m->b j=c j)->scan b m i=scan c m i
 |0,_,_=>rfl
 |m+1,i,h=>by
  simp only[scan]
  rw[h i (Nat.le_refl _) (by omega),pE m (i+1) fun j h1 h2=>h j (by omega) (by omega)]
theorem FQ{b:Nat->Option Int}(h: ∀i,b i≠some 0)(i:Nat):rH (fun i=>(b i).getD 0) i=b i:=by
 unfold rH
 cases hb:b i with
 |none=>simp[hb]
 |some e=>
  have:e≠0:=fun h0=>h i (by rw[hb,h0])
  simp[hb,this]
theorem yP(ns nr:Nat)(l:List RunT)(i:Nat):dH ns nr l i≠some 0:=by
 unfold dH
 cases l[i]? with
 |none=>simp
 |some x=>
  simp only
  (repeat' split)<;>first|(simp;done)|(intro h;simp_all;done)
theorem Lc(U:List RunT)(L:List aI)(i:Nat):fD U L i≠some 0:=by
 unfold fD
 cases L[i]? with
 |none=>simp
 |some x=>
  simp only
  split
  ·simp
  ·rename_i h;intro e;exact h (by simpa using e)
theorem QM(ns nr:Nat)(l:List RunT):cY ns nr l=if 1024<l.length then (0,5) else scan (rH fun i=>(dH ns nr l i).getD 0) l.length 0:=by
 unfold cY
 split
 ·rfl
 ·exact pE _ _ fun j _ _=>(FQ (yP ns nr l) j).symm
theorem NP(U:List RunT)(L:List aI):bQ U L=if 1024<L.length then (0,5) else scan (rH fun i=>(fD U L i).getD 0) L.length 0:=by
 unfold bQ
 split
 ·rfl
 ·exact pE _ _ fun j _ _=>(FQ (Lc U L) j).symm
theorem jR{b:Nat->Option Int}(hb: ∀i,b i≠some 0): ∀(m i:Nat),(scan b m i).2=0-> ∀j,i<=j->j<i+m->b j=none
 |0,i,_,j,h1,h2=>by omega
 |m+1,i,h,j,h1,h2=>by
  simp only[scan] at h
  cases hc:b i with
  |some e=>
   rw[hc] at h
   exact(hb i (by rw[hc];exact congrArg some h)).elim
  |none=>
   rw[hc] at h
   by_cases e:j=i
   ·subst e;exact hc
   ·exact jR hb m (i+1) h j (by omega) (by omega)
theorem jS{ns nr:Nat}{l:List RunT}(h:(cY ns nr l).2=0):fy l:=by
 unfold cY at h
 split at h
 ·cases h
 rename_i hl
 refine⟨by omega,fun r hr=>?_⟩
 obtain⟨i,hi⟩:=List.mem_iff_getElem?.1 hr
 have hlt:=(List.getElem?_eq_some_iff.1 hi).1
 have:=jR (yP ns nr l) _ _ h i (Nat.zero_le _) (by omega)
 unfold dH at this
 rw[hi] at this
 simp only at this
 by_cases hc:r.calls.length<2\/32<r.calls.length
 ·have he:(bK r.calls ns 0 3155932800).2=5:=by unfold bK;rw[if_pos hc]
  have hr5:De ns r=5:=he
  rw[hr5] at this
  (repeat' split at this)<;>simp_all
 ·omega
section
variable{z:T aa}{zn:Nat}
theorem KG(hz:aw z zn)(hg:fq prog z gP)(N:aq)(L:List aI)(hN:N.nl=L.length)(hL:bP z 0 (L.map aI.row))(i:Nat)(x:aI)(hx:L[i]? =some x):
 A1 z zn 74 [.agg ⟨N.ed an N.l1⟩,iv i] [] 0 0 (zv (iV [] L i x)) []:=by
 have hi:i<L.length:=(List.getElem?_eq_some_iff.1 hx).1
 obtain⟨el,hel⟩:=hL.az (i:=i) (by simp;omega)
 have hlen:=aO (row:=aI.row) (sz:=5) L fun _=>rfl
 have hrow:ai prog (bk el (L.map aI.row).flatten) 127 (0+i*5)=some (.agg ⟨x.row⟩):=bG (r:=x.row) (sz:=5) underlying127 rfl rfl hlen (by rw[List.getElem?_map,hx];rfl)
 have he:iV [] L i x=9:=by unfold iV;rw[if_pos (by simp;omega)]
 have hin:gP 119 [zv x.fz1, .int .i64 0, .int .i64 (-1)]=some (.bool false):=by
  show some (Value.bool (decide (0<=x.fz1) && decide (x.fz1<= -1)))=_
  have:(decide (0<=x.fz1) && decide (x.fz1<= -1))=false:=by simp;omega
  rw[this]
 rw[he]
 refine dg hg (fn:=f74) (by kernel_rfl) (by kernel_rfl) hz ⟨by decide,by decide⟩ rfl (abk z zn i N (bk el (L.map aI.row).flatten) x _ ?_)
 (repeat' first|(with_reducible first|exact rfl|assumption|apply And.intro|exact(by omega:i<N.nl))|exact hin|exact q1)
end
end Go.Proofs.Nw
namespace Go.Proofs.Nw
open Go Go.AV Tryz Go.jP
theorem s9{P:Program}{k k':aV}(h:k.cells=k'.cells)(t:TypeId)(off:Nat):ai P k t off=ai P k' t off:=by
 unfold ai;rw[h]
theorem gJ{P:Program}{k:aV}{rows:List (List Value)}(hk:k.cells=rows.flatten){t:TypeId}{d:TypeDesc}{sz:Nat}(hd:P.underlying t=some d)(ha:lz d=true)(hi:(P.info? t).map (·.size)=some sz)(hl: ∀r∈rows,r.length=sz)
 {i:Nat} {r:List Value} (h:rows[i]? =some r):ai P k t (0+i*sz)=some (.agg ⟨r⟩):=by
 rw[s9 (k':=bk 0 rows.flatten) hk];exact bG hd ha hi hl h
theorem mE{P:Program}{k:aV}{rows:List (List Value)}(hk:k.cells=rows.flatten){t:TypeId}{d:TypeDesc}{sz:Nat}(hd:P.underlying t=some d)(ha:lz d=false)(hl: ∀r∈rows,r.length=sz)
 {i j:Nat} {r:List Value} {v:Value} (h:rows[i]? =some r) (hj:r[j]? =some v):ai P k t (0+i*sz+j)=some v:=by
 rw[s9 (k':=bk 0 rows.flatten) hk];exact aT hd ha hl h hj
theorem jT{P:Program}{k:aV}{t:TypeId}{d:TypeDesc}(hd:P.underlying t=some d)(ha:lz d=false){i:Nat}{v:Value}(h:k.cells[i]? =some v):ai P k t (0+i*1)=some v:=by
 unfold ai
 simp only[hd,ha]
 rw[ss,Nat.zero_add,Nat.mul_one,h]
theorem kh{sz:Nat}: ∀{rows:List (List Value)},(∀r∈rows,r.length=sz)->rows.flatten.length=rows.length*sz
 |[],_=>by simp
 |r::l,h=>by
  rw[List.flatten_cons,List.length_append,kh (rows:=l) fun x hx=>h x (List.mem_cons_of_mem _ hx),h r (List.mem_cons_self ..),List.length_cons,Nat.succ_mul];omega
theorem vz: ∀(a:List Value) {b c vs:List Value} {n:Nat},overwrite b n vs=some c->overwrite (a++b) (a.length+n) vs=some (a++c)
 |[],b,c,vs,n,h=>by simpa using h
 |x::a,b,c,vs,n,h=>by
  have:=vz a h
  have e:(x::a).length+n=(a.length+n)+1:=by simp;omega
  rw[e,List.cons_append]
  cases vs with
  |nil=>simp only[overwrite,this];rfl
  |cons v vs=>simp only[overwrite,this];rfl
theorem oI: ∀(r r' b:List Value),r.length=r'.length->overwrite (r++b) 0 r'=some (r'++b)
 |[],[],b,_=>by cases b<;>rfl
 |x::r,y::r',b,h=>by
  simp only[List.cons_append,overwrite]
  rw[oI r r' b (by simpa using h)]
theorem vy{sz:Nat}{rows:List (List Value)}(hl: ∀r∈rows,r.length=sz){i:Nat}(hi:i<rows.length){r':List Value}(hr:r'.length=sz):overwrite rows.flatten (0+i*sz) r'=some (rows.set i r').flatten:=by
 have e1:rows=rows.take i++rows[i]::rows.drop (i+1):=by
  rw[List.getElem_cons_drop,List.take_append_drop]
 have e2:rows.set i r'=rows.take i++r'::rows.drop (i+1):=List.set_eq_take_append_cons_drop.trans (by rw[if_pos hi])
 have hlen:(rows.take i).flatten.length=i*sz:=by
  rw[kh (fun r hr=>hl r (List.mem_of_mem_take hr)),List.length_take,Nat.min_eq_left (by omega)]
 rw[e2]
 conv=>lhs;rw[e1]
 rw[List.flatten_append,List.flatten_append,List.flatten_cons,List.flatten_cons,Nat.zero_add,←hlen]
 exact vz _ (oI _ _ _ (by rw[hl _ (List.getElem_mem hi),hr]))
theorem nI{cs:List Value}{i:Nat}(hi:i<cs.length)(v:Value):overwrite cs (0+i*1) [v]=some (cs.set i v):=by
 have e1:cs=cs.take i++cs[i]::cs.drop (i+1):=by
  rw[List.getElem_cons_drop,List.take_append_drop]
 have e2:cs.set i v=cs.take i++v::cs.drop (i+1):=List.set_eq_take_append_cons_drop.trans (by rw[if_pos hi])
 rw[e2]
 conv=>lhs;rw[e1]
 have hlen:(cs.take i).length=i:=by rw[List.length_take,Nat.min_eq_left (by omega)]
 have:=vz (cs.take i) (oI [cs[i]] [v] (cs.drop (i+1)) rfl)
 rw[hlen] at this
 rw[Nat.zero_add,Nat.mul_one]
 exact this
theorem jH{α:Type}(row:α->List Value)(l:List α)(i:Nat)(x:α):(l.map row).set i (row x)=(l.set i x).map row:=by
 rw[List.map_set]
theorem de: ∀{l:List Value},bJ l=true↔ ∀v∈l,aC v=true
 |[]=>by simp[bJ]
 |v::l=>by
  simp only[bJ]
  cases hv:aC v with
  |false=>simp[hv]
  |true=>simp[hv,de (l:=l)]
theorem j7{α:Type}{row:α->List Value}(h: ∀x,bJ (row x)=true)(l:List α):bJ (l.map row).flatten=true:=by
 rw[de]
 intro v hv
 obtain⟨r,hr,hv⟩:=List.mem_flatten.1 hv
 obtain⟨x,_,rfl⟩:=List.mem_map.1 hr
 exact de.1 (h x) v hv
theorem cA{σ:Nat->Option Nat}{k:aV}(h:bJ k.cells=true):aD σ (.az k)=some (.az k):=by
 simp only[aD,cQ h]
theorem gV{x:Int}(h1: -4611686018427387904<=x)(h2:x<=4611686018427387904):Value.int .i64 (IntKind.i64.wrap x)=Value.int .i64 x:=by
 have:IntKind.i64.wrap x=x:=by
  simp only[IntKind.wrap,IntKind.signed,IntKind.bits]
  simp
  omega
 rw[this]
def Q2{α:Type}(ff:Nat)(φ:α->Prop)(v:α->Value)(zo:α->bV)(zz:α->T aa)(zn':α->Nat):Value->bV->Nat->T aa->Nat->Prop:=LM ff φ v zo zz zn'
theorem dV{z zg:T aa}{zn:Nat}{g:Nat->List Value->Option Value}(hg:fq prog zg g){f:Nat}{fn:Func}(hfn:prog.funcs[f]? =some fn)(hb:fn.body=some (ag fn)){args:List Value}{aU:bV}(hz:aw z zn){nx ff:Nat}(hnx:nx<=ff/\ff<=cO){α:Type}{φ:α->Prop}{v:α->Value}{zo:α->bV}{zz:α->T aa}{zn':α->Nat}
 (hlow: ∀x,φ x->DH (zo x)=true/\zn<=zn' x/\aw (zz x) (zn' x)) {N:Nat}
 (h: ∃t,dS prog g zg N (ag fn) (yx fn args) (eC z aU nx) zn (Gg prog nx fn (Q2 ff φ v zo zz zn')) t):bb prog z zn f args aU nx ff φ v zo zz zn':=by
 obtain⟨t,ht⟩:=h
 exact Cs hD hg hfn hb hz nx ff hnx _ _ _ _ _ (fun x hx=>⟨ur (hlow x hx).1,(hlow x hx).2.1,(hlow x hx).2.2⟩) ht
theorem q2{α:Type}{ff:Nat}{φ:α->Prop}{v:α->Value}{zo:α->bV}{zz:α->T aa}{zn':α->Nat}(x:α)(h:φ x){u:Value}{aU:bV}{n:Nat}{z':T aa}{m:Nat}(h1:n=ff)(h2:u=v x)(h3:aU=zo x)(h4:z'=zz x)(h5:m=zn' x):Q2 ff φ v zo zz zn' u aU n z' m:=⟨h1,x,h,h2,h3,h4,h5⟩
theorem Ej{α:Type}{φ:α->Prop}{F:α->aA}{k:α->Tr}{l:Al}(x:α)(h:φ x){o:aA}(ho:o=F x):Al.R (.cons α φ F k l) o:= .inl ⟨x,h,ho⟩
end Go.Proofs.Nw
namespace Go.jP
variable{α:Type}
def gT(f:Nat->α)(n:Nat)(x:α):Prop:= ∃i,i<n/\f i=x
def qn(f:Nat->α)(i j:Nat):Nat->α:=fun k=>if k=i then f j else if k=j then f i else f k
theorem uO{f:Nat->α}{n i j:Nat}(hi:i<n)(hj:j<n)(x:α):gT (qn f i j) n x↔gT f n x:=by
 constructor
 ·rintro⟨k,hk,rfl⟩
  unfold qn
  split
  ·exact⟨j,hj,rfl⟩
  ·split
   ·exact⟨i,hi,rfl⟩
   ·exact⟨k,hk,rfl⟩
 ·rintro⟨k,hk,rfl⟩
  by_cases h1:k=i
  ·subst h1
   by_cases h2:j=k
   ·subst h2;exact⟨j,hj,by simp[qn]⟩
   ·exact⟨j,hj,by simp[qn,h2]⟩
  ·by_cases h2:k=j
   ·subst h2;exact⟨i,hi,by simp[qn]⟩
   ·exact⟨k,hk,by simp[qn,h1,h2]⟩
structure Ord(lt:α->α->Bool):Prop where
 asymm: ∀a b,lt a b=true->lt b a=false
 trans: ∀a b c,lt b a=false->lt c b=false->lt c a=false
def ou(lt:α->α->Bool)(f:Nat->α)(n:Nat):Prop:= ∀k,0<k->k<n->lt (f k) (f ((k - 1) / 2))=false
theorem JY{lt:α->α->Bool}(o:Ord lt){f:Nat->α}{n:Nat}(h:ou lt f n): ∀k,k<n->lt (f k) (f 0)=false:=by
 intro k
 induction k using Nat.strongRecOn with
 |ind k ih=>
  intro hk
  by_cases h0:k=0
  ·subst h0
   cases hc:lt (f 0) (f 0) with
   |false=>rfl
   |true=>have:=o.asymm _ _ hc;rw[hc] at this;cases this
  ·exact o.trans _ _ _ (ih ((k - 1) / 2) (by omega) (by omega)) (h k (by omega) hk)
def Mn(lt:α->α->Bool)(f:Nat->α)(n i:Nat):Prop:=
 (∀k,0<k->k<n->k≠i->lt (f k) (f ((k - 1) / 2))=false)/\
 (∀k,0<k->k<n->(k - 1) / 2=i->0<i->lt (f k) (f ((i - 1) / 2))=false)
theorem Ez{lt:α->α->Bool}{f:Nat->α}{n i:Nat}(h:Mn lt f n i)(hi:i=0\/lt (f i) (f ((i - 1) / 2))=false):ou lt f n:=by
 intro k h0 hk
 by_cases hki:k=i
 ·subst hki
  rcases hi with rfl|hi
  ·omega
  ·exact hi
 ·exact h.1 k h0 hk hki
theorem Ey{lt:α->α->Bool}(o:Ord lt){f:Nat->α}{n i:Nat}(h:Mn lt f n i)(h0:0<i)(hi:i<n)(hl:lt (f i) (f ((i - 1) / 2))=true):
 Mn lt (qn f i ((i - 1) / 2)) n ((i - 1) / 2):=by
 have hp:(i - 1) / 2<i:=by omega
 have hpi:(i - 1) / 2≠i:=by omega
 have e1:qn f i ((i - 1) / 2) i=f ((i - 1) / 2):=by simp[qn]
 have e2:qn f i ((i - 1) / 2) ((i - 1) / 2)=f i:=by simp[qn,hpi]
 have e3: ∀k,k≠i->k≠(i - 1) / 2->qn f i ((i - 1) / 2) k=f k:=fun k a b=>by simp[qn,a,b]
 refine⟨fun k k0 kn kne=>?_,fun k k0 kn kp p0=>?_⟩
 ·by_cases hki:k=i
  ·subst hki
   rw[e1,e2];exact o.asymm _ _ hl
  ·rw[e3 k hki kne]
   by_cases hpar:(k - 1) / 2=i
   ·rw[hpar,e1];exact h.2 k k0 kn hpar h0
   ·by_cases hpp:(k - 1) / 2=(i - 1) / 2
    ·rw[hpp,e2]
     have:=h.1 k k0 kn hki
     rw[hpp] at this
     exact o.trans _ _ _ (o.asymm _ _ hl) this
    ·rw[e3 _ hpar hpp];exact h.1 k k0 kn hki
 ·have hg:((i - 1) / 2 - 1) / 2≠i:=by omega
  have hg2:((i - 1) / 2 - 1) / 2≠(i - 1) / 2:=by omega
  rw[e3 _ hg hg2]
  have hpg:=h.1 ((i - 1) / 2) p0 (by omega) hpi
  by_cases hki:k=i
  ·subst hki;rw[e1];exact hpg
  ·have hkp:k≠(i - 1) / 2:=by omega
   rw[e3 k hki hkp]
   have:=h.1 k k0 kn hki
   rw[kp] at this
   exact o.trans _ _ _ hpg this
def rO(lt:α->α->Bool)(f:Nat->α)(n i:Nat):Prop:=
 (∀k,0<k->k<n->(k - 1) / 2≠i->lt (f k) (f ((k - 1) / 2))=false)/\
 (∀k,0<k->k<n->(k - 1) / 2=i->0<i->lt (f k) (f ((i - 1) / 2))=false)
theorem G2{lt:α->α->Bool}{f:Nat->α}{n i:Nat}(h:rO lt f n i)(hc: ∀k,k<n->0<k->(k - 1) / 2=i->lt (f k) (f i)=false):ou lt f n:=by
 intro k h0 hk
 by_cases hp:(k - 1) / 2=i
 ·rw[hp];exact hc k hk h0 hp
 ·exact h.1 k h0 hk hp
theorem G1{lt:α->α->Bool}(o:Ord lt){f:Nat->α}{n i c:Nat}(h:rO lt f n i)(h0:0<c)(hc:c<n)(hp:(c - 1) / 2=i)(hl:lt (f c) (f i)=true)
 (hmin: ∀k,k<n->0<k->(k - 1) / 2=i->lt (f k) (f c)=false):
 rO lt (qn f i c) n c:=by
 have hci:c≠i:=by omega
 have e1:qn f i c i=f c:=by simp[qn]
 have e2:qn f i c c=f i:=by simp[qn,hci]
 have e3: ∀k,k≠i->k≠c->qn f i c k=f k:=fun k a b=>by simp[qn,a,b]
 refine⟨fun k k0 kn kne=>?_,fun k k0 kn kp p0=>?_⟩
 ·by_cases hkc:k=c
  ·subst hkc
   rw[e2,hp,e1];exact o.asymm _ _ hl
  ·by_cases hki:k=i
   ·subst hki
    have hne:(k - 1) / 2≠k:=by omega
    rw[e1,e3 _ hne kne]
    exact h.2 c h0 hc hp k0
   ·rw[e3 k hki hkc]
    by_cases hpar:(k - 1) / 2=i
    ·rw[hpar,e1];exact hmin k kn k0 hpar
    ·rw[e3 _ hpar kne];exact h.1 k k0 kn hpar
 ·have hki:k≠i:=by omega
  have hkc:k≠c:=by omega
  rw[e3 k hki hkc,hp,e1]
  have:=h.1 k k0 kn (by omega)
  rw[kp] at this
  exact this
theorem DZ{lt:α->α->Bool}{f:Nat->α}{n:Nat}(h:ou lt f (n+1)):rO lt (qn f 0 n) n 0:=by
 refine⟨fun k k0 kn kne=>?_,fun k k0 kn kp p0=>by omega⟩
 have e3: ∀k,k≠0->k≠n->qn f 0 n k=f k:=fun k a b=>by simp[qn,a,b]
 rw[e3 k (by omega) (by omega),e3 _ kne (by omega)]
 exact h k k0 (by omega)
theorem Io{f:Nat->α}{n:Nat}(x:α):gT (qn f 0 n) n x↔ ∃i,0<i/\i<n+1/\f i=x:=by
 constructor
 ·rintro⟨k,hk,rfl⟩
  unfold qn
  split
  ·exact⟨n,by omega,by omega,rfl⟩
  ·split
   ·omega
   ·exact⟨k,by omega,by omega,rfl⟩
 ·rintro⟨k,k0,hk,rfl⟩
  by_cases h:k=n
  ·subst h;exact⟨0,k0,by simp[qn]⟩
  ·exact⟨k,by omega,by simp[qn,h,Nat.ne_of_gt k0]⟩
theorem AT{lt:α->α->Bool}{f:Nat->α}{n:Nat}(h:ou lt f n)(x:α):Mn lt (fun k=>if k=n then x else f k) (n+1) n:=by
 refine⟨fun k k0 kn kne=>?_,fun k k0 kn kp p0=>by omega⟩
 simp only
 rw[if_neg kne,if_neg (by omega)]
 exact h k k0 (by omega)
end Go.jP
namespace Go.Proofs.Nw
open Go Go.AV Tryz Go.jP
set_option maxHeartbeats 4000000
set_option maxRecDepth 100000
def nd0:cx:=⟨⟨0,0,0⟩,0⟩
def hf(ms:List cx)(k:Nat):cx:=ms[k]?.getD nd0
def AH(ms:List cx)(i k:Nat):List cx:=(ms.set i (hf ms k)).set k (hf ms i)
theorem RB{ms:List cx}{k:Nat}(h:k<ms.length):ms[k]? =some (hf ms k):=by
 unfold hf;rw[List.getElem?_eq_getElem h];rfl
theorem mq(ms:List cx)(i k:Nat):(AH ms i k).length=ms.length:=by simp[AH]
theorem nR{ms:List cx}{i k:Nat}(hi:i<ms.length)(hk:k<ms.length):hf (AH ms i k)=qn (hf ms) i k:=by
 funext j
 unfold qn hf AH
 rw[List.getElem?_set,List.getElem?_set,List.length_set]
 by_cases h1:k=j
 ·subst h1
  by_cases h2:k=i
  ·subst h2;simp[hk,hf]
  ·simp[h2,hk,hf]
 ·have h1': ¬j=k:=fun e=>h1 e.symm
  by_cases h2:i=j
  ·subst h2;simp[h1,hi];rfl
  ·have h2': ¬j=i:=fun e=>h2 e.symm
   simp[h1,h1',h2,h2']
theorem yj(a b:cS):pq a b=true↔a.len<b.len\/(a.len=b.len/\a.gq<b.gq):=by
 unfold pq;simp
theorem n7(a b:cx):dU a b=true↔a.x.len<b.x.len\/(a.x.len=b.x.len/\(a.x.gq<b.x.gq\/(a.x.gq=b.x.gq/\a.num<b.num))):=by
 unfold dU
 rw[Bool.or_eq_true,Bool.and_eq_true,yj,Bool.not_eq_true',decide_eq_true_eq]
 have h:pq b.x a.x=false↔ ¬(b.x.len<a.x.len\/(b.x.len=a.x.len/\b.x.gq<a.x.gq)):=by
  rw[←yj];simp
 rw[h]
 omega
theorem jk:Ord dU:=by
 refine⟨fun a b h=>?_,fun a b c h1 h2=>?_⟩
 ·rw[n7] at h
  cases hc:dU b a with
  |false=>rfl
  |true=>rw[n7] at hc;omega
 ·cases hc:dU c a with
  |false=>rfl
  |true=>
   have n1: ¬dU b a=true:=by rw[h1];simp
   have n2: ¬dU c b=true:=by rw[h2];simp
   rw[n7] at n1 n2 hc
   omega
theorem u7(ms:List cx): ∀r∈ms.map cx.row,r.length=4:=aO ms fun _=>rfl
theorem oC(ms:List cx):(aG ms).length=ms.length*4:=by rw[kh (u7 ms),List.length_map]
theorem s8(ms:List cx):bJ (aG ms)=true:=j7 (fun _=>rfl) ms
theorem QW{σ:Nat->Option Nat}(ms:List cx)(c:Nat):aD σ (dZ (aG ms) c)=some (dZ (aG ms) c):=cA (s8 ms)
theorem cE{σ:Nat->Option Nat}(ms:List cx)(c:Nat):aD σ (aa.az (aV.mk (aG ms) c 4 339 false false 0 true))=some (aa.az (aV.mk (aG ms) c 4 339 false false 0 true)):=cA (s8 ms)
theorem Pn{ms:List cx}{i:Nat}(h:i<ms.length)(c:Nat):ai prog (aV.mk (aG ms) c 4 339 false false 0 true) 339 (0+i*4)=some (.agg ⟨(hf ms i).row⟩):=
 gJ (rows:=ms.map cx.row) rfl underlying339 rfl rfl (u7 ms) (by rw[List.getElem?_map,RB h];rfl)
theorem I2{ms:List cx}{i:Nat}(h:i<ms.length)(a:cx):overwrite (aG ms) (0+i*4) a.row=some (aG (ms.set i a)):=by
 have:=vy (u7 ms) (i:=i) (by simpa using h) (r':=a.row) rfl
 rw[jH] at this
 exact this
theorem c7(z:T aa):fq prog z gH:=by
 intro f args v h
 unfold gH at h
 split at h
 ·rename_i a b c d e f
  cases h
  refine cz ?_ rfl rfl
  refine aK1 (bC (zg:= .leaf)) (fn:=f239) jt (VN .leaf 0 ⟨a,b,c⟩ ⟨d,e,f⟩ _ ?_)
  (repeat' first|(with_reducible first|exact rfl|apply And.intro|exact jt)|intro hq)
  all_goals (refine qh ?_;unfold pq;simp_all)
 ·cases h
section
variable{z:T aa}{zn:Nat}
theorem Wh(hz:aw z zn):A1 z zn 238 [JK] [] 0 1 (ip 0) [(0,eJ an 0)]:=by
 refine aK1 (RD (z:=z)) (fn:=f238) hz (pR z zn _ ?_)
 (repeat' first|(with_reducible first|exact rfl|assumption|apply And.intro)|exact q1)
theorem wz(hz:aw z zn)(ms:List cx)(i k n c cc:Nat)(p:Int)(hi:i<n)(hk:k<n)(hn:n<=ms.length):
 A1 z zn 250 [ip 0,iv i,iv k] [(0,eJ (bd 1 n c) p),(1,dZ (aG ms) cc)] 2 2 (.bool (dU (hf ms i) (hf ms k))) [(0,eJ (bd 1 n c) p),(1,dZ (aG ms) cc)]:=by
 refine aK1 (c7 z) (fn:=f250) hz (aa3 z zn i k n c cc p (hf ms i) (hf ms k) (aG ms) _ ?_)
 (repeat' first|(with_reducible first|exact rfl|assumption|apply And.intro|exact Pn (by omega) _|exact cE _ _)|exact(rfl:gH _ _=_)|intro hq)
 all_goals first
  |(refine qh ?_
    unfold dU
    simp_all;done)
theorem Af(hz:aw z zn)(ms:List cx)(i k n c cc:Nat)(p:Int)(hi:i<n)(hk:k<n)(hn:n<=ms.length)(hc:ms.length*4<=cc):
 A1 z zn 251 [ip 0,iv i,iv k] [(0,eJ (bd 1 n c) p),(1,dZ (aG ms) cc)] 2 2 (.tuple ⟨[]⟩) [(0,eJ (bd 1 n c) p),(1,dZ (aG (AH ms i k)) cc)]:=by
 have h1:=I2 (ms:=ms) (i:=i) (by omega) (hf ms k)
 have h2:=I2 (ms:=ms.set i (hf ms k)) (i:=k) (by simp;omega) (hf ms i)
 have l1:(aG (ms.set i (hf ms k))).length<=cc:=by rw[oC];simp;exact hc
 have l2:(aG (AH ms i k)).length<=cc:=by rw[oC,mq];exact hc
 refine aK1 (c7 z) (fn:=f251) hz (aaY z zn i k n c cc p (hf ms i) (hf ms k) (aG ms) (aG (ms.set i (hf ms k))) (aG (AH ms i k)) _ ?_)
 (repeat' first|(with_reducible first|exact rfl|assumption|apply And.intro|exact Pn (by omega) _|exact cE _ _)|exact h2|exact q1)
end
def upφ(ms:List cx)(m:Nat)(ms':List cx):Prop:=ms'.length=ms.length/\ou dU (hf ms') m/\ ∀v,gT (hf ms') m v↔gT (hf ms) m v
theorem Pg{i:Nat}(h:0<i):((i:Int) - 1).tdiv 2=(((i - 1) / 2:Nat):Int):=by
 rw[show(i:Int) - 1=((i - 1:Nat):Int) by omega]
 rw[Int.tdiv_eq_ediv_of_nonneg (by omega)]
 omega
section
variable{z:T aa}{zn:Nat}
theorem BN(hz:aw z zn)(ms:List cx)(m i c cc:Nat)(p:Int)(hi:i<m)(hm:m<=ms.length)(hc:ms.length*4<=cc)(hs:m<100000000)(hU:Mn dU (hf ms) m i):
 aj prog (ah (ag f240) 0) 4 54 (sy i) [(0,eJ (bd 4 m c) p),(4,dZ (aG ms) cc)] (4+1) z zn (Al.R (Nh z zn 4 i m c cc p (aG ms) (upφ ms m)).l):=by
 refine ax hD (c7 z) (α:=Nat × List cx) 4 54 (4+1) (fun x=>x.1<m/\x.2.length=ms.length/\Mn dU (hf x.2) m x.1/\ ∀v,gT (hf x.2) m v↔gT (hf ms) m v) (fun x=>sy x.1) (fun x=>[(0,eJ (bd 4 m c) p),(4,dZ (aG x.2) cc)]) (fun _=>z) (fun _=>zn) (fun x=>x.1) _ (fun x hI=>?_) (i,ms) ⟨hi,rfl,hU,fun _=>Iff.rfl⟩
 obtain⟨i,ms'⟩:=x
 obtain⟨h1,h2,h3,h4⟩:=hI
 simp only at h1 h2 h3 h4 ⊢
 have out:(i=0\/dU (hf ms' i) (hf ms' ((i - 1) / 2))=false)->Al.R (Nh z zn 4 i m c cc p (aG ms) (upφ ms m)).l ⟨.exit 0,[(0,ip 0)],[(0,eJ (bd 4 m c) p),(4,dZ (aG ms') cc)],4+1,z,zn⟩:=fun h=>Ej ms' ⟨h2,Ez h3 h,h4⟩ rfl
 by_cases h0:0<i
 ·have hlt:(i - 1) / 2<i:=by omega
  have b1:=wz hz ms' i ((i - 1) / 2) m c cc p h1 (by omega) (by omega)
  have s1:=Af hz ms' i ((i - 1) / 2) m c cc p h1 (by omega) (by omega) (by omega)
  have e1:=cE (σ:=sig [(0,0),(1,4)]) ms' cc
  have w1:Value.int .i64 (IntKind.i64.wrap ((i:Int) - 1))=Value.int .i64 ((i:Int) - 1):=gV (by omega) (by omega)
  have w2:Value.int .i64 (IntKind.i64.wrap (((i - 1) / 2:Nat):Int))=Value.int .i64 (((i - 1) / 2:Nat):Int):=gV (by omega) (by omega)
  refine t100 (VK z zn i m c cc p (fun x y=>dU (hf ms' x.toNat) (hf ms' y.toNat)) (fun x y=>aG (AH ms' x.toNat y.toNat)) (aG ms') (au _ _ _ _ _ _ _ _ _) ?_)
  rw[Pg h0]
  have hc0:decide ((i:Int)>0)=true:=by simp;omega
  refine⟨fun _=>?_,nC1 hc0⟩
  simp only[Int.toNat_natCast]
  (repeat' first|(with_reducible first|exact rfl|exact True.intro|assumption|apply And.intro|exact cE _ _)|exact b1|exact s1|intro hq)
  ·refine⟨((i - 1) / 2,AH ms' i ((i - 1) / 2)),rfl,rfl,rfl,rfl,rfl,⟨by simp only;omega,by simp only[mq];exact h2,?_,fun v=>?_⟩,hlt⟩
   ·simp only
    rw[nR (by omega) (by omega)]
    exact Ey jk h3 h0 h1 (by assumption)
   ·simp only
    rw[nR (by omega) (by omega),uO h1 (by omega)]
    exact h4 v
  ·exact out (.inr (by with_reducible assumption))
 ·have hi0:i=0:=by omega
  subst hi0
  refine t100 (VK z zn 0 m c cc p (fun x y=>false) (fun x y=>[]) (aG ms') (au _ _ _ _ _ _ _ _ _) ⟨fun h=>(by simp at h),fun _=>?_⟩)
  (repeat' first|(with_reducible first|exact rfl|assumption|apply And.intro|exact cE _ _))
  ·exact out (.inl rfl)
theorem Jo(hz:aw z zn)(ms:List cx)(m i c cc:Nat)(p:Int)(hi:i<m)(hm:m<=ms.length)(hc:ms.length*4<=cc)(hs:m<100000000)(hU:Mn dU (hf ms) m i):
 aj prog (ah (ag f240) 0) 5 54 (sy i) [(0,eJ (bd 5 m c) p),(5,dZ (aG ms) cc)] (5+1) z zn (Al.R (Nh z zn 5 i m c cc p (aG ms) (upφ ms m)).l):=by
 refine ax hD (c7 z) (α:=Nat × List cx) 5 54 (5+1) (fun x=>x.1<m/\x.2.length=ms.length/\Mn dU (hf x.2) m x.1/\ ∀v,gT (hf x.2) m v↔gT (hf ms) m v) (fun x=>sy x.1) (fun x=>[(0,eJ (bd 5 m c) p),(5,dZ (aG x.2) cc)]) (fun _=>z) (fun _=>zn) (fun x=>x.1) _ (fun x hI=>?_) (i,ms) ⟨hi,rfl,hU,fun _=>Iff.rfl⟩
 obtain⟨i,ms'⟩:=x
 obtain⟨h1,h2,h3,h4⟩:=hI
 simp only at h1 h2 h3 h4 ⊢
 have out:(i=0\/dU (hf ms' i) (hf ms' ((i - 1) / 2))=false)->Al.R (Nh z zn 5 i m c cc p (aG ms) (upφ ms m)).l ⟨.exit 0,[(0,ip 0)],[(0,eJ (bd 5 m c) p),(5,dZ (aG ms') cc)],5+1,z,zn⟩:=fun h=>Ej ms' ⟨h2,Ez h3 h,h4⟩ rfl
 by_cases h0:0<i
 ·have hlt:(i - 1) / 2<i:=by omega
  have b1:=wz hz ms' i ((i - 1) / 2) m c cc p h1 (by omega) (by omega)
  have s1:=Af hz ms' i ((i - 1) / 2) m c cc p h1 (by omega) (by omega) (by omega)
  have e1:=cE (σ:=sig [(0,0),(1,5)]) ms' cc
  have w1:Value.int .i64 (IntKind.i64.wrap ((i:Int) - 1))=Value.int .i64 ((i:Int) - 1):=gV (by omega) (by omega)
  have w2:Value.int .i64 (IntKind.i64.wrap (((i - 1) / 2:Nat):Int))=Value.int .i64 (((i - 1) / 2:Nat):Int):=gV (by omega) (by omega)
  refine t100 (VI z zn i m c cc p (fun x y=>dU (hf ms' x.toNat) (hf ms' y.toNat)) (fun x y=>aG (AH ms' x.toNat y.toNat)) (aG ms') (au _ _ _ _ _ _ _ _ _) ?_)
  rw[Pg h0]
  have hc0:decide ((i:Int)>0)=true:=by simp;omega
  refine⟨fun _=>?_,nC1 hc0⟩
  simp only[Int.toNat_natCast]
  (repeat' first|(with_reducible first|exact rfl|exact True.intro|assumption|apply And.intro|exact cE _ _)|exact b1|exact s1|intro hq)
  ·refine⟨((i - 1) / 2,AH ms' i ((i - 1) / 2)),rfl,rfl,rfl,rfl,rfl,⟨by simp only;omega,by simp only[mq];exact h2,?_,fun v=>?_⟩,hlt⟩
   ·simp only
    rw[nR (by omega) (by omega)]
    exact Ey jk h3 h0 h1 (by assumption)
   ·simp only
    rw[nR (by omega) (by omega),uO h1 (by omega)]
    exact h4 v
  ·exact out (.inr (by with_reducible assumption))
 ·have hi0:i=0:=by omega
  subst hi0
  refine t100 (VI z zn 0 m c cc p (fun x y=>false) (fun x y=>[]) (aG ms') (au _ _ _ _ _ _ _ _ _) ⟨fun h=>(by simp at h),fun _=>?_⟩)
  (repeat' first|(with_reducible first|exact rfl|assumption|apply And.intro|exact cE _ _))
  ·exact out (.inl rfl)
def pushφ(s:rW)(x:cS)(ms':List cx):Prop:=s.n+1<=ms'.length/\ms'.length<=s.ms.length+1/\ou dU (hf ms') (s.n+1)/\ ∀v,gT (hf ms') (s.n+1) v↔v=⟨x,s.p⟩\/gT (hf s.ms) s.n v
structure wT(s:rW):Prop where
 len:s.n<=s.ms.length
 heap:ou dU (hf s.ms) s.n
 p0:0<=s.p
 pb:s.p<=1000000
 lp:(s.ms.length:Int)<=s.p
theorem Ew{f g:Nat->cx}{n:Nat}{x:cx}(h: ∀k,k<n->g k=f k)(hn:g n=x)(v:cx):gT g (n+1) v↔v=x\/gT f n v:=by
 constructor
 ·rintro⟨k,hk,rfl⟩
  by_cases e:k=n
  ·subst e;exact .inl hn
  ·exact .inr ⟨k,by omega,(h k (by omega)).symm⟩
 ·rintro (rfl|⟨k,hk,rfl⟩)
  ·exact⟨n,by omega,hn⟩
  ·exact⟨k,by omega,h k hk⟩
theorem Ow(hz:aw z zn)(x:cS):A1 z zn 240 [ip 0, .agg ⟨x.row⟩] [(0,eJ an 0)] 1 2 (.tuple ⟨[]⟩) [(0,eJ (bd 1 1 1) 1),(1,dZ (cx.row ⟨x,0⟩) 4)]:=by
 have hK:=BN hz [⟨x,0⟩] 1 0 1 4 1 (by omega) (by simp) (by simp) (by omega) ⟨fun k h0 hk=>by omega,fun k h0 hk=>by omega⟩
 have w1:Value.int .i64 (IntKind.i64.wrap ((0:Int)+1))=Value.int .i64 ((0:Int)+1):=gV (by omega) (by omega)
 refine aK1 (c7 z) (fn:=f240) hz (aa2 z zn x 0 (upφ [⟨x,0⟩] 1) _ ?_)
 (repeat' first|(with_reducible first|exact rfl|assumption|apply And.intro|exact cE _ _)|exact hK|intro hq)
 all_goals
  rename_i ms
  obtain⟨k1,k2,k3⟩:=hq
  obtain⟨j,hj,hv⟩:=(k3 ⟨x,0⟩).2 ⟨0,by omega,rfl⟩
  have hj0:j=0:=by omega
  subst hj0
  have:ms=[⟨x,0⟩]:=by
   match ms,k1 with
   |[a],_=>exact congrArg (fun y=>[y]) hv
  subst this
  exact q1
theorem Ox(hz:aw z zn)(n:Nat)(ms:List cx)(p:Int)(hs:wT ⟨n,ms,p⟩)(h1:1<=ms.length)(hp:p+1<=1000000)(x:cS):
 aF prog z zn 240 [ip 0, .agg ⟨x.row⟩] [(0,eJ (bd 1 n ms.length) p),(1,dZ (aG ms) (ms.length*4))] 2 3 (pushφ ⟨n,ms,p⟩ x) (fun _=> .tuple ⟨[]⟩) (fun ms=>[(0,eJ (bd 2 (n+1) ms.length) (p+1)),(2,dZ (aG ms) (ms.length*4))]):=by
 obtain⟨q1,q2',q3,q4,q5⟩:=hs
 simp only at q1 q2' q3 q4 q5
 have w1:Value.int .i64 (IntKind.i64.wrap (p+1))=Value.int .i64 (p+1):=gV (by omega) (by omega)
 have w2:Value.int .i64 (IntKind.i64.wrap ((↑(n+1):Int) - 1))=Value.int .i64 ((↑(n+1):Int) - 1):=gV (by omega) (by omega)
 have w3:(some (Value.int IntKind.i64 (↑n:Int)):Option Value)=some (Value.int IntKind.i64 ((↑(n+1):Int) - 1)):=by congr 2;omega
 have low: ∀ms':List cx,pushφ ⟨n,ms,p⟩ x ms'->DH [(0,eJ (bd 2 (n+1) ms'.length) (p+1)),(2,dZ (aG ms') (ms'.length*4))]=true/\zn<=zn/\aw z zn:=fun _ _=>⟨rfl,Nat.le_refl _,hz⟩
 by_cases hlt:n<ms.length
 ·
  have hset: ∀k,hf (ms.set n ⟨x,p⟩) k=if k=n then ⟨x,p⟩ else hf ms k:=fun k=>by
   unfold hf
   rw[List.getElem?_set]
   by_cases e:n=k
   ·subst e;simp[hlt]
   ·have e': ¬k=n:=fun h=>e h.symm
    simp[e,e']
  have hU:Mn dU (hf (ms.set n ⟨x,p⟩)) (n+1) n:=by
   rw[show hf (ms.set n ⟨x,p⟩)=fun k=>if k=n then ⟨x,p⟩ else hf ms k from funext hset]
   exact AT q2' _
  have hK:=BN hz (ms.set n ⟨x,p⟩) (n+1) n ms.length (ms.length*4) (p+1) (by omega) (by simp;omega) (by simp) (by omega) (by exact hU)
  have o1:=I2 (i:=n) hlt ⟨x,p⟩
  have l1:(aG (ms.set n ⟨x,p⟩)).length<=ms.length*4:=by rw[oC];simp
  refine dV (c7 z) (fn:=f240) (by kernel_rfl) (by kernel_rfl) hz ⟨by decide,by decide⟩ low (N:=100) ?_
  refine aa1 z zn n ms.length (ms.length*4) x p (aG ms) (aG (ms.set n ⟨x,p⟩)) (upφ (ms.set n ⟨x,p⟩) (n+1)) _ ?_
  (repeat' first|(with_reducible first|exact rfl|assumption|apply And.intro|exact cE _ _|exact(by omega:n+1<=ms.length))|exact hK|intro hq)
  all_goals
   rename_i ms'
   obtain⟨k1,k2,k3⟩:=hq
   rw[List.length_set] at k1
   have hv: ∀v,gT (hf ms') (n+1) v↔v=⟨x,p⟩\/gT (hf ms) n v:=fun v=>(k3 v).trans (Ew (fun k hk=>by rw[hset,if_neg (by omega)]) (by rw[hset,if_pos rfl]) v)
   exact q2 ms' ⟨by show n+1<=ms'.length;omega,by show ms'.length<=ms.length+1;omega,k2,hv⟩ rfl rfl (by rw[←k1];rfl) rfl rfl
 ·have hn:n=ms.length:=by omega
  have hset: ∀k,hf (ms++[⟨x,p⟩]) k=if k=n then ⟨x,p⟩ else hf ms k:=fun k=>by
   unfold hf
   rw[List.getElem?_append]
   by_cases e:k=n
   ·subst e;rw[if_neg (by omega),if_pos rfl,hn];simp
   ·rw[if_neg e]
    by_cases e2:k<ms.length
    ·rw[if_pos e2]
    ·rw[if_neg e2,List.getElem?_eq_none (by omega:ms.length<=k),List.getElem?_eq_none (by simp;omega)]
  have hU:Mn dU (hf (ms++[⟨x,p⟩])) (n+1) n:=by
   rw[show hf (ms++[⟨x,p⟩])=fun k=>if k=n then ⟨x,p⟩ else hf ms k from funext hset]
   exact AT q2' _
  have hK:=Jo hz (ms++[⟨x,p⟩]) (n+1) n (n+1) ((n+1)*4) (p+1) (by omega) (by simp;omega) (by simp;omega) (by omega) (by exact hU)
  have o1:aG ms++cx.row ⟨x,p⟩=aG (ms++[⟨x,p⟩]):=by
   show _=((ms++[(⟨x,p⟩:cx)]).map cx.row).flatten
   rw[List.map_append,List.flatten_append];rfl
  rw[←o1] at hK
  have l1:(aG ms).length=n*4:=by rw[oC,hn]
  have l2:ms.length*4=n*4:=by rw[hn]
  have r1:=cE (σ:=ay [(0,0),(5,4)] []) (ms++[⟨x,p⟩]) ((n+1)*4)
  rw[←o1] at r1
  rw[show eJ (bd 1 n ms.length) p=eJ (bd 1 n n) p by rw[←hn]]
  refine dV (c7 z) (fn:=f240) (by kernel_rfl) (by kernel_rfl) hz ⟨by decide,by decide⟩ low (N:=100) ?_
  refine aa0 z zn n (ms.length*4) x p (aG ms) (upφ (ms++[⟨x,p⟩]) (n+1)) _ ?_
  (repeat' first|(with_reducible first|exact rfl|assumption|apply And.intro|exact cE _ _|exact(by omega:n+1<=1048576))|exact hK|intro hq)
  all_goals
   rename_i ms'
   obtain⟨k1,k2,k3⟩:=hq
   rw[List.length_append,List.length_singleton,←hn] at k1
   have hv: ∀v,gT (hf ms') (n+1) v↔v=⟨x,p⟩\/gT (hf ms) n v:=fun v=>(k3 v).trans (Ew (fun k hk=>by rw[hset,if_neg (by omega)]) (by rw[hset,if_pos rfl]) v)
   exact q2 ms' ⟨by show n+1<=ms'.length;omega,by show ms'.length<=ms.length+1;omega,k2,hv⟩ rfl rfl (by rw[←k1];rfl) rfl rfl
theorem Sp(hz:aw z zn)(s:rW)(hs:wT s)(h1:1<=s.ms.length)(hp:s.p+1<=1000000)(x:cS):
 aF prog z zn 240 [ip 0, .agg ⟨x.row⟩] [(0,yu 1 s),(1,xL s)] 2 3 (pushφ s x) (fun _=> .tuple ⟨[]⟩) (fun ms=>[(0,eJ (bd 2 (s.n+1) ms.length) (s.p+1)),(2,dZ (aG ms) (ms.length*4))]):=Ox hz s.n s.ms s.p hs h1 hp x
end
def skφ(ms:List cx)(n:Nat)(ms':List cx):Prop:=ms'.length=ms.length/\ou dU (hf ms') n/\ ∀v,gT (hf ms') n v↔gT (hf ms) n v
theorem irr(a:cx):dU a a=false:=by
 cases h:dU a a with
 |false=>rfl
 |true=>rw[n7] at h;omega
section
variable{z:T aa}{zn:Nat}
theorem Wl(hz:aw z zn)(n c cc:Nat)(p:Int)(ms:List cx):A1 z zn 255 [ip 0] [(0,eJ (bd 1 n c) p),(1,dZ (aG ms) cc)] 2 2 (iv n) [(0,eJ (bd 1 n c) p),(1,dZ (aG ms) cc)]:=by
 refine aK1 (c7 z) (fn:=f255) hz (N:=100) ?_
 refine hlen z zn n c cc p (aG ms) _ ?_
 (repeat' first|(with_reducible first|exact rfl|assumption|apply And.intro|exact cE _ _)|exact q1)
theorem UP{ms:List cx}(h:0<ms.length)(c:Nat):ai prog (aV.mk (aG ms) c 4 339 false false 0 true) 322 0=some (.agg ⟨(hf ms 0).x.row⟩):=by
 cases ms with
 |nil=>simp at h
 |cons a l=>rfl
theorem KL(hz:aw z zn)(n c cc:Nat)(p:Int)(ms:List cx)(hn:n<=ms.length)(a:cS)(ha:a=if n=0 then ⟨0,0,0⟩ else (hf ms 0).x):A1 z zn 252 [ip 0] [(0,eJ (bd 1 n c) p),(1,dZ (aG ms) cc)] 2 2 (.tuple ⟨[.agg ⟨a.row⟩, .bool (decide (0<n))]⟩) [(0,eJ (bd 1 n c) p),(1,dZ (aG ms) cc)]:=by
 have hl:=Wl hz n c cc p ms
 refine aK1 (c7 z) (fn:=f252) hz (N:=100) ?_
 refine hpk z zn n c cc p a (aG ms) _ ?_
 by_cases h0:n=0
 ·subst h0
  have hc:(((0:Nat):Int)==0)=true:=rfl
  (repeat' first|(with_reducible first|exact rfl|assumption|apply And.intro|exact cE _ _)|exact(rfl:Int.ofNat _=_)|exact hl|intro hq)
  all_goals first
   |(rw[hc] at hq;cases hq;done)
   |(refine qh ?_
     rw[ha,if_pos rfl];rfl)
 ·have hc:((n:Int)==0)=false:=by simp;omega
  have hr:a=(hf ms 0).x:=by rw[ha,if_neg h0]
  have r3:=UP (ms:=ms) (by omega) cc
  rw[←hr] at r3
  (repeat' first|(with_reducible first|exact rfl|assumption|apply And.intro|exact cE _ _|exact(by omega:0<n))|exact(rfl:Int.ofNat _=_)|exact hl|intro hq)
  all_goals first
   |(rw[hc] at hq;cases hq;done)
   |(refine qh ?_
     rw[show decide (0<n)=true by simp;omega];done)
   |skip
theorem Np(hz:aw z zn)(ms:List cx)(n c cc:Nat)(p:Int)(hn:n<=ms.length)(hc:ms.length*4<=cc)(hs:n<100000000)(hU:rO dU (hf ms) n 0):
 aj prog (ah (ag f253) 0) 2 41 (BB 0) [(0,eJ (bd 1 n c) p),(1,dZ (aG ms) cc)] 2 z zn (Al.R (Rh z zn 0 n c cc p (aG ms) (skφ ms n)).l):=by
 refine ax hD (c7 z) (α:=Nat × List cx) 2 41 2 (fun x=>(x.1<n\/(x.1=0/\n=0))/\x.2.length=ms.length/\rO dU (hf x.2) n x.1/\ ∀v,gT (hf x.2) n v↔gT (hf ms) n v) (fun x=>BB x.1) (fun x=>[(0,eJ (bd 1 n c) p),(1,dZ (aG x.2) cc)]) (fun _=>z) (fun _=>zn) (fun x=>n - x.1) _ (fun x hI=>?_) (0,ms) ⟨by show 0<n\/(0=0/\n=0);omega,rfl,hU,fun _=>Iff.rfl⟩
 obtain⟨i,ms'⟩:=x
 obtain⟨h1,h2,h3,h4⟩:=hI
 simp only at h1 h2 h3 h4 ⊢
 have out:(∀k,k<n->0<k->(k - 1) / 2=i->dU (hf ms' k) (hf ms' i)=false)->Al.R (Rh z zn 0 n c cc p (aG ms) (skφ ms n)).l ⟨.ret,[(0,ip 0)],[(0,eJ (bd 1 n c) p),(1,dZ (aG ms') cc)],2,z,zn⟩:=fun h=>Ej ms' ⟨h2,G2 h3 h,h4⟩ rfl
 have w1:Value.int .i64 (IntKind.i64.wrap (2*(i:Int)))=Value.int .i64 (2*(i:Int)):=gV (by omega) (by omega)
 have w2:Value.int .i64 (IntKind.i64.wrap (2*(i:Int)+1))=Value.int .i64 (2*(i:Int)+1):=gV (by omega) (by omega)
 have w3:Value.int .i64 (IntKind.i64.wrap (2*(i:Int)+1+1))=Value.int .i64 (2*(i:Int)+1+1):=gV (by omega) (by omega)
 have e1:(2*(i:Int)+1)=((2*i+1:Nat):Int):=by omega
 have e2:(2*(i:Int)+1+1)=((2*i+2:Nat):Int):=by omega
 have kF: ∀k,0<k->k<n->(k - 1) / 2=i->dU (hf ms' k) (hf ms' i)=true->(∀j,j<n->0<j->(j - 1) / 2=i->dU (hf ms' j) (hf ms' k)=false)->
  au (fun x:Nat × List cx=>(x.1<n\/(x.1=0/\n=0))/\x.2.length=ms.length/\rO dU (hf x.2) n x.1/\ ∀v,gT (hf x.2) n v↔gT (hf ms) n v) (fun x=>BB x.1) (fun x=>[(0,eJ (bd 1 n c) p),(1,dZ (aG x.2) cc)]) 2 (fun _=>z) (fun _=>zn) (fun x=>n - x.1) (Al.R (Rh z zn 0 n c cc p (aG ms) (skφ ms n)).l) (i,ms') .normal (BB k) [(0,eJ (bd 1 n c) p),(1,dZ (aG (AH ms' i k)) cc)] 2 z zn:=fun k k0 kn kp kb km=>by
  refine⟨(k,AH ms' i k),rfl,rfl,rfl,rfl,rfl,⟨.inl kn,by simp only[mq];exact h2,?_,fun v=>?_⟩,by simp only;omega⟩
  ·simp only
   rw[nR (by omega) (by omega)]
   exact G1 jk h3 k0 kn kp kb km
  ·simp only
   rw[nR (by omega) (by omega),uO (by omega) kn]
   exact h4 v
 refine t100 (hsk z zn i n c cc p (fun x y=>dU (hf ms' x.toNat) (hf ms' y.toNat)) (fun x y=>aG (AH ms' x.toNat y.toNat)) (aG ms') (au _ _ _ _ _ _ _ _ _) ?_)
 by_cases hA:n<=2*i+1
 ·have d1:decide ((2*(i:Int)+1)>=(n:Int))=true:=by simp;omega
  refine⟨w1,w2,fun _=>?_,nC1 d1⟩
  (repeat' first|(with_reducible first|exact rfl|assumption|apply And.intro|exact cE _ _))
  exact out fun k kn k0 kp=>by omega
 ·have d1:decide ((2*(i:Int)+1)>=(n:Int))=false:=by simp;omega
  refine⟨w1,w2,nC1 d1,fun _=>?_⟩
  have g: ∀a b,a<n->b<n->_:=fun a b ha hb=>wz hz ms' a b n c cc p ha hb (by omega)
  have s: ∀a b,a<n->b<n->_:=fun a b ha hb=>Af hz ms' a b n c cc p ha hb (by omega) (by omega)
  have gA:=g (2*i+1) i (by omega) (by omega)
  have sA:=s i (2*i+1) (by omega) (by omega)
  rw[e1,e2] at*
  by_cases hB:2*i+2<n
  ·have gB:=g (2*i+2) (2*i+1) hB (by omega)
   have gC:=g (2*i+2) i hB (by omega)
   have sC:=s i (2*i+2) (by omega) hB
   have d2:decide (((2*i+2:Nat):Int)<(n:Int))=true:=by simp;omega
   simp only[Int.toNat_natCast]
   (repeat' first|(with_reducible first|exact rfl|exact True.intro|assumption|apply And.intro|exact cE _ _)|exact w3|exact gA|exact gB|exact gC|exact sA|exact sC|intro hq)
   all_goals try (exfalso;have h':decide (((2*i+2:Nat):Int)<(n:Int))=false:=(by with_reducible assumption);rw[d2] at h';cases h';done)
   all_goals simp only[Bool.not_eq_true',Bool.not_eq_false'] at*
   ·have f1:dU (hf ms' (2*i+2)) (hf ms' (2*i+1))=true:=by with_reducible assumption
    have f2:dU (hf ms' (2*i+2)) (hf ms' i)=false:=by with_reducible assumption
    exact out fun k kn k0 kp=>by
     have:k=2*i+1\/k=2*i+2:=by omega
     rcases this with rfl|rfl
     ·exact jk.trans _ _ _ f2 (jk.asymm _ _ f1)
     ·exact f2
   ·have f1:dU (hf ms' (2*i+2)) (hf ms' (2*i+1))=true:=by with_reducible assumption
    have f2:dU (hf ms' (2*i+2)) (hf ms' i)=true:=by with_reducible assumption
    exact kF (2*i+2) (by omega) hB (by omega) f2 fun k kn k0 kp=>by
     have:k=2*i+1\/k=2*i+2:=by omega
     rcases this with rfl|rfl
     ·exact jk.asymm _ _ f1
     ·exact irr _
   ·have f1:dU (hf ms' (2*i+2)) (hf ms' (2*i+1))=false:=by with_reducible assumption
    have f2:dU (hf ms' (2*i+1)) (hf ms' i)=false:=by with_reducible assumption
    exact out fun k kn k0 kp=>by
     have:k=2*i+1\/k=2*i+2:=by omega
     rcases this with rfl|rfl
     ·exact f2
     ·exact jk.trans _ _ _ f2 f1
   ·have f1:dU (hf ms' (2*i+2)) (hf ms' (2*i+1))=false:=by with_reducible assumption
    have f2:dU (hf ms' (2*i+1)) (hf ms' i)=true:=by with_reducible assumption
    exact kF (2*i+1) (by omega) (by omega) (by omega) f2 fun k kn k0 kp=>by
     have:k=2*i+1\/k=2*i+2:=by omega
     rcases this with rfl|rfl
     ·exact irr _
     ·exact f1
  ·have d2:decide (((2*i+2:Nat):Int)<(n:Int))=false:=by simp;omega
   simp only[Int.toNat_natCast]
   (repeat' first|(with_reducible first|exact rfl|exact True.intro|assumption|apply And.intro|exact cE _ _)|exact w3|exact gA|exact sA|intro hq)
   all_goals try (exfalso;have h':decide (((2*i+2:Nat):Int)<(n:Int))=true:=(by with_reducible assumption);rw[d2] at h';cases h';done)
   all_goals simp only[Bool.not_eq_true',Bool.not_eq_false'] at*
   ·have f2:dU (hf ms' (2*i+1)) (hf ms' i)=false:=by with_reducible assumption
    exact out fun k kn k0 kp=>by
     have:k=2*i+1:=by omega
     subst this;exact f2
   ·have f2:dU (hf ms' (2*i+1)) (hf ms' i)=true:=by with_reducible assumption
    exact kF (2*i+1) (by omega) (by omega) (by omega) f2 fun k kn k0 kp=>by
     have:k=2*i+1:=by omega
     subst this;exact irr _
theorem Sk(hz:aw z zn)(ms:List cx)(n c cc:Nat)(p:Int)(hn:n<=ms.length)(hc:ms.length*4<=cc)(hs:n<100000000)(hU:rO dU (hf ms) n 0):
 aF prog z zn 253 [ip 0] [(0,eJ (bd 1 n c) p),(1,dZ (aG ms) cc)] 2 2 (skφ ms n) (fun _=> .tuple ⟨[]⟩) (fun ms=>[(0,eJ (bd 1 n c) p),(1,dZ (aG ms) cc)]):=by
 have hK:=Np hz ms n c cc p hn hc hs hU
 refine dV (c7 z) (fn:=f253) (by kernel_rfl) (by kernel_rfl) hz ⟨by decide,by decide⟩ (fun _ _=>⟨rfl,Nat.le_refl _,hz⟩) (N:=100) ?_
 refine VL z zn n c cc p (aG ms) (skφ ms n) _ ?_
 (repeat' first|(with_reducible first|exact rfl|assumption|apply And.intro|exact cE _ _)|exact hK|intro hq)
 all_goals
  rename_i ms'
  exact q2 ms' hq rfl rfl rfl rfl rfl
def popφ(ms:List cx)(n:Nat)(ms':List cx):Prop:=ms'.length=ms.length/\ou dU (hf ms') (n - 1)/\ ∀v,gT (hf ms') (n - 1) v↔ ∃i,0<i/\i<n/\hf ms i=v
theorem Wd(hz:aw z zn)(ms:List cx)(n c cc:Nat)(p:Int)(h0:0<n)(hn:n<=ms.length)(hcn:n<=c)(hc:ms.length*4<=cc)(hs:n<100000000)(hU:ou dU (hf ms) n):
 aF prog z zn 241 [ip 0] [(0,eJ (bd 1 n c) p),(1,dZ (aG ms) cc)] 2 2 (popφ ms n) (fun _=> .tuple ⟨[.agg ⟨(hf ms 0).x.row⟩,T1]⟩) (fun ms=>[(0,eJ (bd 1 (n - 1) c) p),(1,dZ (aG ms) cc)]):=by
 have hk:=KL hz n c cc p ms hn (hf ms 0).x (by rw[if_neg (by omega)])
 rw[show decide (0<n)=true by simp;omega] at hk
 have hw:=Af hz ms 0 (n - 1) n c cc p h0 (by omega) hn hc
 have hd:rO dU (hf (AH ms 0 (n - 1))) (n - 1) 0:=by
  rw[nR (by omega) (by omega)]
  obtain⟨m,rfl⟩: ∃m,n=m+1:=⟨n - 1,by omega⟩
  exact DZ hU
 have hsk:=Sk hz (AH ms 0 (n - 1)) (n - 1) c cc p (by rw[mq];omega) (by rw[mq];exact hc) (by omega) (by exact hd)
 have e1:(n:Int) - 1=((n - 1:Nat):Int):=by omega
 have w1:Value.int .i64 (IntKind.i64.wrap ((n:Int) - 1))=Value.int .i64 ((n:Int) - 1):=gV (by omega) (by omega)
 refine dV (c7 z) (fn:=f241) (by kernel_rfl) (by kernel_rfl) hz ⟨by decide,by decide⟩ (fun _ _=>⟨rfl,Nat.le_refl _,hz⟩) (N:=100) ?_
 refine JX z zn n c cc p (hf ms 0).x (fun x y=>aG (AH ms x.toNat y.toNat)) (aG ms) (skφ (AH ms 0 (n - 1)) (n - 1)) _ ?_
 rw[e1] at w1 ⊢
 simp only[Int.toNat_natCast,Int.toNat_zero]
 (repeat' first|(with_reducible first|exact rfl|exact True.intro|assumption|apply And.intro|exact Nat.zero_le _|exact cE _ _|exact(by omega:n - 1<=c)|exact(by omega:0<c))|exact hk|exact hw|exact hsk|intro hq)
 all_goals
  rename_i ms'
  obtain⟨k1,k2,k3⟩:=hq
  rw[mq] at k1
  refine q2 ms' ⟨k1,k2,fun v=>(k3 v).trans ?_⟩ rfl rfl rfl rfl rfl
  rw[nR (by omega) (by omega)]
  obtain⟨m,rfl⟩: ∃m,n=m+1:=⟨n - 1,by omega⟩
  exact Io v
theorem Sr(hz:aw z zn)(ms:List cx)(c cc:Nat)(p:Int):
 A1 z zn 241 [ip 0] [(0,eJ (bd 1 0 c) p),(1,dZ (aG ms) cc)] 2 2 (.tuple ⟨[.agg ⟨[I 0,I 0,I 0]⟩,F0]⟩) [(0,eJ (bd 1 0 c) p),(1,dZ (aG ms) cc)]:=by
 have hk:=KL hz 0 c cc p ms (Nat.zero_le _) ⟨0,0,0⟩ (by rw[if_pos rfl])
 refine aK1 (c7 z) (fn:=f241) hz (N:=100) ?_
 refine VM z zn 0 c cc p (aG ms) (fun _=>True) _ ?_
 (repeat' first|(with_reducible first|exact rfl|assumption|apply And.intro|exact cE _ _)|exact hk|exact q1|intro hq)
end
end Go.Proofs.Nw
namespace Go.Proofs.Nw
open Go Go.AV Tryz
set_option maxRecDepth 1000000
noncomputable section
abbrev cX(n:Nat):Value:=SL 1 n n
abbrev na(cs2:List Value)(n:Nat):aa:=BQ cs2 (n*3) 3 322
abbrev sP(n:Nat):Nat × Value:=(7,cX n)
theorem lb0(z:T aa)(zn n fr i ck:Nat)(es:List MapEntry)(cs cs2:List Value)(Q:QL)(hyp:Br (decide ((↑i:Int)<(↑n:Int))) (cG i/\i<n/\overwrite cs (0+i*3) [IV i,J 0,J 0]=some cs2/\cs2.length<=n*3/\ZV (IntKind.i64.wrap ((↑i:Int)+1))=IV (i+1)/\E6 82 z zn (R6 (IV n) YK (IV fr) (cX n) (IV n) (IV (i+1)) (K2 oe (YE es ck) (na cs2 n) (Q aN [(0,IV n),(1,YK),(2,IV fr),sP n,(17,IV n),(18,IV (i+1))] [YG es ck,(1,na cs2 n)] 2 z zn)))) (E6 82 z zn (R3 YK (IV fr) (cX n) (K2 oe (YE es ck) (na cs n) (Q YO [(1,YK),(2,IV fr),sP n] [YG es ck,(1,na cs n)] 2 z zn))))):RdT prog gH z (ah (ag f212) 0) 82 (GC n fr i) z [YG es ck,(1,kT cs n)] 2 zn 2 Q:=K1t hyp ((tA 1 (tO (bS i) (tX (jE.EB cs2) (tO (dI i) (tE dv [] [(0,IV n),(1,YK),(2,IV fr),sP n,(17,IV n),(18,IV (i+1))] [YG es ck,(1,na cs2 n)] 2 z zn))))).fork (tA 1 (tE dv [] [(1,YK),(2,IV fr),sP n] [YG es ck,(1,na cs n)] 2 z zn)))
abbrev eP:Value:=PT 2
noncomputable abbrev SP:Code:=ah (ag f212) 1
theorem aaO(z:T aa)(zn n hn hc hcc ck:Nat)(p:Int)(es:List MapEntry)(cs ns:List Value)(Q:QL)(hyp:aF prog z zn 241 [Y3] (gD hn hc p ns hcc) 2 2 Yc Zd (sO hn hc p ns hcc)/\Rs [eP]/\SS hn hc p/\KO (sig [(0,2),(1,4)]) (m9 ns hcc)/\ ∀(x:Unit),True->Rs O0/\kH hn hc p/\KO (sig [(2,0),(4,1)]) (m9 ns hcc)/\E6 82 z zn (Rs (cX n)/\K2 oe (YE es ck) (na cs n) (Q af.ret [(6,cX n)] [YG es ck,(1,na cs n)] 5 z zn))):RdT prog gH z SP 82 (mI n) z [YG es ck,(1,kT cs n),(2,eJ (bd 4 hn hc) p),(4,dZ ns hcc)] 5 zn 4 Q:=K1t hyp (Tr.cm (Cm.mk [Y3] (gD hn hc p ns hcc) 2 2 [(0,2),(1,4)] [(2,0),(4,1)] 5) Unit Yc Zd (sO hn hc p ns hcc) Zd (fun(x:Unit)=>[(2,BQ [lK,SL 4 hn hc,ZV p] 3 1 337),(4,m9 ns hcc)]) (Yl z) (Ym zn) fun(x:Unit)=>tA 2 (tE dv [] [(6,cX n)] [YG es ck,(1,na cs n)] 5 z zn))
abbrev YGC(hn hc:Nat)(p:Int):Prop:=Rs (BQ [lK,SL 4 (hn - 1) hc,ZV p] 3 1 337)
abbrev L8(n:Nat):List (Nat × Value):=[(1,YK),sP n,(9,eP)]
abbrev WT(hn hc:Nat)(p:Int):Nat × aa:=(2,BQ [lK,SL 4 (hn - 1) hc,ZV p] 3 1 337)
abbrev YGF(x:Nat × Nat × Nat):Nat × Value:=(x.fst,tb x.snd.fst x.snd.snd x.snd.snd)
abbrev CX:af:=af.exit 4
abbrev T0:List (Nat × Nat):=[YB,Yz,Y6,(5,5),(6,4)]
abbrev X8(a:cS):Prop:=Rs (BQ [ZV a.node,ZV a.len,ZV a.gq] 3 1 322)
abbrev X7:Nat->Option Nat:=ay [YB,Yz,Y6,(4,6)] []
theorem lb1(z:T aa)(zn n hn hc hcc nd ck:Nat)(p e:Int)(es:List MapEntry)(cs cs2 ns:List Value)(a:cS)(φ:List cx->Prop)(ψ:List cx->Nat->Nat->rW->Prop)(Q:QL)(hyp:(aF prog z zn 241 [Y3] (gD hn hc p ns hcc) 2 2 φ (fun(x:List cx)=>TP [AG a.row,T1]) fun(ms:List cx)=>[(0,eJ (bd 1 (hn - 1) hc) p),(1,dZ (aG ms) hcc)])/\Rs [eP]/\SS hn hc p/\KO (sig [(0,2),(1,4)]) (m9 ns hcc)/\ ∀(x:List cx),φ x->Rs (Ma a)/\Rs (BQ [lK,SL 1 (hn - 1) hc,ZV p] 3 1 337)/\KO (sig [(2,0),(4,1)]) (xr x hcc)/\a.node=(↑nd:Int)/\nd<n/\ai prog (aV.mk cs (n*3) 3 322 true true 0 true) 3 (0+nd*3+2)=some (ZV e)/\(decide (e>=0)=true->E6 82 z zn (R3 YK (cX n) eP (K2 (ay [YB,Yz,Y6,(4,4)] []) (YE es ck) (na cs n) (YGC hn hc p/\KO (ay [YB,Yz,Y6,(4,4)] []) (xr x hcc)/\Q aN (L8 n) [YG es ck,(1,na cs n),WT hn hc p,(4,xr x hcc)] 5 z zn))))/\(decide (e>=0)=false->a.node=(↑nd:Int)/\nd<n/\overwrite cs (0+nd*3) [ZV a.node,ZV a.len,ZV a.gq]=some cs2/\cs2.length<=n*3/\aE prog 3 (ZV a.node) es 0≠none/\(∀(p:Nat × Value),aE prog 3 (ZV a.node) es 0=YH p-> ∃(x:Nat × Nat × Nat),p=YGF x)/\(∀(i:Nat × Nat × Nat),aE prog 3 (ZV a.node) es 0=some (some (YGF i))->Rf 6/\aj prog (ah SP 0) 6 82 (DG n i.snd.fst i.snd.snd 0) (r9 n ck es cs2 a (eJ (bd 6 (hn - 1) hc) p) (dZ (aG x) hcc)) 7 z zn (Al.cons rW (ψ x i.snd.fst i.snd.snd) (fun(s:rW)=>aA.mk CX (mI n) [YG es ck,(1,kT cs2 n),(2,yu 6 s),(6,xL s)] 7 z zn) (fun(x:rW)=>eU) Al.nil).R/\E6 82 z zn (R7 YK (cX n) eP (PT 5) (SL (tF i.snd.fst) i.snd.snd i.snd.snd) (IV i.snd.snd) YM (K2 (ay T0 []) (YE es ck) (na cs2 n) (YGC hn hc p/\X8 a/\KO (ay T0 []) (xr x hcc)/\ ∀(x_1:rW),ψ x i.snd.fst i.snd.snd x_1->E6 82 z zn (R3 YK (cX n) eP (K2 X7 (YE es ck) (na cs2 n) (Rs (BQ [lK,SL 6 x_1.n x_1.ms.length,ZV x_1.p] 3 1 337)/\KO X7 (BR (aG x_1.ms) (x_1.ms.length*4) 4 339)/\Q aN (L8 n) [YG es ck,(1,na cs2 n),(2,BQ [lK,SL 4 x_1.n x_1.ms.length,ZV x_1.p] 3 1 337),(4,BR (aG x_1.ms) (x_1.ms.length*4) 4 339)] 5 z zn)))))))/\(aE prog 3 (ZV a.node) es 0=YL->Rf 6/\aj prog (ah SP 0) 6 82 (yf n) (r9 n ck es cs2 a (eJ (bd 6 (hn - 1) hc) p) (dZ (aG x) hcc)) 7 z zn (alt True (aA.mk CX (mI n) [YG es ck,(1,kT cs2 n),(2,eJ (bd 6 (hn - 1) hc) p),(6,dZ (aG x) hcc)] 7 z zn) Al.nil).R/\E6 82 z zn (R7 YK (cX n) eP (PT 5) Y5 YM YM (K2 (ay T0 []) (YE es ck) (na cs2 n) (YGC hn hc p/\X8 a/\KO (ay T0 []) (xr x hcc)/\ ∀(x_1:Unit),True->E6 82 z zn (R3 YK (cX n) eP (K2 X7 (YE es ck) (na cs2 n) (Rs (BQ [lK,SL 6 (hn - 1) hc,ZV p] 3 1 337)/\KO X7 (xr x hcc)/\Q aN (L8 n) [YG es ck,(1,na cs2 n),WT hn hc p,(4,xr x hcc)] 5 z zn))))))))):RdT prog gH z SP 82 (mI n) z [YG es ck,(1,kT cs n),(2,eJ (bd 4 hn hc) p),(4,dZ ns hcc)] 5 zn 4 Q:=K1t hyp (Tr.cm (Cm.mk [Y3] (gD hn hc p ns hcc) 2 2 [(0,2),(1,4)] [(2,0),(4,1)] 5) (List cx) φ (fun(x:List cx)=>TP [AG a.row,T1]) (fun(ms:List cx)=>[(0,eJ (bd 1 (hn - 1) hc) p),(1,dZ (aG ms) hcc)]) (fun
 (x:List cx)=>Ma a) (fun(x:List cx)=>[WT hn hc p,(4,xr x hcc)]) (fun(x:List cx)=>z) (fun(x:List cx)=>zn) fun(x:List cx)=>tA 3 (tO (bS nd) (tO (An.pP (zv e)) ((tA 1 (tE [YB,Yz,Y6,(4,4)] [] (L8 n) [YG es ck,(1,na cs n),WT hn hc p,(4,xr x hcc)] 5 z zn)).fork (tA 3 (tO (bS nd) (tX (jE.EB cs2) (tA 1 (Tr.find (Nat × Nat × Nat) YGF (fun(i:Nat × Nat × Nat)=>Tr.lp 6 82 T0 [] (DG n i.snd.fst i.snd.snd 0) (r9 n ck es cs2 a (eJ (bd 6 (hn - 1) hc) p) (dZ (aG x) hcc)) 7 z zn (Al.cons rW (ψ x i.snd.fst i.snd.snd) (fun(s:rW)=>aA.mk CX (mI n) [YG es ck,(1,kT cs2 n),(2,yu 6 s),(6,xL s)] 7 z zn) (fun(x:rW)=>tE [YB,Yz,Y6,(4,6)] [] (L8 n) [YG es ck,(1,na cs2 n),(2,BQ [lK,SL 4 x.n x.ms.length,ZV x.p] 3 1 337),(4,BR (aG x.ms) (x.ms.length*4) 4 339)] 5 z zn) Al.nil)) (Tr.lp 6 82 T0 [] (yf n) (r9 n ck es cs2 a (eJ (bd 6 (hn - 1) hc) p) (dZ (aG x) hcc)) 7 z zn (Al.cons Unit Yc (fun(x_1:Unit)=>aA.mk CX (mI n) [YG es ck,(1,kT cs2 n),(2,eJ (bd 6 (hn - 1) hc) p),(6,dZ (aG x) hcc)] 7 z zn) (fun(x_1:Unit)=>tE [YB,Yz,Y6,(4,6)] [] (L8 n) [YG es ck,(1,na cs2 n),WT hn hc p,(4,xr x hcc)] 5 z zn) Al.nil)))))))))))
abbrev AA(e:eO):List Value:=[ZV e.fz1,ZV e.aB,ZV e.wt]
abbrev YGL(hn:Nat)(p:Int):List cx->List (Nat × aa):=fun(ms:List cx)=>[(0,eJ (bd 2 (hn+1) ms.length) (p+1)),(2,dZ (aG ms) (ms.length*4))]
abbrev X6(hn hc:Nat)(p:Int):Prop:=Rs (BQ [lK,SL 6 hn hc,ZV p] 3 1 337)
abbrev WS(x:List cx):aa:=BR (aG x) (x.length*4) 4 339
abbrev X5(n k m j:Nat):List (Nat × Value):=[(1,YK),sP n,(9,eP),(10,PT 5),(55,eg k m),(56,IV m),(57,IV (j+1))]
abbrev X4(a:cS):Nat × aa:=(5,BQ [ZV a.node,ZV a.len,ZV a.gq] 3 1 322)
abbrev TZ(hn hc:Nat)(p:Int):Nat × aa:=(2,BQ [lK,SL 6 hn hc,ZV p] 3 1 337)
abbrev X3:Nat->Option Nat:=ay [YB,Yz,Y6,(6,6)] []
theorem lb2(z:T aa)(zn n hn hc hcc k m j nt ck:Nat)(kb:aV)(p ee:Int)(es:List MapEntry)(cs ns:List Value)(a:cS)(e:eO)(φ:List cx->Prop)(Q:QL)(hyp:Br (decide ((↑j:Int)<(↑m:Int))) (cG j/\j<m/\fH k/\fR z k kb/\ai prog kb 272 (0+j*3)=some (AG (AA e))/\e.aB=(↑nt:Int)/\nt<n/\ai prog (aV.mk cs (n*3) 3 322 true true 0 true) 3 (0+nt*3+2)=some (ZV ee)/\Br (decide (ee<0)) (WQ1 (a.len+e.wt)/\WQ1 (a.gq+1)/\aF prog z zn 240 [Y3,AG [ZV e.aB,ZV (a.len+e.wt),ZV (a.gq+1)]] (gD hn hc p ns hcc) 2 3 φ T5 (YGL hn p)/\Rs [eP,AG [ZV e.aB,ZV (a.len+e.wt),ZV (a.gq+1)]]/\X6 hn hc p/\KO (sig [(0,2),(1,6)]) (m9 ns hcc)/\ ∀(x:List cx),φ x->nv/\Rs (BQ [lK,SL 2 (hn+1) x.length,yU p] 3 1 337)/\KO (sig [(2,0),(6,1),(8,2)]) (WS x)/\ZV (IntKind.i64.wrap ((↑j:Int)+1))=IV (j+1)/\E6 82 z zn (R7 YK (cX n) eP (PT 5) (eg k m) (IV m) (IV (j+1)) (K2 (ay [YB,Yz,Y6,(5,5),(6,8)] []) (YE es ck) (na cs n) (Rs (BQ [lK,SL 8 (hn+1) x.length,yU p] 3 1 337)/\X8 a/\KO (ay [YB,Yz,Y6,(5,5),(6,8)] []) (WS x)/\Q aN (X5 n k m j) [YG es ck,(1,na cs n),(2,BQ [lK,SL 6 (hn+1) x.length,yU p] 3 1 337),X4 a,(6,WS x)] 7 z zn)))) (ZV (IntKind.i64.wrap ((↑j:Int)+1))=IV (j+1)/\E6 82 z zn (R7 YK (cX n) eP (PT 5) (eg k m) (IV m) (IV (j+1)) (K2 (ay [YB,Yz,Y6,(5,5),(6,6)] []) (YE es ck) (na cs n) (X6 hn hc p/\X8 a/\KO (ay [YB,Yz,Y6,(5,5),(6,6)] []) (m9 ns hcc)/\Q aN (X5 n k m j) [YG es ck,(1,na cs n),TZ hn hc p,X4 a,(6,m9 ns hcc)] 7 z zn))))) (E6 82 z zn (R3 YK (cX n) eP (K2 X3 (YE es ck) (na cs n) (X6 hn hc p/\KO X3 (m9 ns hcc)/\Q CX (L8 n) [YG es ck,(1,na cs n),TZ hn hc p,(6,m9 ns hcc)] 7 z zn))))):RdT prog gH z (ah SP 0) 82 (DG n k m j) z (r9 n ck es cs a (eJ (bd 6 hn hc) p) (dZ ns hcc)) 7 zn 6 Q:=K1t hyp ((tA 1 (tO (bS j) (tO (An.ld k kb (AG e.row)) (tA 2 (tO (bS nt) (tO (An.pP (zv ee)) ((tA 4 (tO (An.val (ZV (a.len+e.wt))) (tA 1 (tO (An.val (ZV (a.gq+1))) (Tr.cm (Cm.mk [Y3,AG [ZV e.aB,ZV (a.len+e.wt),ZV (a.gq+1)]] (gD hn hc p ns hcc) 2 3 [(0,2),(1,6)] [(2,0),(6,1),(8,2)] 9) (List cx) φ T5 (YGL hn p) T5 (fun(x:List cx)=>[(2,BQ [lK,SL 8 (hn+1) x.length,yU p] 3 1 337),(8,WS x)]) (fun(x:List cx)=>z) (fun(x:List cx)=>zn) fun(x:List cx)=>tO (dI j) (tE [YB,Yz,Y6,(5,5),(6,8)] [] (X5 n k m j) [YG es ck,(1,na cs n),(2,BQ [lK,SL 6 (hn+1) x.length,yU p] 3 1 337),X4 a,(6,WS x)] 7 z zn)))))).fork (tA 1 (tO (dI j) (tE [YB,Yz,Y6,(5,5),(6,6)] [] (X5 n k m j) [YG es ck,(1,na cs n),TZ hn hc p,X4 a,(6,m9 ns hcc)] 7 z zn)))))))))).fork (tA 1 (tE [YB,Yz,Y6,(6,6)] [] (L8 n) [YG es ck,(1,na cs n),TZ hn hc p,(6,m9 ns hcc)] 7 z zn)))
theorem aaN(z:T aa)(zn n hn hc hcc ck:Nat)(p:Int)(es:List MapEntry)(cs ns:List Value)(a:cS)(Q:QL)(hyp:E6 82 z zn (R3 YK (cX n) eP (K2 X3 (YE es ck) (na cs n) (X6 hn hc p/\KO X3 (m9 ns hcc)/\Q CX (L8 n) [YG es ck,(1,na cs n),TZ hn hc p,(6,m9 ns hcc)] 7 z zn)))):RdT prog gH z (ah SP 0) 82 (yf n) z (r9 n ck es cs a (eJ (bd 6 hn hc) p) (dZ ns hcc)) 7 zn 6 Q:=K1t hyp (tA 2 (tE [YB,Yz,Y6,(6,6)] [] (L8 n) [YG es ck,(1,na cs n),TZ hn hc p,(6,m9 ns hcc)] 7 z zn))
abbrev eA(n:Nat):Value:=SL 0 n n
theorem ln0(z:T aa)(zn n i:Nat)(cs cs2 cs3:List Value)(a:cS)(Q:QL)(hyp:Br (decide ((↑i:Int)<(↑n:Int))) (cG i/\i<n/\ai prog (aV.mk cs (n*3) 3 322 true true 0 true) 322 (0+i*3)=some (AG [ZV a.node,ZV a.len,ZV a.gq])/\cG i/\i<n/\overwrite cs2 (0+i*1) [ZV a.len]=some cs3/\cs3.length<=n*1/\ZV (IntKind.i64.wrap ((↑i:Int)+1))=IV (i+1)/\E6 23 z zn (R4 (cX n) (eA n) (IV n) (IV (i+1)) (K2 oe (na cs n) (BQ cs3 (n*1) 1 3) (Q aN [(3,cX n),(9,eA n),(10,IV n),(11,IV (i+1))] [(0,na cs n),(1,BQ cs3 (n*1) 1 3)] 2 z zn)))) (E6 23 z zn (Rs (cX n)/\KO (ay Y0 []) (BQ cs2 (n*1) 1 3)/\Q YO [(3,cX n)] [(1,BQ cs2 (n*1) 1 3)] 2 z zn))):RdT prog gH z (ah (ag f211) 0) 23 (Gx n i) z [(0,kT cs n),(1,GK cs2 n)] 2 zn 2 Q:=K1t hyp ((tA 1 (tO (bS i) (tO (An.pP (AG a.row)) (tA 2 (tO (bS i) (tX (jE.EB cs3) (tO (dI i) (tE dv [] [(3,cX n),(9,eA n),(10,IV n),(11,IV (i+1))] [(0,na cs n),(1,BQ cs3 (n*1) 1 3)] 2 z zn)))))))).fork (tA 1 (tE Y0 [] [(3,cX n)] [(1,BQ cs2 (n*1) 1 3)] 2 z zn)))
abbrev YGT(fr:Nat):Unit->List (Nat × aa):=fun(x:Unit)=>[(0,eJ (bd 1 1 1) 1),(1,dZ (cx.mk (cS.mk (↑fr:Int) 0 0) 0).row 4)]
abbrev P1(x:List cS)(n:Nat):aa:=BQ (aY x) (n*3) 3 322
theorem lb(z:T aa)(zn n fr ck:Nat)(es:List MapEntry)(cs cs2:List Value)(φ:List cS->Prop)(Q:QF)(hyp:cG n/\cG n/\n<=1048576/\rep n Yr=cs/\rU/\aj prog (ah (ag f212) 0) 2 82 (GC n fr 0) [YG es ck,(1,kT cs n)] 2 z zn (alt True (aA.mk YO [(1,mp 0),(2,iv fr),(7,bd 1 n n)] [YG es ck,(1,kT cs2 n)] 2 z zn) Al.nil).R/\E6 82 z zn (R6 (IV n) YK (IV fr) (cX n) (IV n) YM (K2 oe (YE es ck) (na cs n) (∀(x:Unit),True->(aF prog z zn 238 [lK] [] 0 1 Yc (fun(x:Unit)=>ip 0) fun(x:Unit)=>[(0,eJ an 0)])/\Rs [lK]/\ ∀(x:Unit),True->AQ/\Rs P5/\aF prog z zn 240 [Y3,AG [IV fr,YM,YM]] [(0,P5)] 1 2 Yc nq (YGT fr)/\Rs [eP,AG [IV fr,YM,YM]]/\Rs P5/\ ∀(x:Unit),True->nv/\Rs (BQ [lK,SL 1 1 1,iq] 3 1 337)/\Rs (BR [IV fr,YM,YM,YM] 4 4 339)/\Rf 4/\aj prog SP 4 82 (mI n) [YG es ck,(1,kT cs2 n),(2,eJ (bd 4 1 1) 1),(4,dZ (cx.mk (cS.mk (↑fr:Int) 0 0) 0).row 4)] 5 z zn (Al.cons (List cS) φ (fun(l:List cS)=>aA.mk af.ret [(6,bd 1 n n)] [YG es ck,(1,kT (aY l) n)] 5 z zn) (fun(x:List cS)=>eU) Al.nil).R/\E6 82 z zn (R3 YK (cX n) eP (K2 (ay [YB,Yz,Y6,(4,3)] []) (YE es ck) (na cs2 n) (Rs (BQ [lK,SL 3 1 1,iq] 3 1 337)/\Rs (BR [IV fr,YM,YM,YM] 4 4 339)/\ ∀(x:List cS),φ x->E6 82 z zn (K2 oe (YE es ck) (P1 x n) (Rs (cX n)/\Q (cX n) [YG es ck,(1,P1 x n)] 2 z zn))))))))):FnT prog gH z f212 [iv n,mp 0,iv fr] z [YG es ck] 1 zn Q:=K1t hyp (tX (jE.Ti n cs) (Tr.lp 2 82 dv [] (GC n fr 0) [YG es ck,(1,kT cs n)] 2 z zn (Al.cons Unit Yc (fun(x:Unit)=>aA.mk YO [(1,mp 0),(2,iv fr),(7,bd 1 n n)] [YG es ck,(1,kT cs2 n)] 2 z zn) (fun(x:Unit)=>Tr.cm (Cm.mk [lK] [] 0 1 [] [(2,0)] 3) Unit Yc (fun(x:Unit)=>ip 0) (fun(x:Unit)=>[(0,eJ an 0)]) (fun(x:Unit)=>eP) (fun(x:Unit)=>[(2,P5)]) (Yl z) (Ym zn) fun(x:Unit)=>Tr.cm (Cm.mk [Y3,AG [IV fr,YM,YM]] [(0,P5)] 1 2 [(0,2)] [(2,0),(3,1)] 4) Unit Yc nq (YGT fr) nq (fun(x:Unit)=>[(2,BQ [lK,SL 3 1 1,iq] 3 1 337),(3,BR [IV fr,YM,YM,YM] 4 4 339)]) (Yl z) (Ym zn) fun(x:Unit)=>Tr.lp 4 82 [YB,Yz,Y6,(4,3)] [] (mI n) [YG es ck,(1,kT cs2 n),(2,eJ (bd 4 1 1) 1),(4,dZ (cx.mk (cS.mk (↑fr:Int) 0 0) 0).row 4)] 5 z zn (Al.cons (List cS) φ (fun(l:List cS)=>aA.mk af.ret [(6,bd 1 n n)] [YG es ck,(1,kT (aY l) n)] 5 z zn) (fun(x:List cS)=>tR dv [] (cX n) [YG es ck,(1,P1 x n)] 2 z zn) Al.nil)) Al.nil)))
theorem ln(z:T aa)(zn n:Nat)(cs cs2 cs3:List Value)(Q:QF)(hyp:cG n/\cG n/\n<=1048576/\rep n [YM]=cs2/\rU/\aj prog (ah (ag f211) 0) 2 23 (Gx n 0) [(0,kT cs n),(1,GK cs2 n)] 2 z zn (alt True (aA.mk YO [(3,bd 1 n n)] [(1,GK cs3 n)] 2 z zn) Al.nil).R/\E6 23 z zn (R4 (cX n) (eA n) (IV n) YM (K2 (ay [Yz,YB] []) (na cs n) (BQ cs2 (n*1) 1 3) (∀(x:Unit),True->E6 23 z zn (KO (ay Y0 []) (BQ cs3 (n*1) 1 3)/\Rs (cX n)/\Q (cX n) [(1,BQ cs3 (n*1) 1 3)] 2 z zn))))):FnT prog gH z f211 [bd 0 n n] z [(0,kT cs n)] 1 zn Q:=K1t hyp (tX (jE.Ti n cs2) (Tr.lp 2 23 [Yz,YB] [] (Gx n 0) [(0,kT cs n),(1,GK cs2 n)] 2 z zn (Al.cons Unit Yc (fun(x:Unit)=>aA.mk YO [(3,bd 1 n n)] [(1,GK cs3 n)] 2 z zn) (fun(x:Unit)=>tR Y0 [] (cX n) [(1,BQ cs3 (n*1) 1 3)] 2 z zn) Al.nil)))
end
end Go.Proofs.Nw
namespace Go.jP
abbrev bY:=Nat->Nat->Nat->Prop
inductive Wk (E:bY)(k:Nat):Nat->Nat->Nat->Prop where
 |nX {i j w:Nat} (h:E i j w):Wk E k i j w
 |cons {i m j w L:Nat} (h:E i m w) (hm:m<k) (t:Wk E k m j L):Wk E k i j (w+L)
theorem Wk.split{E:bY}{k i j L:Nat}(t:Wk E (k+1) i j L):Wk E k i j L\/ ∃a b,Wk E k i k a/\Wk E k k j b/\a+b<=L:=by
 induction t with
 |nX h=>exact .inl (.nX h)
 | @cons i m j w L h hm t ih=>
   by_cases hk:m<k
   ·rcases ih with ih|⟨a,b,h1,h2,h3⟩
    ·exact .inl (.cons h hk ih)
    ·exact .inr ⟨w+a,b, .cons h hk h1,h2,by omega⟩
   ·have:m=k:=by omega
    subst this
    rcases ih with ih|⟨a,b,h1,h2,h3⟩
    ·exact .inr ⟨w,L, .nX h,ih,by omega⟩
    ·exact .inr ⟨w,b, .nX h,h2,by omega⟩
theorem Wk.append{E:bY}{k i m j a b:Nat}(s:Wk E k i m a)(hm:m<k)(t:Wk E k m j b):Wk E k i j (a+b):=by
 induction s with
 |nX h=>exact .cons h hm t
 |cons h1 h2 _ ih=>rw[Nat.add_assoc];exact .cons h1 h2 (ih hm t)
theorem Wk.mono{E E':bY}{k i j L:Nat}(h: ∀a b w,E a b w-> ∃w',w'<=w/\E' a b w')(t:Wk E k i j L): ∃L',L'<=L/\Wk E' k i j L':=by
 induction t with
 |nX h1=>obtain⟨w',a,b⟩:=h _ _ _ h1;exact⟨w',a, .nX b⟩
 |cons h1 h2 _ ih=>
  obtain⟨w',a,b⟩:=h _ _ _ h1
  obtain⟨L',c,d⟩:=ih
  exact⟨w'+L',by omega, .cons b h2 d⟩
def Real(E:bY)(n kC:Nat)(d:Nat->Nat->Int):Prop:= ∀i j,i<n->j<n->0<=d i j/\(d i j<kC->Wk E n i j (d i j).toNat)
def Uw(E:bY)(k:Nat)(d:Nat->Nat->Int)(i j:Nat):Prop:= ∀L,Wk E k i j L->d i j<=(L:Int)
def pg(d:Nat->Nat->Int)(i j:Nat)(v:Int):Nat->Nat->Int:=fun a b=>if a=i/\b=j then v else d a b
structure Tb(E:bY)(n kC k i j:Nat)(d:Nat->Nat->Int):Prop where
 real:Real E n kC d
 low: ∀a b,a<n->b<n->Uw E k d a b
 done: ∀a b,a<n->b<n->(a<i\/a=i/\b<j)->Uw E (k+1) d a b
theorem Uw.le{E:bY}{k:Nat}{d d':Nat->Nat->Int}{i j:Nat}(h:Uw E k d i j)(hd:d' i j<=d i j):Uw E k d' i j:=fun L t=>Int.le_trans hd (h L t)
theorem Je{E:bY}{n kC k i j:Nat}{d:Nat->Nat->Int}(h:Tb E n kC k i j d)(hk:k<n)(hi:i<n)(hj:j<n):
 Tb E n kC k i (j+1) (pg d i j (min (d i j) (d i k+d k j))):=by
 have hle: ∀a b,(pg d i j (min (d i j) (d i k+d k j))) a b<=d a b:=fun a b=>by
  unfold pg;split
  ·rename_i hc;rw[hc.1,hc.2];omega
  ·omega
 refine⟨fun a b ha hb=>?_,fun a b ha hb=>(h.low a b ha hb).le (hle a b),fun a b ha hb hab=>?_⟩
 ·unfold pg
  split
  ·rename_i hc
   obtain⟨rfl,rfl⟩:=hc
   obtain⟨p1,q1⟩:=h.real a b ha hb
   obtain⟨p2,q2⟩:=h.real a k ha hk
   obtain⟨p3,q3⟩:=h.real k b hk hb
   refine⟨by omega,fun hlt=>?_⟩
   by_cases hm:d a b<=d a k+d k b
   ·rw[Int.min_eq_left hm] at hlt ⊢;exact q1 hlt
   ·rw[Int.min_eq_right (by omega)] at hlt ⊢
    have:=(q2 (by omega)).append hk (q3 (by omega))
    rw[show(d a k+d k b).toNat=(d a k).toNat+(d k b).toNat by omega]
    exact this
  ·exact h.real a b ha hb
 ·by_cases hc:a=i/\b=j
  ·obtain⟨rfl,rfl⟩:=hc
   intro L t
   unfold pg
   rw[if_pos ⟨rfl,rfl⟩]
   rcases t.split with t|⟨x,y,t1,t2,hs⟩
   ·have:=h.low a b ha hb _ t;omega
   ·have e1:=h.low a k ha hk _ t1
    have e2:=h.low k b hk hb _ t2
    omega
  ·exact(h.done a b ha hb (by omega)).le (hle a b)
theorem M9{E:bY}{n kC k i:Nat}{d:Nat->Nat->Int}(h:Tb E n kC k i n d):Tb E n kC k (i+1) 0 d:=
 ⟨h.real,h.low,fun a b ha hb hab=>h.done a b ha hb (by omega)⟩
structure Head(E:bY)(n kC k:Nat)(d:Nat->Nat->Int):Prop where
 real:Real E n kC d
 low: ∀a b,a<n->b<n->Uw E k d a b
theorem Gq{E:bY}{n kC k:Nat}{d:Nat->Nat->Int}(h:Head E n kC k d):Tb E n kC k 0 0 d:=
 ⟨h.real,h.low,fun a b ha hb hab=>by omega⟩
theorem Na{E:bY}{n kC k:Nat}{d:Nat->Nat->Int}(h:Tb E n kC k n 0 d):Head E n kC (k+1) d:=
 ⟨h.real,fun a b ha hb=>h.done a b ha hb (.inl ha)⟩
def CP(E:bY)(n kC i j:Nat)(v:Int):Prop:=0<=v/\(v<kC->Wk E n i j v.toNat)/\ ∀L:Nat,Wk E n i j L->v<=L
theorem JZ{E:bY}{n kC:Nat}{d:Nat->Nat->Int}(h:Head E n kC n d){i j:Nat}(hi:i<n)(hj:j<n):CP E n kC i j (d i j):=
 ⟨(h.real i j hi hj).1,(h.real i j hi hj).2,h.low i j hi hj⟩
def dq(l:List (Nat × Nat × Nat)):bY:=fun a b w=>(a,b,w)∈l
theorem wk0{E:bY}{i j L:Nat}(t:Wk E 0 i j L):E i j L:=by
 cases t with
 |nX h=>exact h
 |cons _ h _=>omega
def CO(l:List (Nat × Nat × Nat))(n kC:Nat)(d:Nat->Nat->Int):Prop:= ∀i j,i<n->j<n->0<=d i j/\d i j<=kC/\(d i j<kC->(i,j,(d i j).toNat)∈l)/\ ∀w,(i,j,w)∈l->d i j<=(w:Int)
theorem GJ(n kC:Nat):CO [] n kC (fun _ _=>(kC:Int)):=fun i j _ _=>⟨Int.natCast_nonneg _,Int.le_refl _,fun h=>absurd h (Int.lt_irrefl _),fun w h=>by simp at h⟩
theorem DI{l:List (Nat × Nat × Nat)}{n kC:Nat}{d:Nat->Nat->Int}(h:CO l n kC d)(a b w:Nat):
 CO (l++[(a,b,w)]) n kC (pg d a b (min (d a b) w)):=by
 intro i j hi hj
 obtain⟨h1,h2,h3,h4⟩:=h i j hi hj
 unfold pg
 split
 ·rename_i hc
  obtain⟨rfl,rfl⟩:=hc
  refine⟨by omega,by omega,fun hlt=>?_,fun x hx=>?_⟩
  ·by_cases hm:d i j<=w
   ·rw[Int.min_eq_left hm] at hlt ⊢;exact List.mem_append_left _ (h3 hlt)
   ·rw[Int.min_eq_right (by omega)];simp
  ·rcases List.mem_append.1 hx with hx|hx
   ·have:=h4 x hx;omega
   ·simp at hx;subst hx;omega
 ·rename_i hc
  refine⟨h1,h2,fun hlt=>List.mem_append_left _ (h3 hlt),fun x hx=>?_⟩
  rcases List.mem_append.1 hx with hx|hx
  ·exact h4 x hx
  ·simp at hx;exact(hc ⟨hx.1,hx.2.1⟩).elim
theorem DJ{l:List (Nat × Nat × Nat)}{n kC:Nat}{d:Nat->Nat->Int}(h:CO l n kC d):Head (dq l) n kC 0 d:=
 ⟨fun i j hi hj=>⟨(h i j hi hj).1,fun hlt=> .nX ((h i j hi hj).2.2.1 hlt)⟩,fun a b ha hb L t=>(h a b ha hb).2.2.2 L (wk0 t)⟩
inductive Rc (E:bY)(s:Nat):Nat->Nat->Prop where
 |start:Rc E s s 0
 |snoc {v x w L:Nat} (t:Rc E s v L) (h:E v x w):Rc E s x (L+w)
theorem Rc.cons{E:bY}{i m w v L:Nat}(h:E i m w)(t:Rc E m v L):Rc E i v (w+L):=by
 induction t with
 |start=>simpa using Rc.snoc .start h
 |snoc t h2 ih=>rw[←Nat.add_assoc];exact .snoc ih h2
theorem Wk.rc{E:bY}{k i j L:Nat}(t:Wk E k i j L):Rc E i j L:=by
 induction t with
 |nX h=>simpa using Rc.snoc .start h
 |cons h _ _ ih=>exact .cons h ih
theorem Wk.snoc{E:bY}{n i v x w L:Nat}(t:Wk E n i v L)(hv:v<n)(h:E v x w):Wk E n i x (L+w):=t.append hv (.nX h)
theorem Rc.wk{E:bY}{n s v L:Nat}(hE: ∀a b w,E a b w->a<n/\b<n)(t:Rc E s v L):(v=s/\L=0)\/Wk E n s v L:=by
 induction t with
 |start=>exact .inl ⟨rfl,rfl⟩
 | @snoc v x w L t h ih=>
   rcases ih with ⟨rfl,rfl⟩|ih
   ·exact .inr (by simpa using Wk.nX h)
   ·exact .inr (ih.snoc (hE _ _ _ h).1 h)
structure Dj(E:bY)(s:Nat)(S:Nat->Prop)(d:Nat->Nat)(Q:Nat->Nat->Prop):Prop where
 set: ∀v,S v->Rc E s v (d v)/\ ∀L,Rc E s v L->d v<=L
 wait: ∀v l,Q v l->Rc E s v l
 front: ∀u x w,S u->E u x w->S x\/Q x (d u+w)
 first:S s\/Q s 0
theorem Dj.reach{E:bY}{s:Nat}{S:Nat->Prop}{d:Nat->Nat}{Q:Nat->Nat->Prop}(h:Dj E s S d Q){v L:Nat}(t:Rc E s v L):S v\/ ∃y l,Q y l/\l<=L:=by
 induction t with
 |start=>exact h.first.imp id fun q=>⟨_,_,q,Nat.le_refl _⟩
 | @snoc v x w L t hE ih=>
   rcases ih with hs|⟨y,l,q,hl⟩
   ·have:=(h.set v hs).2 L t
    rcases h.front v x w hs hE with hx|q
    ·exact .inl hx
    ·exact .inr ⟨x,_,q,by omega⟩
   ·exact .inr ⟨y,l,q,by omega⟩
theorem Ob{E:bY}{s:Nat}{S:Nat->Prop}{d:Nat->Nat}{Q Q':Nat->Nat->Prop}(h:Dj E s S d Q){x l:Nat}(hx:S x)
 (h1: ∀v k,Q' v k->Q v k) (h2: ∀v k,Q v k->Q' v k\/(v=x/\k=l)):Dj E s S d Q':=by
 refine⟨h.set,fun v k q=>h.wait v k (h1 v k q),fun u y w hu he=>?_,?_⟩
 ·rcases h.front u y w hu he with q|q
  ·exact .inl q
  ·rcases h2 _ _ q with q|⟨rfl,_⟩
   ·exact .inr q
   ·exact .inl hx
 ·rcases h.first with q|q
  ·exact .inl q
  ·rcases h2 _ _ q with q|⟨rfl,_⟩
   ·exact .inr q
   ·exact .inl hx
structure LK(E:bY)(s:Nat)(S:Nat->Prop)(d:Nat->Nat)(Q:Nat->Nat->Prop)(x:Nat)(l:List (Nat × Nat)):Prop where
 set: ∀v,S v->Rc E s v (d v)/\ ∀L,Rc E s v L->d v<=L
 wait: ∀v l,Q v l->Rc E s v l
 front: ∀u y w,S u->E u y w->(u=x->(y,w)∈l)->S y\/Q y (d u+w)
 first:S s\/Q s 0
theorem G3{E:bY}{s:Nat}{S:Nat->Prop}{d:Nat->Nat}{Q Q':Nat->Nat->Prop}(h:Dj E s S d Q){x l:Nat}(hx: ¬S x)(hq:Q x l)
 (hmin: ∀v k,Q v k->l<=k) (h1: ∀v k,Q' v k->Q v k) (h2: ∀v k,Q v k->Q' v k\/(v=x/\k=l)):
 LK E s (fun v=>S v\/v=x) (fun v=>if v=x then l else d v) Q' x []:=by
 refine⟨fun v hv=>?_,fun v k q=>h.wait v k (h1 v k q),fun u y w hu he hl=>?_,?_⟩
 ·by_cases hvx:v=x
  ·subst hvx
   simp only[if_true]
   refine⟨h.wait _ _ hq,fun L t=>?_⟩
   rcases h.reach t with hs|⟨y,k,q,hk⟩
   ·exact(hx hs).elim
   ·have:=hmin _ _ q;omega
  ·simp only[if_neg hvx]
   exact h.set v (hv.resolve_right hvx)
 ·by_cases hux:u=x
  ·exact absurd (hl hux) (by simp)
  ·simp only[if_neg hux]
   rcases h.front u y w (hu.resolve_right hux) he with q|q
   ·exact .inl (.inl q)
   ·rcases h2 _ _ q with q|⟨rfl,_⟩
    ·exact .inr q
    ·exact .inl (.inr rfl)
 ·rcases h.first with q|q
  ·exact .inl (.inl q)
  ·rcases h2 _ _ q with q|⟨rfl,_⟩
   ·exact .inr q
   ·exact .inl (.inr rfl)
theorem yE{E:bY}{s:Nat}{S:Nat->Prop}{d:Nat->Nat}{Q Q':Nat->Nat->Prop}{x y w:Nat}{l:List (Nat × Nat)}(h:LK E s S d Q x l)(hx:S x)(he:E x y w)
 (h1: ∀v k,Q v k->Q' v k) (h2: ∀v k,Q' v k->Q v k\/(v=y/\k=d x+w)) (h3:S y\/Q' y (d x+w)):LK E s S d Q' x (l++[(y,w)]):=by
 refine⟨h.set,fun v k q=>?_,fun u z v hu hz hl=>?_,h.first.imp id (h1 _ _)⟩
 ·rcases h2 v k q with q|⟨rfl,rfl⟩
  ·exact h.wait v k q
  ·exact .snoc (h.set x hx).1 he
 ·by_cases hux:u=x
  ·subst hux
   rcases List.mem_append.1 (hl rfl) with hm|hm
   ·exact(h.front u z v hu hz fun _=>hm).imp id (h1 _ _)
   ·simp at hm
    obtain⟨rfl,rfl⟩:=hm
    exact h3
  ·exact(h.front u z v hu hz fun e=>(hux e).elim).imp id (h1 _ _)
theorem Kj{E:bY}{s:Nat}{S:Nat->Prop}{d:Nat->Nat}{Q:Nat->Nat->Prop}{x:Nat}{l:List (Nat × Nat)}(h:LK E s S d Q x l)(hl: ∀y w,E x y w->(y,w)∈l):Dj E s S d Q:=
 ⟨h.set,h.wait,fun u y w hu he=>h.front u y w hu he fun e=>hl y w (e ▸ he),h.first⟩
def mV(E:bY)(s v:Nat)(x:Int):Prop:=(x= -1/\ ∀L,¬Rc E s v L)\/(0<=x/\Rc E s v x.toNat/\ ∀L,Rc E s v L->x<=(L:Int))
theorem Sb{E:bY}{s:Nat}{S:Nat->Prop}{d:Nat->Nat}{Q:Nat->Nat->Prop}(h:Dj E s S d Q)(hq: ∀v k,¬Q v k)(v:Nat):
 (S v->mV E s v (d v))/\(¬S v->mV E s v (-1)):=by
 refine⟨fun hs=> .inr ⟨by omega,by simpa using (h.set v hs).1,fun L t=>by have:=(h.set v hs).2 L t;omega⟩,fun hs=> .inl ⟨rfl,fun L t=>?_⟩⟩
 rcases h.reach t with q|⟨y,k,q,_⟩
 ·exact hs q
 ·exact hq _ _ q
abbrev jD:=Nat × Nat × Int × Bool
def uo(a b:Nat)(n f:Int):List jD:=
 (if 0<n/\n<=14400 then [(a,b,n,decide (f=n))] else [])++(if f=n then [] else if 0<f/\f<=14400 then [(a,b,f,true)] else [])
def zx(a b:Nat)(x y:Int):List jD:=
 if 14400<x then [] else (a,b,x,decide (y=x))::(if x<y/\y<=14400 then [(a,b,y,true)] else [])
def Alike(x n:Int):Prop:=(0<x/\x<=14400/\n=x)\/(14400<x/\(n<=0\/14400<n))
theorem Ki{a b:Nat}{x y n f:Int}(h1:Alike x n)(h2:Alike y f)(hxy:x<=y):uo a b n f=zx a b x y:=by
 unfold uo zx
 unfold Alike at h1 h2
 rcases h1 with ⟨p1,p2,rfl⟩|⟨p1,p2⟩
 ·rw[if_pos ⟨p1,p2⟩,if_neg (show¬14400<n by omega)]
  rcases h2 with ⟨q1,q2,rfl⟩|⟨q1,q2⟩
  ·by_cases he:f=n
   ·rw[if_pos he,if_neg (show¬(n<f/\f<=14400) by omega)];rfl
   ·rw[if_neg he,if_pos ⟨q1,q2⟩,if_pos (show n<f/\f<=14400 from⟨by omega,q2⟩)];rfl
  ·have e1: ¬f=n:=by omega
   have e2: ¬y=n:=by omega
   rw[if_neg e1,if_neg (show¬(0<f/\f<=14400) by omega),if_neg (show¬(n<y/\y<=14400) by omega),decide_eq_false e1,decide_eq_false e2];rfl
 ·rw[if_neg (show¬(0<n/\n<=14400) by omega),if_pos p1]
  rcases h2 with ⟨q1,q2,rfl⟩|⟨q1,q2⟩
  ·omega
  ·by_cases he:f=n
   ·rw[if_pos he];rfl
   ·rw[if_neg he,if_neg (show¬(0<f/\f<=14400) by omega)];rfl
def Pos(E:bY):Prop:= ∀a b w,E a b w->0<w
theorem Wk.pos{E:bY}(hp:Pos E){k i j L:Nat}(t:Wk E k i j L):0<L:=by
 cases t with
 |nX h=>exact hp _ _ _ h
 |cons h _ _=>have:=hp _ _ _ h;omega
structure yW(E E':bY):Prop where
 to: ∀a b w,E a b w-> ∃w',w'<=w/\E' a b w'
 fz1: ∀a b w,E' a b w-> ∃w',w'<=w/\E a b w'
theorem CD{E E':bY}{n kC i j:Nat}{x v:Int}(hs:yW E E')(hp:Pos E)(hE: ∀a b w,E' a b w->a<n/\b<n)(hbig:14400<kC)(hij:j≠i)
 (h1:CP E n kC i j x) (h2:mV E' i j v):Alike x v:=by
 obtain⟨a1,a2,a3⟩:=h1
 unfold Alike
 by_cases hx:x<=14400
 ·have t:=a2 (by omega)
  have hpos:=t.pos hp
  have hxp:0<x:=by omega
  obtain⟨L',hL,t'⟩:=t.mono hs.to
  rcases h2 with ⟨_,hno⟩|⟨b1,b2,b3⟩
  ·exact(hno _ t'.rc).elim
  ·have:=b3 _ t'.rc
   rcases b2.wk hE with ⟨h,_⟩|t2
   ·exact(hij h).elim
   ·obtain⟨L2,hL2,t3⟩:=t2.mono hs.fz1
    have:=a3 _ t3
    exact .inl ⟨hxp,hx,by omega⟩
 ·refine .inr ⟨by omega,?_⟩
  rcases h2 with ⟨h,_⟩|⟨b1,b2,b3⟩
  ·exact .inl (by omega)
  ·by_cases hv:v<=14400
   ·rcases b2.wk hE with ⟨h,_⟩|t2
    ·exact(hij h).elim
    ·obtain⟨L2,hL2,t3⟩:=t2.mono hs.fz1
     have:=a3 _ t3
     omega
   ·exact .inr (by omega)
theorem Bu{E F:bY}{n kC i j:Nat}{x y:Int}(hsub: ∀a b w,F a b w-> ∃w',w'<=w/\E a b w')(h1:CP E n kC i j x)(h2:CP F n kC i j y):x<=y\/(kC:Int)<=y:=by
 by_cases hy:y<kC
 ·obtain⟨L,hL,t⟩:=(h2.2.1 hy).mono hsub
  have:=h1.2.2 _ t
  have:=h2.1
  exact .inl (by omega)
 ·exact .inr (by omega)
end Go.jP
namespace Go.Proofs.Nw
open Go Go.AV Tryz Go.jP
set_option maxHeartbeats 4000000
set_option maxRecDepth 100000
def Xf:cS:=⟨0,-1,-1⟩
def fG(l:List cS)(v:Nat):cS:=l[v]?.getD Xf
theorem nP{l:List cS}{v:Nat}(h:v<l.length):l[v]? =some (fG l v):=by
 unfold fG;rw[List.getElem?_eq_getElem h];rfl
theorem JR{l:List cS}{v:Nat}(h:l.length<=v):fG l v=Xf:=by
 unfold fG;rw[List.getElem?_eq_none h];rfl
theorem qR{l:List cS}{i:Nat}(h:i<l.length)(x:cS)(v:Nat):fG (l.set i x) v=if v=i then x else fG l v:=by
 unfold fG
 rw[List.getElem?_set]
 by_cases e:i=v
 ·subst e;simp[h]
 ·have e': ¬v=i:=fun q=>e q.symm
  simp[e,e']
theorem qz(l:List cS): ∀r∈l.map cS.row,r.length=3:=aO l fun _=>rfl
theorem xF(l:List cS):(aY l).length=l.length*3:=by rw[kh (qz l),List.length_map]
theorem A8(l:List cS):bJ (aY l)=true:=j7 (fun _=>rfl) l
theorem jZ{σ:Nat->Option Nat}(l:List cS)(c:Nat):aD σ (aa.az (aV.mk (aY l) c 3 322 true true 0 true))=some (aa.az (aV.mk (aY l) c 3 322 true true 0 true)):=cA (A8 l)
theorem UO{l:List cS}{i:Nat}(h:i<l.length)(c:Nat):ai prog (aV.mk (aY l) c 3 322 true true 0 true) 322 (0+i*3)=some (.agg ⟨(fG l i).row⟩):=
 gJ (rows:=l.map cS.row) rfl underlying322 rfl rfl (qz l) (by rw[List.getElem?_map,nP h];rfl)
theorem IQ{l:List cS}{i:Nat}(h:i<l.length)(c:Nat):ai prog (aV.mk (aY l) c 3 322 true true 0 true) 3 (0+i*3+2)=some (zv (fG l i).gq):=
 mE (rows:=l.map cS.row) rfl underlying3 rfl (qz l) (r:=(fG l i).row) (by rw[List.getElem?_map,nP h];rfl) rfl
theorem Po{l:List cS}{i:Nat}(h:i<l.length)(a:cS):overwrite (aY l) (0+i*3) a.row=some (aY (l.set i a)):=by
 have:=vy (qz l) (i:=i) (by simpa using h) (r':=a.row) rfl
 rw[jH] at this
 exact this
def xn:List Value->List Value
 |_::b::_::r=>b::xn r
 |_=>[]
abbrev yk(l:List cS):List Value:=l.map fun a=>zv a.len
theorem oS: ∀l:List cS,xn (aY l)=yk l
 |[]=>rfl
 |a::l=>by
  show zv a.len::xn (aY l)=_
  rw[oS l];rfl
theorem mF(f:cS->Int)(l:List cS):bJ (l.map fun a=>zv (f a))=true:=by
 rw[de];intro v hv
 obtain⟨a,_,rfl⟩:=List.mem_map.1 hv
 rfl
theorem oE: ∀(n:Nat)(v:List Value),v.length=1->rep n v=List.replicate n (v.headD undef)
 |0,_,_=>rfl
 |n+1,[a],h=>by
  show [a]++rep n [a]=_
  rw[oE n [a] rfl];rfl
theorem nB(row:List Value): ∀n,rep n row=(List.replicate n row).flatten
 |0=>rfl
 |n+1=>by
  show row++rep n row=_
  rw[nB row n];rfl
section
variable{z:T aa}{zn:Nat}
theorem nE{σ:Nat->Option Nat}{cs:List Value}(h:bJ cs=true)(c:Nat):aD σ (aa.az (aV.mk cs c 1 3 true true 0 true))=some (aa.az (aV.mk cs c 1 3 true true 0 true)):=cA h
theorem ND(hz:aw z zn)(l:List cS)(n:Nat)(hl:l.length=n)(hn:n<=1000)(cs:List Value)(hcs:cs.length=n)(hp:bJ cs=true):
 aj prog (ah (ag f211) 0) 2 23 (Gx n 0) [(0,kT (aY l) n),(1,GK cs n)] 2 z zn (Al.R (aaD z zn n (aY l) cs (yk l)).l):=by
 refine ax hD (c7 z) (α:=Nat) 2 23 2 (fun i=>i<=n) (fun i=>Gx n i) (fun i=>[(0,kT (aY l) n),(1,GK ((l.take i).map (fun a=>zv a.len)++cs.drop i) n)]) (fun _=>z) (fun _=>zn) (fun i=>n - i) _ (fun i hI=>?_) 0 (Nat.zero_le _)
 have hpl: ∀j,bJ ((l.take j).map (fun a=>zv a.len)++cs.drop j)=true:=fun j=>by
  rw[de];intro v hv
  rcases List.mem_append.1 hv with q|q
  ·exact de.1 (mF (·.len) (l.take j)) v q
  ·exact de.1 hp v (List.mem_of_mem_drop q)
 by_cases hi:i<n
 ·have hlen:((l.take i).map (fun a=>zv a.len)++cs.drop i).length=n:=by simp;omega
  have o1:=nI (cs:=(l.take i).map (fun a=>zv a.len)++cs.drop i) (i:=i) (by omega) (zv (fG l i).len)
  have e1:((l.take i).map (fun a=>zv a.len)++cs.drop i).set i (zv (fG l i).len)=(l.take (i+1)).map (fun a=>zv a.len)++cs.drop (i+1):=by
   rw[List.take_add_one,nP (by omega),List.map_append]
   rw[List.set_append_right _ _ (by simp;omega)]
   have:i - ((l.take i).map fun a=>zv a.len).length=0:=by simp;omega
   have hd:cs.drop i=cs[i]::cs.drop (i+1):=List.drop_eq_getElem_cons (by omega:i<cs.length)
   rw[this,hd,List.set_cons_zero,List.append_assoc]
   rfl
  rw[e1] at o1
  have hc:decide ((i:Int)<(n:Int))=true:=by simp;omega
  have l1:((l.take (i+1)).map (fun a=>zv a.len)++cs.drop (i+1)).length<=n*1:=by simp;omega
  have r1:=hpl i
  have r2:=hpl (i+1)
  refine t100 (ln0 z zn n i (aY l) ((l.take i).map (fun a=>zv a.len)++cs.drop i) ((l.take (i+1)).map (fun a=>zv a.len)++cs.drop (i+1)) (fG l i) (au _ _ _ _ _ _ _ _ _) ⟨fun _=>?_,nC1 hc⟩)
  (repeat' first|(with_reducible first|exact rfl|assumption|apply And.intro|exact UO (by omega) _|exact jZ _ _|exact nE r2 _|exact bH (by omega)))
  exact⟨i+1,rfl,rfl,rfl,rfl,rfl,hi,by show n - (i+1)<n - i;omega⟩
 ·have hc:decide ((i:Int)<(n:Int))=false:=by simp;omega
  have r1:=hpl i
  refine t100 (ln0 z zn n i (aY l) ((l.take i).map (fun a=>zv a.len)++cs.drop i) [] Xf (au _ _ _ _ _ _ _ _ _) ⟨nC1 hc,fun _=>?_⟩)
  (repeat' first|(with_reducible first|exact rfl|assumption|apply And.intro|exact nE r1 _))
  have:i=n:=by omega
  subst this
  rw[List.take_of_length_le (by omega),List.drop_eq_nil_of_le (by omega),List.append_nil]
  exact bh trivial
theorem Sv(hz:aw z zn)(l:List cS)(n:Nat)(hl:l.length=n)(hn:n<=1000):
 A1 z zn 211 [bd 0 n n] [(0,kT (aY l) n)] 1 2 (bd 1 n n) [(1,GK (xn (aY l)) n)]:=by
 have e0:rep n [I 0]=List.replicate n (I 0):=oE n [I 0] rfl
 have hp:bJ (rep n [I 0])=true:=by
  rw[e0,de];intro v hv;rw[List.eq_of_mem_replicate hv];rfl
 have hK:=ND hz l n hl hn (rep n [I 0]) (by rw[e0];simp) hp
 have r3: ∀σ,_:=fun σ=>nE (σ:=σ) (mF (·.len) l) (n*1)
 rw[oS]
 refine aK1 (c7 z) (fn:=f211) hz (N:=100) ?_
 refine ln z zn n (aY l) (rep n [I 0]) (yk l) _ ?_
 (repeat' first|(with_reducible first|exact rfl|assumption|apply And.intro|exact jZ _ _|exact nE hp _|exact r3 _|exact(by omega:n<=1048576)|exact q1)|exact hK|intro hq)
end
abbrev pe:=Int × Nat × List eO
def mT(L:List pe)(a:Int):List eO:=((L.find? fun x=>x.1==a).map (·.2.2)).getD []
structure ZQ(z:T aa)(zn n:Nat)(L:List pe):Prop where
 row: ∀x∈L,∃kb:aV,z.get x.2.1=some (.az kb)/\kb.cells=bF x.2.2
 nX: ∀x∈L,x.2.2.length<=4096/\ ∀e∈x.2.2,0<=e.aB/\e.aB<n/\0<=e.wt/\e.wt<=1073741824
def GE(L:List pe):bY:=fun u v w=> ∃e∈mT L (u:Int),e.aB=(v:Int)/\e.wt=(w:Int)
theorem nU(L:List pe)(a:Int): ∀i j,(∃p x,aE prog 3 (zv a) (fo j L) i=some (some (p,tb x.2.1 x.2.2.length x.2.2.length))/\x∈L/\L.find? (fun x=>x.1==a)=some x/\i<=p/\L[p - i]? =some x)\/(aE prog 3 (zv a) (fo j L) i=some none/\L.find? (fun x=>x.1==a)=none):=by
 induction L with
 |nil=>intro i j;exact .inr ⟨rfl,rfl⟩
 |cons y l ih=>
  intro i j
  obtain⟨b,k,r⟩:=y
  simp only[fo,aE,aC,Kg]
  by_cases h:a=b
  ·subst h
   refine .inl ⟨i,(a,k,r),by simp,List.mem_cons_self ..,by simp,Nat.le_refl _,by simp⟩
  ·have hd:decide (a=b)=false:=by simp[h]
   have hb:(b==a)=false:=by simp;exact fun e=>h e.symm
   rw[hd]
   simp only[List.find?_cons,hb]
   rcases ih (i+1) (j+1) with ⟨p,x,q1,q2,q3,q4,q5⟩|⟨q1,q2⟩
   ·refine .inl ⟨p,x,q1,List.mem_cons_of_mem _ q2,q3,by omega,?_⟩
    rw[show p - i=(p - (i+1))+1 by omega,List.getElem?_cons_succ];exact q5
   ·exact .inr ⟨q1,q2⟩
theorem UX(L:List pe)(a:Int):aE prog 3 (zv a) (fo 0 L) 0≠none:=by
 rcases nU L a 0 0 with ⟨p,x,q,_⟩|⟨q,_⟩<;>rw[q]<;>simp
theorem UY(L:List pe)(a:Int)(p:Nat × Value)(h:aE prog 3 (zv a) (fo 0 L) 0=some (some p)): ∃x:Nat × Nat × Nat,p=(x.1,tb x.2.1 x.2.2 x.2.2):=by
 rcases nU L a 0 0 with ⟨q,x,e,_⟩|⟨e,_⟩
 ·rw[e] at h;cases h;exact⟨(q,x.2.1,x.2.2.length),rfl⟩
 ·rw[e] at h;cases h
theorem Q8(L:List pe)(a:Int){i:Nat × Nat × Nat}(h:aE prog 3 (zv a) (fo 0 L) 0=some (some (i.1,tb i.2.1 i.2.2 i.2.2))): ∃x∈L,mT L a=x.2.2/\i.2.1=x.2.1/\i.2.2=x.2.2.length:=by
 rcases nU L a 0 0 with ⟨q,x,e,h1,h2,_⟩|⟨e,_⟩
 ·rw[e] at h
  simp only[Option.some.injEq,Prod.mk.injEq,Value.slice.injEq,Addr.mk.injEq,and_true] at h
  obtain⟨_,h3,h4,_⟩:=h
  refine⟨x,h1,by unfold mT;rw[h2];rfl,by omega,h4.symm⟩
 ·rw[e] at h;cases h
theorem Q7(L:List pe)(a:Int)(h:aE prog 3 (zv a) (fo 0 L) 0=some none):mT L a=[]:=by
 rcases nU L a 0 0 with ⟨q,x,e,_⟩|⟨e,h2⟩
 ·rw[e] at h;cases h
 ·unfold mT;rw[h2];rfl
theorem uj{σ:Nat->Option Nat}: ∀{L:List pe} (i:Nat),(∀x∈L,σ (256*x.2.1+510)=some (256*x.2.1+510))->g9 σ (fo i L)=some (fo i L)
 |[],_,_=>rfl
 |(a,k,r)::l,i,h=>by
  have hk:=h (a,k,r) (List.mem_cons_self ..)
  simp only at hk
  simp only[fo,g9,aP,hk,uj (i+1) fun x hx=>h x (List.mem_cons_of_mem _ hx)]
theorem IL{σ:Nat->Option Nat}{L:List pe}(h: ∀x∈L,σ (256*x.2.1+510)=some (256*x.2.1+510))(c:Nat):aD σ (aa.map (fo 0 L) c)=some (aa.map (fo 0 L) c):=by
 simp only[aD,uj 0 h]
theorem zt(σ:bq)(L:List pe)(c:Nat):aD (sig σ) (aa.map (fo 0 L) c)=some (aa.map (fo 0 L) c):=IL (fun x _=>jo (by unfold cO;omega)) c
theorem g6(σ:bq)(L:List pe)(c:Nat):aD (ay σ []) (aa.map (fo 0 L) c)=some (aa.map (fo 0 L) c):=zt σ L c
theorem qy(l:List eO): ∀r∈l.map eO.row,r.length=3:=aO l fun _=>rfl
def LQ(s:rW)(v l:Nat):Prop:= ∃a,gT (hf s.ms) s.n a/\a.x.node=(v:Int)/\a.x.len=(l:Int)
def LS(out:List cS)(v:Nat):Prop:=0<=(fG out v).gq
def Ld(out:List cS)(v:Nat):Nat:=(fG out v).len.toNat
def lJ(out:List cS):Nat:=out.countP fun a=>decide (0<=a.gq)
def HB(n c:Nat)(s:rW):Prop:= ∀a,gT (hf s.ms) s.n a->0<=a.x.node/\a.x.node<n/\0<=a.x.len/\a.x.len<=a.x.gq*1073741824/\0<=a.x.gq/\a.x.gq<=c
structure F7(n:Nat)(out:List cS):Prop where
 len:out.length=n
 Fo: ∀v,v<n->(0<=(fG out v).gq/\0<=(fG out v).len)\/((fG out v).gq<0/\(fG out v).len= -1)
abbrev prs(r:List eO):List (Nat × Nat):=r.map fun e=>(e.aB.toNat,e.wt.toNat)
structure O9(L:List pe)(n fr:Nat)(out:List cS)(x:Nat)(s0:rW)(l:List eO)(j:Nat)(s:rW):Prop where
 ok:wT s
 one:1<=s.ms.length
 hb:HB n (lJ out) s
 dj:LK (GE L) fr (LS out) (Ld out) (LQ s) x (prs l)
 p:s.p<=s0.p+j
 n:s.n<=s0.n+j
section
variable{z:T aa}{zn:Nat}
theorem JE(hz:aw z zn)(L:List pe)(n fr:Nat)(hL:ZQ z zn n L)(hn:n<=64)(out:List cS)(ho:F7 n out)(hc:lJ out<=n)(y:pe)(hy:y∈L)(a:cS)(x:Nat)(hx:a.node=(x:Int))(hxn:x<n)(hadj:mT L (x:Int)=y.2.2)(hax:fG out x=a)(ha0:0<=a.gq)(hal:0<=a.len)(hab:a.len<=a.gq*1073741824)(hac:a.gq+1<=lJ out)(s0:rW)(hs0:O9 L n fr out x s0 [] 0 s0)(hp:s0.p<=900000):
 aj prog (ah (ah (ag f212) 1) 0) 6 82 (DG n y.2.1 y.2.2.length 0) (r9 n L.length (fo 0 L) (aY out) a (yu 6 s0) (xL s0)) 7 z zn (Al.R (VC z zn n y.2.1 y.2.2.length L.length (fo 0 L) (aY out) a (yu 6 s0) (xL s0) (O9 L n fr out x s0 y.2.2 y.2.2.length)).l):=by
 obtain⟨kb,hk1,hk2⟩:=hL.row y hy
 obtain⟨hr1,hr2⟩:=hL.nX y hy
 refine ax hD (c7 z) (α:=Nat × rW) 6 82 7 (fun t=>t.1<=y.2.2.length/\O9 L n fr out x s0 (y.2.2.take t.1) t.1 t.2) (fun t=>DG n y.2.1 y.2.2.length t.1) (fun t=>r9 n L.length (fo 0 L) (aY out) a (yu 6 t.2) (xL t.2)) (fun _=>z) (fun _=>zn) (fun t=>y.2.2.length - t.1) _ (fun t hI=>?_) (0,s0) ⟨Nat.zero_le _,hs0⟩
 obtain⟨j,s⟩:=t
 obtain⟨h1,h2⟩:=hI
 simp only at h1 h2 ⊢
 have rb:aD (ay [(0,0),(1,1),(2,2),(5,5),(6,6)] []) (dZ (aG s.ms) (s.ms.length*4))=some (dZ (aG s.ms) (s.ms.length*4)):=QW _ _
 by_cases hj:j<y.2.2.length
 ·obtain⟨e,he⟩:=dm hj
  have hem:e∈y.2.2:=List.mem_of_getElem? he
  obtain⟨e1,e2,e3,e4⟩:=hr2 e hem
  have hto:e.aB=(e.aB.toNat:Int):=by omega
  have htn:e.aB.toNat<out.length:=by rw[ho.len];omega
  have hrow:ai prog kb 272 (0+j*3)=some (.agg ⟨e.row⟩):=gJ (rows:=y.2.2.map eO.row) hk2 underlying272 rfl rfl (qy _) (by rw[List.getElem?_map,he];rfl)
  have hedg:=IQ (l:=out) htn (n*3)
  have htk:y.2.2.take (j+1)=y.2.2.take j++[e]:=by rw[List.take_add_one,he];rfl
  have hps:prs (y.2.2.take (j+1))=prs (y.2.2.take j)++[(e.aB.toNat,e.wt.toNat)]:=by rw[htk];simp
  have hpb:s.p+1<=1000000:=by have:=h2.p;omega
  have hge:GE L x e.aB.toNat e.wt.toNat:=⟨e,by rw[hadj];exact hem,hto,by omega⟩
  have hLd:Ld out x=a.len.toNat:=by unfold Ld;rw[hax]
  have hSx:LS out x:=by unfold LS;rw[hax];exact ha0
  have hpush:=Sp hz s h2.ok h2.one hpb ⟨e.aB,a.len+e.wt,a.gq+1⟩
  have w1:Value.int .i64 (IntKind.i64.wrap (a.len+e.wt))=Value.int .i64 (a.len+e.wt):=gV (by omega) (by omega)
  have w2:Value.int .i64 (IntKind.i64.wrap (a.gq+1))=Value.int .i64 (a.gq+1):=gV (by omega) (by omega)
  have hcd:decide ((j:Int)<(y.2.2.length:Int))=true:=by simp;omega
  refine t100 (lb2 z zn n s.n s.ms.length (s.ms.length*4) y.2.1 y.2.2.length j e.aB.toNat L.length kb s.p (fG out e.aB.toNat).gq (fo 0 L) (aY out) (aG s.ms) a e (pushφ s ⟨e.aB,a.len+e.wt,a.gq+1⟩) (au _ _ _ _ _ _ _ _ _) ⟨fun _=>?_,nC1 hcd⟩)
  (repeat' first|(with_reducible first|exact rfl|assumption|apply And.intro|exact(by omega:e.aB.toNat<n)|exact cE _ _|exact g6 _ _ _|exact jZ _ _|exact bH (by omega))|exact hpush|intro hq)
  ·
   rename_i ms'
   obtain⟨p1,p2,p3,p4⟩:=hq
   have hlp:=h2.ok.lp
   have hp0:=h2.ok.p0
   have h2p:=h2.p
   have h2n:=h2.n
   refine⟨(j+1,⟨s.n+1,ms',s.p+1⟩),rfl,rfl,rfl,rfl,rfl,⟨hj,?_⟩,by show y.2.2.length - (j+1)<y.2.2.length - j;omega⟩
   show O9 L n fr out x s0 (y.2.2.take (j+1)) (j+1) ⟨s.n+1,ms',s.p+1⟩
   have hval: ∀v,gT (hf ms') (s.n+1) v↔v=⟨⟨e.aB,a.len+e.wt,a.gq+1⟩,s.p⟩\/gT (hf s.ms) s.n v:=p4
   refine⟨⟨p1,p3,by show 0<=s.p+1;omega,hpb,by show(ms'.length:Int)<=s.p+1;omega⟩,by show 1<=ms'.length;omega,fun b hb=>?_,?_,by show s.p+1<=s0.p+((j+1:Nat):Int);omega,by show s.n+1<=s0.n+(j+1);omega⟩
   ·rcases (hval b).1 hb with rfl|hb
    ·exact⟨e1,e2,by show 0<=a.len+e.wt;omega,by show a.len+e.wt<=(a.gq+1)*1073741824;omega,by show 0<=a.gq+1;omega,hac⟩
    ·exact h2.hb b hb
   ·rw[hps]
    refine yE h2.dj hSx hge (fun v k ⟨b,q1,q2,q3⟩=>⟨b,(hval b).2 (.inr q1),q2,q3⟩) (fun v k ⟨b,q1,q2,q3⟩=>?_) (.inr ⟨_,(hval _).2 (.inl rfl),hto,?_⟩)
    ·rcases (hval b).1 q1 with rfl|q1
     ·right
      simp only at q2 q3
      rw[hLd]
      omega
     ·exact .inl ⟨b,q1,q2,q3⟩
    ·show a.len+e.wt=_
     rw[hLd];omega
  ·have hneg:decide ((fG out e.aB.toNat).gq<0)=false:=by with_reducible assumption
   have hS:LS out e.aB.toNat:=by unfold LS;simpa using hneg
   have h2p:=h2.p
   have h2n:=h2.n
   refine⟨(j+1,s),rfl,rfl,rfl,rfl,rfl,⟨hj,?_⟩,by show y.2.2.length - (j+1)<y.2.2.length - j;omega⟩
   show O9 L n fr out x s0 (y.2.2.take (j+1)) (j+1) s
   refine⟨h2.ok,h2.one,h2.hb,?_,by show s.p<=s0.p+((j+1:Nat):Int);omega,by omega⟩
   rw[hps]
   exact yE h2.dj hSx hge (fun v k q=>q) (fun v k q=> .inl q) (.inl hS)
 ·have hje:j=y.2.2.length:=by omega
  have hcd:decide ((j:Int)<(y.2.2.length:Int))=false:=by simp;omega
  refine t100 (lb2 z zn n s.n s.ms.length (s.ms.length*4) y.2.1 y.2.2.length j 0 L.length kb s.p 0 (fo 0 L) (aY out) (aG s.ms) a ⟨0,0,0⟩ (fun _=>False) (au _ _ _ _ _ _ _ _ _) ⟨nC1 hcd,fun _=>?_⟩)
  (repeat' first|(with_reducible first|exact rfl|assumption|apply And.intro|exact cE _ _|exact g6 _ _ _|exact jZ _ _))
  subst hje
  rw[List.take_of_length_le (Nat.le_refl _)] at h2
  exact Ej (k:=fun _=>eU) s h2 rfl
end
end Go.Proofs.Nw
namespace Go.Proofs.Nw
open Go Go.AV Tryz Go.jP
set_option maxHeartbeats 1000000
set_option maxRecDepth 100000
theorem Td{out:List cS}{nd:Nat}(h:nd<out.length){a:cS}(ha:0<=a.gq):LS (out.set nd a)=fun v=>LS out v\/v=nd:=by
 funext v
 apply propext
 unfold LS
 rw[qR h]
 by_cases e:v=nd
 ·simp[e,ha]
 ·simp[e]
theorem Tc{out:List cS}{nd:Nat}(h:nd<out.length)(a:cS):Ld (out.set nd a)=fun v=>if v=nd then a.len.toNat else Ld out v:=by
 funext v
 unfold Ld
 rw[qR h]
 split<;>rfl
theorem FB{out:List cS}{nd:Nat}(h:nd<out.length){a:cS}(ha:0<=a.gq)(hn: ¬LS out nd):lJ (out.set nd a)=lJ out+1:=by
 unfold lJ
 have hg:out[nd]=fG out nd:=by have:=nP h;rw[List.getElem?_eq_getElem h] at this;exact Option.some.inj this
 rw[List.countP_set h,hg]
 have h1:decide (0<=(fG out nd).gq)=false:=by unfold LS at hn;simpa using hn
 simp[h1,ha]
theorem Ko(out:List cS):lJ out<=out.length:=List.countP_le_length
theorem E0{n:Nat}{out:List cS}(ho:F7 n out){nd:Nat}(h:nd<n){a:cS}(ha:0<=a.gq)(hl:0<=a.len):F7 n (out.set nd a):=by
 refine⟨by rw[List.length_set];exact ho.len,fun v hv=>?_⟩
 rw[qR (by rw[ho.len];exact h)]
 by_cases e:v=nd
 ·rw[if_pos e];exact .inl ⟨ha,hl⟩
 ·rw[if_neg e];exact ho.Fo v hv
structure Te(L:List pe)(n fr:Nat)(out:List cS)(s:rW):Prop where
 oo:F7 n out
 ok:wT s
 one:1<=s.ms.length
 hb:HB n (lJ out) s
 dj:Dj (GE L) fr (LS out) (Ld out) (LQ s)
 p:s.p<=1+4096*(lJ out:Int)
def Foφ(L:List pe)(n fr:Nat)(l:List cS):Prop:=l.length=n/\ ∀v,v<n->mV (GE L) fr v (fG l v).len
theorem NU{L:List pe}{n fr:Nat}{out:List cS}{s:rW}(h:Te L n fr out s)(h0:s.n=0):Foφ L n fr out:=by
 refine⟨h.oo.len,fun v hv=>?_⟩
 have hq: ∀v k,¬LQ s v k:=fun v k ⟨a,⟨i,hi,_⟩,_⟩=>by omega
 obtain⟨q1,q2⟩:=Sb h.dj hq v
 rcases h.oo.Fo v hv with ⟨e1,e2⟩|⟨e1,e2⟩
 ·have:=q1 e1
  unfold Ld at this
  rw[show((fG out v).len.toNat:Int)=(fG out v).len by omega] at this
  exact this
 ·rw[e2]
  exact q2 (by unfold LS;omega)
section
variable{z:T aa}{zn:Nat}
theorem GG(hz:aw z zn)(L:List pe)(n:Nat)(out:List cS)(a:cS)(n' c cc:Nat)(p:Int)(ms:List cx):
 aj prog (ah (ah (ag f212) 1) 0) 6 82 (yf n) (r9 n L.length (fo 0 L) (aY out) a (eJ (bd 6 n' c) p) (dZ (aG ms) cc)) 7 z zn (Al.R (VB z zn n L.length (fo 0 L) (aY out) a (eJ (bd 6 n' c) p) (dZ (aG ms) cc)).l):=by
 refine ax hD (c7 z) (α:=Nat) 6 82 7 (fun t=>t=0) (fun t=>yf n) (fun t=>r9 n L.length (fo 0 L) (aY out) a (eJ (bd 6 n' c) p) (dZ (aG ms) cc)) (fun _=>z) (fun _=>zn) (fun t=>1) _ (fun t hI=>?_) 0 rfl
 refine t100 (aaN z zn n n' c cc L.length p (fo 0 L) (aY out) (aG ms) a (au _ _ _ _ _ _ _ _ _) ?_)
 (repeat' first|(with_reducible first|exact rfl|assumption|apply And.intro|exact cE _ _|exact g6 _ _ _|exact jZ _ _))
 exact bh trivial
theorem JF(hz:aw z zn)(L:List pe)(n fr:Nat)(hL:ZQ z zn n L)(hn:n<=64)(out0:List cS)(s0:rW)(h0:Te L n fr out0 s0):
 aj prog (ah (ag f212) 1) 4 82 (mI n) [(0, .map (fo 0 L) L.length),(1,kT (aY out0) n),(2,yu 4 s0),(4,xL s0)] 5 z zn (Al.R (Nl z zn n L.length (fo 0 L) (aY out0) (yu 4 s0) (xL s0) (Foφ L n fr)).l):=by
 refine ax hD (c7 z) (α:=List cS × rW) 4 82 5 (fun t=>Te L n fr t.1 t.2) (fun t=>mI n) (fun t=>[(0, .map (fo 0 L) L.length),(1,kT (aY t.1) n),(2,yu 4 t.2),(4,xL t.2)]) (fun _=>z) (fun _=>zn) (fun t=>(n - lJ t.1)*4200+t.2.n) _ (fun t hI=>?_) (out0,s0) h0
 obtain⟨out,s⟩:=t
 simp only at hI ⊢
 by_cases hs0:s.n=0
 ·have JX:A1 z zn 241 [ip 0] [(0,eJ (bd 1 s.n s.ms.length) s.p),(1,dZ (aG s.ms) (s.ms.length*4))] 2 2 (.tuple ⟨[.agg ⟨[I 0,I 0,I 0]⟩,F0]⟩) [(0,eJ (bd 1 s.n s.ms.length) s.p),(1,dZ (aG s.ms) (s.ms.length*4))]:=by
   rw[hs0];exact Sr hz s.ms s.ms.length (s.ms.length*4) s.p
  refine t100 (aaO z zn n s.n s.ms.length (s.ms.length*4) L.length s.p (fo 0 L) (aY out) (aG s.ms) (au _ _ _ _ _ _ _ _ _) ?_)
  (repeat' first|(with_reducible first|exact rfl|assumption|apply And.intro|exact cE _ _|exact g6 _ _ _|exact jZ _ _)|exact JX|intro hq)
  exact Ej (k:=fun _=>eU) out (NU hI hs0) rfl
 ·have hpos:0<s.n:=by omega
  have hcn:lJ out<=n:=by have:=Ko out;rw[hI.oo.len] at this;exact this
  obtain⟨b1,b2,b3,b4,b5,b6⟩:=hI.hb (hf s.ms 0) ⟨0,hpos,rfl⟩
  have hpI:=hI.p
  have hlp:=hI.ok.lp
  have hlen:=hI.ok.len
  have JX:=Wd hz s.ms s.n s.ms.length (s.ms.length*4) s.p hpos hI.ok.len hI.ok.len (Nat.le_refl _) (by have:=hI.ok.pb;omega) hI.ok.heap
  have hnd:(hf s.ms 0).x.node=((hf s.ms 0).x.node.toNat:Int):=by omega
  generalize hnd':(hf s.ms 0).x.node.toNat=nd at hnd
  have hndn:nd<n:=by omega
  have hedg:=IQ (l:=out) (i:=nd) (by rw[hI.oo.len];exact hndn) (n*3)
  have hov:=Po (l:=out) (i:=nd) (by rw[hI.oo.len];exact hndn) (hf s.ms 0).x
  have l1:(aY (out.set nd (hf s.ms 0).x)).length<=n*3:=by rw[xF,List.length_set,hI.oo.len];exact Nat.le_refl _
  have vals: ∀ms',popφ s.ms s.n ms'-> ∀b,gT (hf ms') (s.n - 1) b->gT (hf s.ms) s.n b:=fun ms' hp b hb=>by
   obtain⟨i,i1,i2,i3⟩:=(hp.2.2 b).1 hb
   exact⟨i,i2,i3⟩
  have q1: ∀ms',popφ s.ms s.n ms'-> ∀v k,LQ ⟨s.n - 1,ms',s.p⟩ v k->LQ s v k:=fun ms' hp v k ⟨b,k1,k2,k3⟩=>⟨b,vals ms' hp b k1,k2,k3⟩
  have q2: ∀ms',popφ s.ms s.n ms'-> ∀v k,LQ s v k->LQ ⟨s.n - 1,ms',s.p⟩ v k\/(v=nd/\k=(hf s.ms 0).x.len.toNat):=fun ms' hp v k ⟨b,⟨i,i1,i2⟩,k2,k3⟩=>by
   by_cases e:i=0
   ·subst e;subst i2;right;omega
   ·exact .inl ⟨b,(hp.2.2 b).2 ⟨i,by omega,i1,i2⟩,k2,k3⟩
  have ok1: ∀ms',popφ s.ms s.n ms'->wT ⟨s.n - 1,ms',s.p⟩:=fun ms' hp=>⟨by show s.n - 1<=ms'.length;rw[hp.1];omega,hp.2.1,hI.ok.p0,hI.ok.pb,by show(ms'.length:Int)<=s.p;rw[hp.1];exact hlp⟩
  have hb1: ∀ms',popφ s.ms s.n ms'-> ∀c,lJ out<=c->HB n c ⟨s.n - 1,ms',s.p⟩:=fun ms' hp c hc b hb=>by
   obtain⟨k1,k2,k3,k4,k5,k6⟩:=hI.hb b (vals ms' hp b hb)
   exact⟨k1,k2,k3,k4,k5,by omega⟩
  have st: ∀ms',popφ s.ms s.n ms'-> ¬LS out nd->O9 L n fr (out.set nd (hf s.ms 0).x) nd ⟨s.n - 1,ms',s.p⟩ [] 0 ⟨s.n - 1,ms',s.p⟩:=fun ms' hp hns=>by
   have hc1:=FB (by rw[hI.oo.len];exact hndn) b5 hns
   refine⟨ok1 ms' hp,by show 1<=ms'.length;rw[hp.1];exact hI.one,hb1 ms' hp _ (by omega),?_,by show s.p<=s.p+((0:Nat):Int);omega,Nat.le_refl _⟩
   rw[Td (by rw[hI.oo.len];exact hndn) b5,Tc (by rw[hI.oo.len];exact hndn)]
   refine G3 hI.dj hns ⟨_,⟨0,hpos,rfl⟩,hnd,by omega⟩ (fun v k ⟨b,⟨i,i1,i2⟩,k2,k3⟩=>?_) (q1 ms' hp) (q2 ms' hp)
   have hm:=JY jk hI.ok.heap i i1
   rw[i2] at hm
   have: ¬dU b (hf s.ms 0)=true:=by rw[hm];simp
   rw[n7] at this
   omega
  have hcl: ¬LS out nd->lJ (out.set nd (hf s.ms 0).x)=lJ out+1/\lJ out+1<=n:=fun hns=>by
   have hc1:=FB (by rw[hI.oo.len];exact hndn) b5 hns
   have:=Ko (out.set nd (hf s.ms 0).x)
   rw[List.length_set,hI.oo.len] at this
   exact⟨hc1,by omega⟩
  have hin: ∀ms',popφ s.ms s.n ms'-> ¬LS out nd-> ∀i:Nat × Nat × Nat,aE prog 3 (zv (hf s.ms 0).x.node) (fo 0 L) 0=some (some (i.1,tb i.2.1 i.2.2 i.2.2))->
   aj prog (ah (ah (ag f212) 1) 0) 6 82 (DG n i.2.1 i.2.2 0) (r9 n L.length (fo 0 L) (aY (out.set nd (hf s.ms 0).x)) (hf s.ms 0).x (eJ (bd 6 (s.n - 1) s.ms.length) s.p) (dZ (aG ms') (s.ms.length*4))) 7 z zn
    (Al.R (VC z zn n i.2.1 i.2.2 L.length (fo 0 L) (aY (out.set nd (hf s.ms 0).x)) (hf s.ms 0).x (eJ (bd 6 (s.n - 1) s.ms.length) s.p) (dZ (aG ms') (s.ms.length*4)) (O9 L n fr (out.set nd (hf s.ms 0).x) nd ⟨s.n - 1,ms',s.p⟩ (mT L nd) (mT L nd).length)).l):=fun ms' hp hns i hi=>by
   obtain⟨y,y1,y2,y3,y4⟩:=Q8 L _ hi
   rw[hnd] at y2
   obtain⟨c1,c2⟩:=hcl hns
   have:=JE hz L n fr hL hn (out.set nd (hf s.ms 0).x) (E0 hI.oo hndn b5 b3) (by omega) y y1 (hf s.ms 0).x nd hnd hndn y2 (by rw[qR (by rw[hI.oo.len];exact hndn),if_pos rfl]) b5 b3 b4 (by omega) ⟨s.n - 1,ms',s.p⟩ (st ms' hp hns) (by show s.p<=900000;omega)
   simp only[yu,xL,hp.1] at this
   rw[y3,y4,y2]
   exact this
  have kF: ∀ms',popφ s.ms s.n ms'-> ¬LS out nd-> ∀s2,O9 L n fr (out.set nd (hf s.ms 0).x) nd ⟨s.n - 1,ms',s.p⟩ (mT L nd) (mT L nd).length s2->
   au (fun t:List cS × rW=>Te L n fr t.1 t.2) (fun t=>mI n) (fun t=>[(0, .map (fo 0 L) L.length),(1,kT (aY t.1) n),(2,yu 4 t.2),(4,xL t.2)]) 5 (fun _=>z) (fun _=>zn) (fun t=>(n - lJ t.1)*4200+t.2.n) (Al.R (Nl z zn n L.length (fo 0 L) (aY out0) (yu 4 s0) (xL s0) (Foφ L n fr)).l) (out,s) .normal (mI n) [(0, .map (fo 0 L) L.length),(1,kT (aY (out.set nd (hf s.ms 0).x)) n),(2,yu 4 s2),(4,xL s2)] 5 z zn:=fun ms' hp hns s2 h2=>by
   obtain⟨c1,c2⟩:=hcl hns
   have hal:(mT L (nd:Int)).length<=4096:=by
    unfold mT
    cases hfd:L.find? (fun x=>x.1==(nd:Int)) with
    |none=>simp
    |some y=>exact(hL.nX y (List.mem_of_find?_eq_some hfd)).1
   have h2p:s2.p<=s.p+(((mT L (nd:Int)).length:Nat):Int):=h2.p
   have h2n:s2.n<=s.n - 1+(mT L (nd:Int)).length:=h2.n
   refine⟨(out.set nd (hf s.ms 0).x,s2),rfl,rfl,rfl,rfl,rfl,⟨E0 hI.oo hndn b5 b3,h2.ok,h2.one,h2.hb,Kj h2.dj (fun u w ⟨e,e1,e2,e3⟩=>?_),by show s2.p<=1+4096*((lJ (out.set nd (hf s.ms 0).x):Nat):Int);omega⟩,?_⟩
   ·exact List.mem_map.2 ⟨e,e1,by rw[e2,e3];simp⟩
   ·show(n - lJ (out.set nd (hf s.ms 0).x))*4200+s2.n<(n - lJ out)*4200+s.n
    rw[c1]
    obtain⟨m,hm⟩: ∃m,n - lJ out=m+1:=⟨n - lJ out - 1,by omega⟩
    rw[show n - (lJ out+1)=m by omega,hm]
    omega
  have nx0: ∀ms',popφ s.ms s.n ms'-> ¬LS out nd->mT L (nd:Int)=[]->au (fun t:List cS × rW=>Te L n fr t.1 t.2) (fun t=>mI n) (fun t=>[(0, .map (fo 0 L) L.length),(1,kT (aY t.1) n),(2,yu 4 t.2),(4,xL t.2)]) 5 (fun _=>z) (fun _=>zn) (fun t=>(n - lJ t.1)*4200+t.2.n) (Al.R (Nl z zn n L.length (fo 0 L) (aY out0) (yu 4 s0) (xL s0) (Foφ L n fr)).l) (out,s) .normal (mI n) [(0, .map (fo 0 L) L.length),(1,kT (aY (out.set nd (hf s.ms 0).x)) n),(2,eJ (bd 4 (s.n - 1) s.ms.length) s.p),(4,dZ (aG ms') (s.ms.length*4))] 5 z zn:=fun ms' hp hns had=>by
   have:=kF ms' hp hns ⟨s.n - 1,ms',s.p⟩ (by rw[had];exact st ms' hp hns)
   simp only[yu,xL,hp.1] at this ⊢
   exact this
  have skp: ∀ms',popφ s.ms s.n ms'->LS out nd->au (fun t:List cS × rW=>Te L n fr t.1 t.2) (fun t=>mI n) (fun t=>[(0, .map (fo 0 L) L.length),(1,kT (aY t.1) n),(2,yu 4 t.2),(4,xL t.2)]) 5 (fun _=>z) (fun _=>zn) (fun t=>(n - lJ t.1)*4200+t.2.n) (Al.R (Nl z zn n L.length (fo 0 L) (aY out0) (yu 4 s0) (xL s0) (Foφ L n fr)).l) (out,s) .normal (mI n) [(0, .map (fo 0 L) L.length),(1,kT (aY out) n),(2,eJ (bd 4 (s.n - 1) s.ms.length) s.p),(4,dZ (aG ms') (s.ms.length*4))] 5 z zn:=fun ms' hp hS=>by
   refine⟨(out,⟨s.n - 1,ms',s.p⟩),rfl,?_,rfl,rfl,rfl,⟨hI.oo,ok1 ms' hp,by show 1<=ms'.length;rw[hp.1];exact hI.one,hb1 ms' hp _ (Nat.le_refl _),Ob hI.dj hS (q1 ms' hp) (q2 ms' hp),hI.p⟩,by show(n - lJ out)*4200+(s.n - 1)<(n - lJ out)*4200+s.n;omega⟩
   simp only[yu,xL,hp.1]
  refine t100 (lb1 z zn n s.n s.ms.length (s.ms.length*4) nd L.length s.p (fG out nd).gq (fo 0 L) (aY out) (aY (out.set nd (hf s.ms 0).x)) (aG s.ms) (hf s.ms 0).x (popφ s.ms s.n) (fun ms' _ _=>O9 L n fr (out.set nd (hf s.ms 0).x) nd ⟨s.n - 1,ms',s.p⟩ (mT L nd) (mT L nd).length) (au _ _ _ _ _ _ _ _ _) ?_)
  have ns:decide ((fG out nd).gq>=0)=false-> ¬LS out nd:=fun h=>by unfold LS;simpa using h
  (repeat' first|(with_reducible first|exact rfl|assumption|apply And.intro|exact UX _ _|exact UY _ _|exact cE _ _|exact g6 _ _ _|exact jZ _ _)|exact JX|exact hin _ (by assumption) (ns (by assumption)) _ (by assumption)|exact GG hz _ _ _ _ _ _ _ _ _|intro hq)
  ·have hS:LS out nd:=by unfold LS;have:decide ((fG out nd).gq>=0)=true:=(by with_reducible assumption);simpa using this
   exact skp _ (by with_reducible assumption) hS
  ·exact kF _ (by with_reducible assumption) (ns (by with_reducible assumption)) _ hq
  ·have hns:=ns (by assumption)
   have had:mT L (nd:Int)=[]:=by
    have h:aE prog 3 (zv (hf s.ms 0).x.node) (fo 0 L) 0=some none:=by with_reducible assumption
    rw[←hnd];exact Q7 L _ h
   exact nx0 _ (by with_reducible assumption) hns had
theorem Gj(n:Nat)(row:List Value)(h:bJ row=true):bJ (rep n row)=true:=by
 rw[nB,de];intro v hv
 obtain⟨r,hr,hv⟩:=List.mem_flatten.1 hv
 rw[List.eq_of_mem_replicate hr] at hv
 exact de.1 h v hv
theorem QV(n:Nat):rep n [I 0,I 0,I 0]=aY (List.replicate n ⟨0,0,0⟩):=by
 rw[nB]
 show _=((List.replicate n (⟨0,0,0⟩:cS)).map cS.row).flatten
 rw[List.map_replicate]
 rfl
def zQ(n:Nat):List cS:=(List.range n).map fun(i:Nat)=>⟨(i:Int),-1,-1⟩
theorem JQ{n v:Nat}(h:v<n):fG (zQ n) v=⟨(v:Int),-1,-1⟩:=by
 unfold fG zQ
 rw[List.getElem?_map,List.getElem?_range h];rfl
def DL(n i:Nat):List cS:=(zQ n).take i++List.replicate (n - i) ⟨0,0,0⟩
theorem Fm{n i:Nat}(h:i<=n):(DL n i).length=n:=by simp[DL,zQ];omega
theorem NS{n i:Nat}(hi:i<n):(DL n i).set i ⟨(i:Int),-1,-1⟩=DL n (i+1):=by
 unfold DL
 rw[List.take_add_one,show(zQ n)[i]? =some ⟨(i:Int),-1,-1⟩ by unfold zQ;rw[List.getElem?_map,List.getElem?_range hi];rfl]
 have hl:((zQ n).take i).length=i:=by simp[zQ];omega
 rw[List.set_append_right _ _ (by omega),hl,Nat.sub_self]
 obtain⟨m,hm⟩: ∃m,n - i=m+1:=⟨n - i - 1,by omega⟩
 rw[hm,show n - (i+1)=m by omega,List.replicate_succ,List.set_cons_zero,List.append_assoc]
 rfl
theorem JG(hz:aw z zn)(L:List pe)(n fr:Nat)(hn:n<=64):
 aj prog (ah (ag f212) 0) 2 82 (GC n fr 0) [(0, .map (fo 0 L) L.length),(1,kT (rep n [I 0,I 0,I 0]) n)] 2 z zn (Al.R (aaJ z zn n fr L.length (fo 0 L) (rep n [I 0,I 0,I 0]) (aY (zQ n))).l):=by
 rw[QV,show List.replicate n (⟨0,0,0⟩:cS)=DL n 0 by simp[DL]]
 refine ax hD (c7 z) (α:=Nat) 2 82 2 (fun i=>i<=n) (fun i=>GC n fr i) (fun i=>[(0, .map (fo 0 L) L.length),(1,kT (aY (DL n i)) n)]) (fun _=>z) (fun _=>zn) (fun i=>n - i) _ (fun i hI=>?_) 0 (Nat.zero_le _)
 by_cases hi:i<n
 ·have o1:=Po (l:=DL n i) (i:=i) (by rw[Fm hI];exact hi) ⟨(i:Int),-1,-1⟩
  have e1:=NS hi
  rw[e1] at o1
  have l1:(aY (DL n (i+1))).length<=n*3:=by rw[xF,Fm hi];exact Nat.le_refl _
  have hc:decide ((i:Int)<(n:Int))=true:=by simp;omega
  refine t100 (lb0 z zn n fr i L.length (fo 0 L) (aY (DL n i)) (aY (DL n (i+1))) (au _ _ _ _ _ _ _ _ _) ⟨fun _=>?_,nC1 hc⟩)
  (repeat' first|(with_reducible first|exact rfl|assumption|apply And.intro|exact jZ _ _|exact g6 _ _ _|exact bH (by omega))|exact o1)
  exact⟨i+1,rfl,rfl,rfl,rfl,rfl,hi,by show n - (i+1)<n - i;omega⟩
 ·have hc:decide ((i:Int)<(n:Int))=false:=by simp;omega
  refine t100 (lb0 z zn n fr i L.length (fo 0 L) (aY (DL n i)) [] (au _ _ _ _ _ _ _ _ _) ⟨nC1 hc,fun _=>?_⟩)
  (repeat' first|(with_reducible first|exact rfl|assumption|apply And.intro|exact jZ _ _|exact g6 _ _ _))
  have:i=n:=by omega
  subst this
  rw[show DL i i=zQ i by unfold DL;rw[List.take_of_length_le (by simp[zQ]),Nat.sub_self,List.replicate_zero,List.append_nil]]
  exact bh trivial
theorem KS(hz:aw z zn)(L:List pe)(n fr:Nat)(hL:ZQ z zn n L)(hn:n<=64)(hfr:fr<n):
 aF prog z zn 212 [iv n,mp 0,iv fr] [(0, .map (fo 0 L) L.length)] 1 2 (Foφ L n fr) (fun _=>bd 1 n n) (fun l=>[(0, .map (fo 0 L) L.length),(1,kT (aY l) n)]):=by
 have h0:Te L n fr (zQ n) ⟨1,[⟨⟨fr,0,0⟩,0⟩],1⟩:=by
  have hcn:lJ (zQ n)=0:=by
   unfold lJ zQ
   rw[List.countP_eq_zero]
   intro a ha
   obtain⟨i,_,rfl⟩:=List.mem_map.1 ha
   simp
  have hls: ∀v,¬LS (zQ n) v:=fun v h=>by
   unfold LS at h
   by_cases hv:v<n
   ·rw[JQ hv] at h;simp at h
   ·rw[JR (by simp[zQ];omega)] at h;simp[Xf] at h
  refine⟨⟨by simp[zQ],fun v hv=> .inr ?_⟩,⟨by simp,fun k h1 h2=>by simp only at h2;omega,by simp,by simp,by simp⟩,by simp,fun a ha=>?_,?_,by rw[hcn];simp⟩
  ·rw[JQ hv];exact⟨by simp,rfl⟩
  ·obtain⟨i,hi,rfl⟩:=ha
   have:i=0:=by simp only at hi;omega
   subst this
   refine⟨by show(0:Int)<=(fr:Int);omega,by show(fr:Int)<(n:Int);omega,by show(0:Int)<=0;omega,by show(0:Int)<=0*1073741824;omega,by show(0:Int)<=0;omega,by show(0:Int)<=_;omega⟩
  ·refine⟨fun v h=>(hls v h).elim,fun v l ⟨a,⟨i,hi,e⟩,h2,h3⟩=>?_,fun u x w h=>(hls u h).elim, .inr ⟨_,⟨0,by simp,rfl⟩,rfl,rfl⟩⟩
   have:i=0:=by simp only at hi;omega
   subst this
   subst e
   have h2':(fr:Int)=(v:Int):=h2
   have h3':(0:Int)=(l:Int):=h3
   have e1:v=fr:=by omega
   have e2:l=0:=by omega
   subst e1 e2
   exact .start
 have hK0:=JG hz L n fr hn
 have hK1:=JF hz L n fr hL hn (zQ n) _ h0
 have pR:=Wh hz
 have hpu:=Ow hz ⟨fr,0,0⟩
 have hrp:=Gj n [I 0,I 0,I 0] rfl
 have hrp': ∀σ,aD σ (aa.az (aV.mk (rep n [I 0,I 0,I 0]) (n*3) 3 322 true true 0 true))=some (aa.az (aV.mk (rep n [I 0,I 0,I 0]) (n*3) 3 322 true true 0 true)):=fun σ=>cA hrp
 refine dV (c7 z) (fn:=f212) (by kernel_rfl) (by kernel_rfl) hz ⟨by decide,by decide⟩ (fun _ _=>⟨rfl,Nat.le_refl _,hz⟩) (N:=100) ?_
 refine lb z zn n fr L.length (fo 0 L) (rep n [I 0,I 0,I 0]) (aY (zQ n)) (Foφ L n fr) _ ?_
 (repeat' first|(with_reducible first|exact rfl|assumption|apply And.intro|exact hrp' _|exact jZ _ _|exact g6 _ _ _|exact(by omega:n<=1048576))|exact hK0|exact hK1|exact hpu|intro hq)
 all_goals exact q2 _ hq rfl rfl rfl rfl rfl
end
end Go.Proofs.Nw
namespace Go.Proofs.Nw
open Go Go.AV Tryz
set_option maxRecDepth 1000000
noncomputable section
abbrev H7(n:Nat):Prop:=Rs (BQ [IV n] 1 1 3)
abbrev FY(n:Nat):List (Nat × aa):=[(0,BQ [IV n] 1 1 3)]
theorem aas(z:T aa)(zn n:Nat)(x:Int)(Q:QF)(hyp:Br (decide (x<0)) (E6 11 z zn (H7 n/\YA/\Q T1 (FY n) 1 z zn)) (Br (decide (x>=(↑n:Int))) (E6 11 z zn (H7 n/\YA/\Q T1 (FY n) 1 z zn)) (E6 11 z zn (H7 n/\YQ/\Q F0 (FY n) 1 z zn)))):FnT prog gH cW f237 [zv x,ip 0] z [(0,HQ n)] 1 zn Q:=K1t hyp ((tA 4 (tR YC [] T1 (FY n) 1 z zn)).fork (tA 4 ((tA 1 (tR YC [] T1 (FY n) 1 z zn)).fork (tA 1 (tR YC [] F0 (FY n) 1 z zn)))))
abbrev YGX(cs:List Value)(m j:Nat)(e:eO):Prop:=ai prog (aV.mk cs (m*3) 3 272 true true 0 true) 272 (0+j*3)=some (AG (AA e))
abbrev iQ(cs:List Value)(m:Nat):aa:=BQ cs (m*3) 3 272
abbrev Lw:Value:=Value.func (Fn.func 237) Ut (Array.mk [Yp])
abbrev TY(cs:List Value)(m n:Nat):List (Nat × aa):=[(0,iQ cs m),(1,BQ [IV n] 1 1 3)]
abbrev L7(cs:List Value)(m n:Nat):List (Nat × aa):=[(0,o8 cs m),(1,HQ n)]
theorem ck0(z:T aa)(zn n m j:Nat)(cs:List Value)(e:eO)(Q:QL)(hyp:Br (decide ((↑j:Int)<(↑m:Int))) (cG j/\j<m/\YGX cs m j e/\(aF prog z zn 237 [ZV e.fz1,Y3] (FY n) 1 1 Yc uG fun(x:Unit)=>FY n)/\Rs [ZV e.fz1,Yp]/\H7 n/\ ∀(x:Unit),True->YQ/\H7 n/\(aF prog z zn 237 [ZV e.aB,Y3] (FY n) 1 1 Yc uG fun(x:Unit)=>FY n)/\Rs [ZV e.aB,Yp]/\H7 n/\ ∀(x:Unit),True->YQ/\H7 n/\Br (decide (e.wt<0)) (E6 57 z zn (Rs cM/\KO YD (iQ cs m)/\Q af.ret [(6,cM)] [(0,iQ cs m)] 2 z zn)) (Br (decide (e.wt>1073741824)) (E6 57 z zn (Rs cM/\KO YD (iQ cs m)/\Q af.ret [(6,cM)] [(0,iQ cs m)] 2 z zn)) (ZV (IntKind.i64.wrap ((↑j:Int)+1))=IV (j+1)/\E6 57 z zn (R5 Y5 Lw (eA m) (IV m) (IV (j+1)) (KO oe (iQ cs m)/\H7 n/\Q aN [(2,Y5),(7,Lw),(22,eA m),(23,IV m),(24,IV (j+1))] (TY cs m n) 2 z zn))))) (E6 57 z zn (R2 Y5 Lw (KO oe (iQ cs m)/\H7 n/\Q YO [(2,Y5),(7,Lw)] (TY cs m n) 2 z zn)))):RdT prog gH cW (ah (ag f209) 0) 57 (yd n m j) z (L7 cs m n) 2 zn 2 Q:=K1t hyp ((tA 1 (tO (bS j) (tO (An.pP (AG e.row)) (tA 2 (Tr.cm (Cm.mk [ZV e.fz1,Y3] (FY n) 1 1 [(0,1)] CK 3) Unit Yc uG (fun(x:Unit)=>FY n) uG (fun(x:Unit)=>[(1,BQ [IV n] 1 1 3)]) (Yl z) (Ym zn) fun(x:Unit)=>tA 5 (Tr.cm (Cm.mk [ZV e.aB,Y3] (FY n) 1 1 [(0,1)] CK 3) Unit Yc uG (fun(x:Unit)=>FY n) uG (fun(x:Unit)=>[(1,BQ [IV n] 1 1 3)]) (Yl z) (Ym zn) fun(x:Unit)=>tA 3 ((tA 5 (tE YC [] [(6,cM)] [(0,iQ cs m)] 2 z zn)).fork (tA 4 ((tA 2 (tE YC [] [(6,cM)] [(0,iQ cs m)] 2 z zn)).fork (tA 2 (tO (dI j) (tE dv [] [(2,Y5),(7,Lw),(22,eA m),(23,IV m),(24,IV (j+1))] (TY cs m n) 2 z zn)))))))))))).fork (tA 1 (tE dv [] [(2,Y5),(7,Lw)] (TY cs m n) 2 z zn)))
theorem ck1(z:T aa)(zn n m:Nat)(cs:List Value)(Q:QL)(hyp:E6 57 z zn (Rs Lw/\KO oe (iQ cs m)/\H7 n/\Q iy [(7,Lw)] (TY cs m n) 2 z zn)):RdT prog gH cW (ah (ag f209) 1) 57 yc z (L7 cs m n) 2 zn 2 Q:=K1t hyp (tA 2 (tE dv [] [(7,Lw)] (TY cs m n) 2 z zn))
theorem ck(z:T aa)(zn n m:Nat)(cs:List Value)(Q:QF)(hyp:Br (decide ((↑n:Int)>64)) (E6 57 z zn (KO YD (iQ cs m)/\Rs cM/\Q cM [(0,iQ cs m)] 1 z zn)) (Br (decide ((↑m:Int)>4096)) (E6 57 z zn (KO YD (iQ cs m)/\Rs (I 5)/\Q (I 5) [(0,iQ cs m)] 1 z zn)) (rU/\aj prog (ah (ag f209) 0) 2 57 (yd n m 0) (L7 cs m n) 2 z zn (alt True (aA.mk YO [(2,an),(7,Bt)] (L7 cs m n) 2 z zn) Al.nil).R/\E6 57 z zn (R5 Y5 Lw (eA m) (IV m) YM (KO (ay [Yz,YB] []) (iQ cs m)/\H7 n/\ ∀(x:Unit),True->rU/\aj prog (ah (ag f209) 1) 2 57 yc (L7 cs m n) 2 z zn (alt True (aA.mk iy [(7,Bt)] (L7 cs m n) 2 z zn) Al.nil).R/\E6 57 z zn (R4 Lw Y5 YM YM (KO (ay [Yz,YB] []) (iQ cs m)/\H7 n/\ ∀(x:Unit),True->E6 57 z zn (KO YD (iQ cs m)/\w5/\Q YM [(0,iQ cs m)] 1 z zn)))))))):FnT prog gH cW f209 [iv n,bd 0 m m,an] z [(0,o8 cs m)] 1 zn Q:=K1t hyp (tA 5 ((tA 2 (tR YC [] cM [(0,iQ cs m)] 1 z zn)).fork (tA 2 ((tA 1 (tR YC [] (I 5) [(0,iQ cs m)] 1 z zn)).fork (tA 1 (Tr.lp 2 57 [Yz,YB] [] (yd n m 0) (L7 cs m n) 2 z zn (Al.cons Unit Yc (fun(x:Unit)=>aA.mk YO [(2,an),(7,Bt)] (L7 cs m n) 2 z zn) (fun(x:Unit)=>Tr.lp 2 57 [Yz,YB] [] yc (L7 cs m n) 2 z zn (Al.cons Unit Yc (fun(x:Unit)=>aA.mk iy [(7,Bt)] (L7 cs m n) 2 z zn) (fun(x:Unit)=>tR YC [] YM [(0,iQ cs m)] 1 z zn) Al.nil)) Al.nil)))))))
abbrev X2(m j:Nat):List (Nat × Value):=[(1,F0),(5,MP 1),(9,eA m),(10,IV m),(11,IV (j+1))]
noncomputable abbrev YGd:Code:=ah (ag f210) 0
theorem nb0(z:T aa)(zn m j ck:Nat)(cs:List Value)(e:eO)(es:List MapEntry)(Q:QL)(hyp:Br (decide ((↑j:Int)<(↑m:Int))) (cG j/\j<m/\YGX cs m j e/\aE prog 3 (ZV e.fz1) es 0=YL/\aE prog 3 (ZV e.fz1) es 0=YL/\ZV (IntKind.i64.wrap ((↑j:Int)+1))=IV (j+1)/\E3 34 (Rf (gb z [(zn,4,BR (AA e) 3 3 272)])/\zn.le (zn+1)/\aw z zn/\zn<=zn/\zn<zn+1/\Rs (BR (AA e) 3 3 272)/\R5 F0 (MP 1) (eA m) (IV m) (IV (j+1)) (KO (ay dv [(zn,4,BR (AA e) 3 3 272)]) (iQ cs m)/\aD (ay dv [(zn,4,BR (AA e) 3 3 272)]) (aa.map (es++[MapEntry.mk (ZV e.fz1) (SL (tF zn) 1 1) ck]) (ck+1))=some (aa.map (es++[MapEntry.mk (ZV e.fz1) (SL 4 1 1) ck]) (ck+1))/\Q aN (X2 m j) [(0,iQ cs m),(1,aa.map (es++[MapEntry.mk (ZV e.fz1) (SL (tF zn) 1 1) ck]) (ck+1))] 2 (gb z [(zn,4,BR (AA e) 3 3 272)]) (zn+1)))) (E6 34 z zn (Rs (MP 1)/\K2 oe (iQ cs m) (YE es ck) (Q YO [(5,MP 1)] [(0,iQ cs m),(1,YE es ck)] 2 z zn)))):RdT prog gH cW YGd 34 (DD m j) z [(0,o8 cs m),(1,YE es ck)] 2 zn 2 Q:=K1t hyp ((tA 1 (tO (bS j) (tO (An.pP (AG e.row)) (tA 4 (tO CJ (tA 2 (tO CJ (tO (dI j) (tE dv [(zn,4,BR (AA e) 3 3 272)] (X2 m j) [(0,iQ cs m),(1,aa.map (es++[MapEntry.mk (ZV e.fz1) (SL (tF zn) 1 1) ck]) (ck+1))] 2 (gb z [(zn,4,BR (AA e) 3 3 272)]) (zn+1)))))))))).fork (tA 1 (tE dv [] [(5,MP 1)] [(0,iQ cs m),(1,YE es ck)] 2 z zn)))
abbrev OZ(zn r:Nat):Value:=SL (tF zn) (r+1) (r+1)
theorem nb1(z:T aa)(zn m j ck i k r:Nat)(kb:aV)(cs:List Value)(e:eO)(es:List MapEntry)(Q:QL)(hyp:Br (decide ((↑j:Int)<(↑m:Int))) (cG j/\j<m/\YGX cs m j e/\aE prog 3 (ZV e.fz1) es 0=some (some (i,eg k r))/\fH k/\fR z k kb/\kb.exact=false/\kb.own=true/\kb.bN=0/\kb.ko=3/\kb.elem=272/\Rs (AA e)/\Rf r/\kb.cells.length=r*3/\kb.cap=r*3/\r+1<=1048576/\aE prog 3 (ZV e.fz1) es 0=some (some (i,eg k r))/\yX es i (ZV e.fz1)/\Rf (dr i (ZV e.fz1) (SL 4 (r+1) (r+1)) es)/\ZV (IntKind.i64.wrap ((↑j:Int)+1))=IV (j+1)/\E3 34 (Rf (gb (z.del k) [(zn,4,BR (kb.cells++AA e) ((r+1)*3) 3 272)])/\zn.le (zn+1)/\aw (z.del k) zn/\zn<=zn/\zn<zn+1/\KO (ay dv [(zn,4,BR (kb.cells++AA e) ((r+1)*3) 3 272)]) (BR (kb.cells++AA e) ((r+1)*3) 3 272)/\R5 F0 (MP 1) (eA m) (IV m) (IV (j+1)) (KO (ay dv [(zn,4,BR (kb.cells++AA e) ((r+1)*3) 3 272)]) (iQ cs m)/\aD (ay dv [(zn,4,BR (kb.cells++AA e) ((r+1)*3) 3 272)]) (aa.map (dr i (ZV e.fz1) (OZ zn r) es) ck)=some (aa.map (dr i (ZV e.fz1) (SL 4 (r+1) (r+1)) es) ck)/\Q aN (X2 m j) [(0,iQ cs m),(1,aa.map (dr i (ZV e.fz1) (OZ zn r) es) ck)] 2 (gb (z.del k) [(zn,4,BR (kb.cells++AA e) ((r+1)*3) 3 272)]) (zn+1)))) (E6 34 z zn (Rs (MP 1)/\K2 oe (iQ cs m) (YE es ck) (Q YO [(5,MP 1)] [(0,iQ cs m),(1,YE es ck)] 2 z zn)))):RdT prog gH cW YGd 34 (DD m j) z [(0,o8 cs m),(1,YE es ck)] 2 zn 2 Q:=K1t hyp ((tA 1 (tO (bS j) (tO (An.pP (AG e.row)) (tA 4 (tO (An.fno (some (i,tb k r r))) (tA 1 (tX (jE.RC k kb 1 (AA e)) (tX (jE.pg i (tb k r r) (dr i (zv e.fz1) (bd 4 (r+1) (r+1)) es)) (tO (dI j) (tE dv [(zn,4,BR (kb.cells++AA e) ((r+1)*3) 3 272)] (X2 m j) [(0,iQ cs m),(1,aa.map (dr i (ZV e.fz1) (OZ zn r) es) ck)] 2 (gb (z.del k) [(zn,4,BR (kb.cells++AA e) ((r+1)*3) 3 272)]) (zn+1))))))))))).fork (tA 1 (tE dv [] [(5,MP 1)] [(0,iQ cs m),(1,YE es ck)] 2 z zn)))
noncomputable abbrev YGf(cs:List Value)(m:Nat)(s:pz):aA:=aA.mk YO [(5,mp 1)] [(0,o8 cs m),(1,Gn s.l)] 2 s.z s.zn
abbrev P0(x:pz):aa:=aa.map (fo 0 x.l) x.l.length
theorem nb(z:T aa)(zn m:Nat)(cs:List Value)(φ:pz->Prop)(Q:QF)(hyp:rU/\aj prog YGd 2 34 (DD m 0) [(0,o8 cs m),(1,Y9)] 2 z zn (Al.cons pz φ (fun(s:pz)=>YGf cs m s) (fun(x:pz)=>eU) Al.nil).R/\E6 34 z zn (R5 F0 (MP 1) (eA m) (IV m) YM (KO (ay [Yz,YB] []) (iQ cs m)/\tG/\ ∀(x:pz),φ x->E6 34 x.z x.zn (K2 oe (iQ cs m) (P0 x) (Rs (MP 1)/\Q (MP 1) [(0,iQ cs m),(1,P0 x)] 2 x.z x.zn))))):FnT prog gH cW f210 [bd 0 m m,F0] z [(0,o8 cs m)] 1 zn Q:=K1t hyp (Tr.lp 2 34 [Yz,YB] [] (DD m 0) [(0,o8 cs m),(1,Y9)] 2 z zn (Al.cons pz φ (fun(s:pz)=>aA.mk YO [(5,mp 1)] [(0,o8 cs m),(1,Gn s.l)] 2 s.z s.zn) (fun(x:pz)=>tR dv [] (MP 1) [(0,iQ cs m),(1,P0 x)] 2 x.z x.zn) Al.nil))
end
end Go.Proofs.Nw
namespace Go.Proofs.Nw
open Go Go.AV Tryz Go.jP
set_option maxHeartbeats 1000000
set_option maxRecDepth 100000
theorem GQ{z:T aa}{a b:Nat}(h:aw z a)(hab:a<=b):aw z b:=fun k o hk=>⟨Nat.lt_of_lt_of_le (h k o hk).1 hab,fun σ hs=>(h k o hk).2 σ fun j hj=>hs j (by omega)⟩
theorem qU{z:T aa}{a k:Nat}(h:aw z a)(hk:k<a){o:aa}(ho: ∀σ:Nat->Option Nat,(∀j,j<a->σ (256*j+510)=some (256*j+510))->aD σ o=some o):aw (z.set k o) a:=fun i p hi=>by
 rw[T.aH] at hi
 split at hi
 ·cases hi;rename_i e;subst e;exact⟨hk,ho⟩
 ·exact h i p hi
theorem lV{z:T aa}{a:Nat}(h:aw z a)(k:Nat):aw (z.del k) a:=fun i p hi=>by
 rw[T.fC] at hi
 split at hi
 ·cases hi
 ·exact h i p hi
theorem dL{z:T aa}{a:Nat}(h:aw z a){k:aV}(hp:bJ k.cells=true):aw (z.set a (.az k)) (a+1):=qU (GQ h (Nat.le_succ a)) (Nat.lt_succ_self a) fun σ _=>cA hp
theorem MA(a:Int):Instr.sameBits 10000 (zv a) (zv a)=true:=by
 simp[Instr.sameBits]
theorem xE(E:List eO):(bF E).length=E.length*3:=by rw[kh (qy E),List.length_map]
theorem gG(E:List eO):bJ (bF E)=true:=j7 (fun _=>rfl) E
theorem j0{σ:Nat->Option Nat}(E:List eO)(c:Nat):aD σ (aa.az (aV.mk (bF E) c 3 272 true true 0 true))=some (aa.az (aV.mk (bF E) c 3 272 true true 0 true)):=cA (gG E)
theorem IS{E:List eO}{i:Nat}{e:eO}(h:E[i]? =some e)(c:Nat):ai prog (aV.mk (bF E) c 3 272 true true 0 true) 272 (0+i*3)=some (.agg ⟨e.row⟩):=
 gJ (rows:=E.map eO.row) rfl underlying272 rfl rfl (qy E) (by rw[List.getElem?_map,h];rfl)
structure HL(n:Nat)(E:List eO):Prop where
 len:E.length<=4096
 ok: ∀e∈E,0<=e.fz1/\e.fz1<n/\0<=e.aB/\e.aB<n/\0<=e.wt/\e.wt<=1073741824
section
variable{z:T aa}{zn:Nat}
theorem Px(hz:aw z zn)(n:Nat)(x:Int)(h0:0<=x)(h1:x<n):A1 z zn 237 [zv x,ip 0] [(0,HQ n)] 1 1 F0 [(0,HQ n)]:=by
 have d1:decide (x<0)=false:=by simp<;>omega
 have d2:decide (x>=(n:Int))=false:=by simp<;>omega
 refine aK1 (c7 T.leaf) (fn:=f237) hz (N:=100) ?_
 refine aas z zn n x _ ?_
 refine⟨nC1 d1,fun _=>⟨nC1 d2,fun _=>?_⟩⟩
 (repeat' first|(with_reducible first|exact rfl|assumption|apply And.intro)|exact q1)
theorem KX(hz:aw z zn)(n:Nat)(hn:n<=64)(E:List eO)(hE:HL n E):A1 z zn 209 [iv n,bd 0 E.length E.length,an] [(0,o8 (bF E) E.length)] 1 1 (I 0) [(0,o8 (bF E) E.length)]:=by
 have hK0:aj prog (ah (ag f209) 0) 2 57 (yd n E.length 0) [(0,o8 (bF E) E.length),(1,HQ n)] 2 z zn (Al.R (Vz z zn n E.length (bF E)).l):=by
  refine ax hD (c7 T.leaf) (α:=Nat) 2 57 2 (fun j=>j<=E.length) (fun j=>yd n E.length j) (fun _=>[(0,o8 (bF E) E.length),(1,HQ n)]) (fun _=>z) (fun _=>zn) (fun j=>E.length - j) _ (fun j hI=>?_) 0 (Nat.zero_le _)
  by_cases hj:j<E.length
  ·obtain⟨e,he⟩:=dm hj
   obtain⟨k1,k2,k3,k4,k5,k6⟩:=hE.ok e (List.mem_of_getElem? he)
   have hle:=hE.len
   have m1:=Px hz n e.fz1 k1 k2
   have m2:=Px hz n e.aB k3 k4
   have hc:decide ((j:Int)<(E.length:Int))=true:=by simp;omega
   have d1:decide (e.wt<0)=false:=by simp<;>omega
   have d2:decide (e.wt>1073741824)=false:=by simp<;>omega
   refine t100 (ck0 z zn n E.length j (bF E) e (au _ _ _ _ _ _ _ _ _) ⟨fun _=>?_,nC1 hc⟩)
   (repeat' first|(with_reducible first|exact rfl|assumption|apply And.intro|exact IS he _|exact j0 _ _|exact bH (by omega))|exact m1|exact m2|intro hq)
   all_goals first
    |(exact⟨j+1,rfl,rfl,rfl,rfl,rfl,hj,by show E.length - (j+1)<E.length - j;omega⟩)
    |(exfalso;simp_all;done)
    |(exfalso;simp_all;omega)
  ·have hc:decide ((j:Int)<(E.length:Int))=false:=by simp<;>omega
   refine t100 (ck0 z zn n E.length j (bF E) ⟨0,0,0⟩ (au _ _ _ _ _ _ _ _ _) ⟨nC1 hc,fun _=>?_⟩)
   (repeat' first|(with_reducible first|exact rfl|assumption|apply And.intro|exact j0 _ _))
   exact bh trivial
 have hK1:aj prog (ah (ag f209) 1) 2 57 yc [(0,o8 (bF E) E.length),(1,HQ n)] 2 z zn (Al.R (Vy z zn n E.length (bF E)).l):=by
  refine ax hD (c7 T.leaf) (α:=Nat) 2 57 2 (fun j=>j=0) (fun _=>yc) (fun _=>[(0,o8 (bF E) E.length),(1,HQ n)]) (fun _=>z) (fun _=>zn) (fun j=>1) _ (fun j hI=>?_) 0 rfl
  refine t100 (ck1 z zn n E.length (bF E) (au _ _ _ _ _ _ _ _ _) ?_)
  (repeat' first|(with_reducible first|exact rfl|assumption|apply And.intro|exact j0 _ _))
  exact bh trivial
 have hle:=hE.len
 have d0:decide ((n:Int)<0)=false:=by simp<;>omega
 have d1:decide ((n:Int)>64)=false:=by simp<;>omega
 have d2:decide ((E.length:Int)>4096)=false:=by simp<;>omega
 refine aK1 (c7 T.leaf) (fn:=f209) hz (N:=100) ?_
 refine ck z zn n E.length (bF E) _ ?_
 (repeat' first|(with_reducible first|exact rfl|assumption|apply And.intro|exact j0 _ _|exact q1)|exact hK0|exact hK1|intro hq)
 all_goals (exfalso;simp_all;done)
end
abbrev VU(r:List eO):aV:=⟨bF r,r.length*3,3,272,false,false,0,true⟩
structure HH(z0:T aa)(zn0:Nat)(E:List eO)(j:Nat)(s:pz):Prop where
 bN:aw s.z s.zn
 zn:s.zn=zn0+j
 gK: ∀k,k<zn0->s.z.get k=z0.get k
 row: ∀x∈s.l,zn0<=x.2.1/\x.2.1<s.zn/\s.z.get x.2.1=some (.az (VU x.2.2))/\x.2.2≠[]/\x.2.2.length<=j/\ ∀e∈x.2.2,e∈E
 keys:(s.l.map (·.1)).Nodup
 Q5:(s.l.map (·.2.1)).Nodup
 mT: ∀a,mT s.l a=(E.take j).filter fun e=>e.fz1==a
theorem Bs: ∀(l:List pe)(i:Nat)(x:pe),fo i (l++[x])=fo i l++[{key:=zv x.1,val:=tb x.2.1 x.2.2.length x.2.2.length,born:=i+l.length}]
 |[],i,x=>rfl
 |(a,k,r)::l,i,x=>by
  simp only[List.cons_append,fo,Bs l (i+1) x,List.length_cons]
  rw[show i+1+l.length=i+(l.length+1) by omega]
theorem Fa: ∀(l:List pe)(i j:Nat)(x y:pe),l[i]? =some y->y.1=x.1->dr i (zv x.1) (tb x.2.1 x.2.2.length x.2.2.length) (fo j l)=fo j (l.set i x)
 |[],i,j,x,y,h,_=>by simp at h
 |(a,k,r)::l,0,j,x,y,h,hk=>by
  simp only[List.getElem?_cons_zero,Option.some.injEq] at h
  subst h
  rfl
 |(a,k,r)::l,i+1,j,x,y,h,hk=>by
  simp only[List.getElem?_cons_succ] at h
  simp only[fo,dr,List.set_cons_succ,Fa l i (j+1) x y h hk]
theorem Fb: ∀(l:List pe)(i j:Nat)(x:pe),l[i]? =some x->nth (fo j l) i=some {key:=zv x.1,val:=tb x.2.1 x.2.2.length x.2.2.length,born:=j+i}
 |[],i,j,x,h=>by simp at h
 |(a,k,r)::l,0,j,x,h=>by
  simp only[List.getElem?_cons_zero,Option.some.injEq] at h
  subst h;rfl
 |(a,k,r)::l,i+1,j,x,h=>by
  simp only[List.getElem?_cons_succ] at h
  simp only[fo,nth,Fb l i (j+1) x h]
  rw[show j+1+i=j+(i+1) by omega]
theorem vi{σ:Nat->Option Nat}: ∀{a a' b b':List MapEntry},g9 σ a=some a'->g9 σ b=some b'->g9 σ (a++b)=some (a'++b')
 |[],a',b,b',h1,h2=>by simp only[g9,Option.some.injEq] at h1;subst h1;exact h2
 |e::a,a',b,b',h1,h2=>by
  simp only[g9] at h1
  split at h1
  ·rename_i k v q1 q2
   split at h1
   ·rename_i m q3
    cases h1
    simp only[List.cons_append,g9,q1,q2,vi q3 h2]
   ·cases h1
  ·cases h1
theorem pG{σ:Nat->Option Nat}{k k' v v':Value}(hk:aP σ k=some k')(hv:aP σ v=some v'): ∀{es es':List MapEntry} (i:Nat),g9 σ es=some es'->g9 σ (dr i k v es)=some (dr i k' v' es')
 |[],es',i,h=>by simp only[g9,Option.some.injEq] at h;subst h;cases i<;>rfl
 |e::es,es',0,h=>by
  simp only[g9] at h
  split at h
  ·rename_i k v q1 q2
   split at h
   ·rename_i m q3
    cases h
    simp only[dr,g9,hk,hv,q3]
   ·cases h
  ·cases h
 |e::es,es',i+1,h=>by
  simp only[g9] at h
  split at h
  ·rename_i k v q1 q2
   split at h
   ·rename_i m q3
    cases h
    simp only[dr,g9,q1,q2,pG hk hv i q3]
   ·cases h
  ·cases h
theorem kL{σ:bq}{k b c:Nat}{o:aa}(h:b≠k):ay σ [(k,c,o)] (256*b+510)=some (256*b+510):=by
 rw[jF (by unfold cO;omega)]
 have:Nat.beq (256*k+510) (256*b+510)=false:=by
  cases e:Nat.beq (256*k+510) (256*b+510) with
  |false=>rfl
  |true=>have:=Nat.eq_of_beq_eq_true e;omega
 simp only[CV,this]
theorem My{σ:bq}{k c:Nat}{o:aa}:ay σ [(k,c,o)] (256*k+510)=some c:=by
 rw[jF (by unfold cO;omega)]
 have:Nat.beq (256*k+510) (256*k+510)=true:=Nat.beq_refl _
 simp only[CV,this]
theorem iO{σ:bq}{k c n m:Nat}{o:aa}:aP (ay σ [(k,c,o)]) (tb k n m)=some (bd c n m):=by
 simp only[aP,My]
theorem Ll{l:List pe}{x:pe}(h:l.find? (fun y=>y.1==x.1)=none)(a:Int):mT (l++[x]) a=if a=x.1 then x.2.2 else mT l a:=by
 unfold mT
 rw[List.find?_append]
 by_cases e:a=x.1
 ·subst e;rw[h,if_pos rfl];simp
 ·rw[if_neg e]
  have:(x.1==a)=false:=by simp;exact fun q=>e q.symm
  simp[List.find?_cons,this]
theorem FU: ∀{l:List pe} {i:Nat} {x y:pe},(l.map (·.1)).Nodup->l[i]? =some y->y.1=x.1-> ∀a,mT (l.set i x) a=if a=x.1 then x.2.2 else mT l a
 |[],i,x,y,_,h,_,a=>by simp at h
 |b::l,0,x,y,hn,h,hk,a=>by
  simp only[List.getElem?_cons_zero,Option.some.injEq] at h
  subst h
  unfold mT
  simp only[List.set_cons_zero,List.find?_cons]
  by_cases e:a=x.1
  ·subst e;simp
  ·have h1:(x.1==a)=false:=by simp;exact fun q=>e q.symm
   have h2:(b.1==a)=false:=by rw[hk];exact h1
   rw[h1,h2,if_neg e]
 |b::l,i+1,x,y,hn,h,hk,a=>by
  simp only[List.getElem?_cons_succ] at h
  simp only[List.map_cons,List.nodup_cons] at hn
  have ih:=FU hn.2 h hk a
  have DP:b.1≠x.1:=fun e=>hn.1 (by rw[e,←hk];exact List.mem_map.2 ⟨y,List.mem_of_getElem? h,rfl⟩)
  unfold mT at ih ⊢
  simp only[List.set_cons_succ,List.find?_cons]
  by_cases e:(b.1==a)=true
  ·have:a=b.1:=by simpa using (beq_iff_eq.1 e).symm
   rw[e,if_neg (by rw[this];exact DP)]
  ·have e':(b.1==a)=false:=by simpa using e
   rw[e'];exact ih
theorem xN: ∀{l:List Nat} {i v:Nat},l.Nodup->v ∉ l->(l.set i v).Nodup
 |[],_,_,h,_=>by simp
 |a::l,0,v,h,hv=>by
  simp only[List.set_cons_zero,List.nodup_cons] at*
  exact⟨fun q=>hv (List.mem_cons_of_mem _ q),h.2⟩
 |a::l,i+1,v,h,hv=>by
  simp only[List.set_cons_succ,List.nodup_cons] at*
  refine⟨fun q=>?_,xN h.2 fun q=>hv (List.mem_cons_of_mem _ q)⟩
  rcases List.mem_or_eq_of_mem_set q with q|q
  ·exact h.1 q
  ·exact hv (by rw[q];exact List.mem_cons_self ..)
theorem qL{α β:Type}(f:α->β){l:List α}{i:Nat}{x y:α}(h:l[i]? =some y)(hf:f x=f y):(l.set i x).map f=l.map f:=by
 rw[List.map_set]
 apply List.ext_getElem?
 intro j
 rw[List.getElem?_set]
 by_cases e:i=j
 ·subst e
  have hlt:i<l.length:=(List.getElem?_eq_some_iff.1 h).1
  have hg:l[i]=y:=by rw[List.getElem?_eq_getElem hlt] at h;exact Option.some.inj h
  simp[hlt,hg,hf]
 ·simp[e]
section
variable{z:T aa}{zn:Nat}
theorem NC(hz:aw z zn)(E:List eO)(hE:E.length<=4096):
 aj prog (ah (ag f210) 0) 2 34 (DD E.length 0) [(0,o8 (bF E) E.length),(1, .map [] 0)] 2 z zn (Al.R (aaC z zn E.length (bF E) (HH z zn E E.length)).l):=by
 refine ax hD (c7 T.leaf) (α:=Nat × pz) 2 34 2 (fun t=>t.1<=E.length/\HH z zn E t.1 t.2) (fun t=>DD E.length t.1) (fun t=>[(0,o8 (bF E) E.length),(1,Gn t.2.l)]) (fun t=>t.2.z) (fun t=>t.2.zn) (fun t=>E.length - t.1) _ (fun t hI=>?_) (0,⟨[],z,zn⟩) ⟨Nat.zero_le _,⟨hz,rfl,fun _ _=>rfl,fun x hx=>(by cases hx),(by simp),(by simp),fun a=>(by simp[mT])⟩⟩
 obtain⟨j,s⟩:=t
 obtain⟨h1,h2⟩:=hI
 simp only at h1 h2 ⊢
 by_cases hj:j<E.length
 ·obtain⟨e,he⟩:=dm hj
  have hc:decide ((j:Int)<(E.length:Int))=true:=by simp;omega
  have htk:E.take (j+1)=E.take j++[e]:=by rw[List.take_add_one,he];rfl
  have hem:e∈E:=List.mem_of_getElem? he
  have hfr:=h2.bN
  rcases nU s.l e.fz1 0 0 with ⟨i,x,q1,q2,q3,_,q5⟩|⟨q1,q2⟩
  ·rw[Nat.sub_zero] at q5
   obtain⟨k1,k2,k3,k4,k5,k6⟩:=h2.row x q2
   have hx1:x.1=e.fz1:=by simpa using List.find?_some q3
   have hzn: ∀y∈s.l,y.2.1≠s.zn:=fun y hy=>by have:=(h2.row y hy).2.1;omega
   have hkeep:yX (fo 0 s.l) i (zv e.fz1):=⟨_,Fb s.l i 0 x q5,by rw[hx1];simp only[aC,MA,Bool.and_self]⟩
   have hcells:bF x.2.2++eO.row e=bF (x.2.2++[e]):=by
    show _=((x.2.2++[e]).map eO.row).flatten
    rw[List.map_append,List.flatten_append];rfl
   have hmap: ∀o:aa,aD (ay [(0,0),(1,1)] [(s.zn,4,o)]) (aa.map (dr i (zv e.fz1) (tb s.zn (x.2.2.length+1) (x.2.2.length+1)) (fo 0 s.l)) s.l.length)=some (aa.map (dr i (zv e.fz1) (bd 4 (x.2.2.length+1) (x.2.2.length+1)) (fo 0 s.l)) s.l.length):=fun o=>by
    have:=pG (σ:=ay [(0,0),(1,1)] [(s.zn,4,o)]) (k:=zv e.fz1) (k':=zv e.fz1) rfl (iO (n:=x.2.2.length+1) (m:=x.2.2.length+1)) i (uj (L:=s.l) 0 fun y hy=>kL (hzn y hy))
    simp only[aD,this]
   have r1: ∀σ c,aD σ (aa.az (aV.mk (bF x.2.2++eO.row e) c 3 272 false false 0 true))=some (aa.az (aV.mk (bF x.2.2++eO.row e) c 3 272 false false 0 true)):=fun σ c=>by
    rw[hcells];exact cA (gG _)
   have hfd:=lV hfr x.2.1
   have hlen:=xE x.2.2
   refine t100 (nb1 s.z s.zn E.length j s.l.length i x.2.1 x.2.2.length (VU x.2.2) (bF E) e (fo 0 s.l) (au _ _ _ _ _ _ _ _ _) ⟨fun _=>?_,nC1 hc⟩)
   (repeat' first|(with_reducible first|exact rfl|assumption|apply And.intro|exact IS he _|exact hmap _|exact r1 _ _|exact j0 _ _|exact(by omega:x.2.2.length+1<=1048576)|exact Nat.le_refl _|exact Nat.lt_succ_self _|exact bH (by omega))|exact Nat.le_succ _)
   refine⟨(j+1,⟨s.l.set i (e.fz1,s.zn,x.2.2++[e]),(s.z.del x.2.1).set s.zn (.az (VU (x.2.2++[e]))),s.zn+1⟩),rfl,?_,rfl,?_,rfl,⟨hj,?_⟩,by show E.length - (j+1)<E.length - j;omega⟩
   ·have:=Fa s.l i 0 (e.fz1,s.zn,x.2.2++[e]) x q5 hx1
    simp only[List.length_append,List.length_singleton] at this
    simp only[Gn,←this,List.length_set]
   ·simp only[gb]
    have:x.2.2.length+1=(x.2.2++[e]).length:=by simp
    simp only[VU,←hcells,←this]
   ·simp only
    have hil:i<s.l.length:=(List.getElem?_eq_some_iff.1 q5).1
    refine⟨dL hfd (gG _),by show s.zn+1=zn+(j+1);rw[h2.zn];omega,fun k hk=>?_,fun y hy=>?_,?_,?_,fun a=>?_⟩
    ·show((s.z.del x.2.1).set s.zn _).get k=_
     rw[T.aH,if_neg (by have:=h2.zn;omega),T.fC,if_neg (by omega)]
     exact h2.gK k hk
    ·show zn<=y.2.1/\y.2.1<s.zn+1/\((s.z.del x.2.1).set s.zn _).get y.2.1=_/\_
     rcases List.mem_or_eq_of_mem_set hy with hy|rfl
     ·
      obtain⟨m1,m2,m3,m4,m5,m6⟩:=h2.row y hy
      have hne:y.2.1≠x.2.1:=by
       intro hyx
       obtain⟨p,hp⟩:=List.mem_iff_getElem?.1 (by assumption:y∈s.l.set i (e.fz1,s.zn,x.2.2++[e]))
       rw[List.getElem?_set] at hp
       split at hp
       ·rename_i hip
        simp only[hil,if_true,Option.some.injEq] at hp
        rw[←hp] at hyx m2
        simp only at m2;omega
       ·rename_i hip
        have hn:=h2.Q5
        have e1:(s.l.map (·.2.1))[p]? =some y.2.1:=by rw[List.getElem?_map,hp];rfl
        have e2:(s.l.map (·.2.1))[i]? =some x.2.1:=by rw[List.getElem?_map,q5];rfl
        rw[hyx] at e1
        have hlt1:=(List.getElem?_eq_some_iff.1 e1).1
        have hlt2:=(List.getElem?_eq_some_iff.1 e2).1
        exact hip ((List.getElem?_inj hlt2 hn).1 (e2.trans e1.symm))
      refine⟨m1,by omega,?_,m4,by omega,m6⟩
      rw[T.aH,if_neg (by omega),T.fC,if_neg hne]
      exact m3
     ·refine⟨by have:=h2.zn;show zn<=s.zn;omega,Nat.lt_succ_self _,by rw[T.aH,if_pos rfl],by simp,by simp;omega,fun e' he'=>?_⟩
      rcases List.mem_append.1 he' with q|q
      ·exact k6 e' q
      ·simp at q;subst q;exact hem
    ·show((s.l.set i (e.fz1,s.zn,x.2.2++[e])).map (·.1)).Nodup
     rw[qL (·.1) q5 hx1.symm];exact h2.keys
    ·show((s.l.set i (e.fz1,s.zn,x.2.2++[e])).map (·.2.1)).Nodup
     rw[List.map_set]
     refine xN h2.Q5 fun q=>?_
     obtain⟨y,y1,y2⟩:=List.mem_map.1 q
     exact hzn y y1 y2
    ·show mT (s.l.set i (e.fz1,s.zn,x.2.2++[e])) a=_
     rw[FU h2.keys q5 hx1 a,htk,List.filter_append]
     have hax:mT s.l e.fz1=x.2.2:=by unfold mT;rw[q3];rfl
     by_cases ea:a=e.fz1
     ·subst ea
      rw[if_pos rfl,←h2.mT,hax];simp
     ·have:(e.fz1==a)=false:=by simp;exact fun q=>ea q.symm
      rw[if_neg ea,h2.mT a];simp[List.filter_cons,this]
  ·have hzn: ∀y∈s.l,y.2.1≠s.zn:=fun y hy=>by have:=(h2.row y hy).2.1;omega
   have hmap: ∀o:aa,aD (ay [(0,0),(1,1)] [(s.zn,4,o)]) (aa.map (fo 0 s.l++[MapEntry.mk (zv e.fz1) (tb s.zn 1 1) s.l.length]) (s.l.length+1))=some (aa.map (fo 0 s.l++[MapEntry.mk (zv e.fz1) (bd 4 1 1) s.l.length]) (s.l.length+1)):=fun o=>by
    have h1:g9 (ay [(0,0),(1,1)] [(s.zn,4,o)]) [MapEntry.mk (zv e.fz1) (tb s.zn 1 1) s.l.length]=some [MapEntry.mk (zv e.fz1) (bd 4 1 1) s.l.length]:=by
     have h0:=iO (σ:=[(0,0),(1,1)]) (k:=s.zn) (c:=4) (n:=1) (m:=1) (o:=o)
     have NY:aP (ay [(0,0),(1,1)] [(s.zn,4,o)]) (zv e.fz1)=some (zv e.fz1):=rfl
     simp only[g9,h0,NY]
    have:=vi (uj (L:=s.l) 0 fun y hy=>kL (σ:=[(0,0),(1,1)]) (c:=4) (o:=o) (hzn y hy)) h1
    simp only[aD,this]
   refine t100 (nb0 s.z s.zn E.length j s.l.length (bF E) e (fo 0 s.l) (au _ _ _ _ _ _ _ _ _) ⟨fun _=>?_,nC1 hc⟩)
   (repeat' first|(with_reducible first|exact rfl|assumption|apply And.intro|exact IS he _|exact hmap _|exact j0 _ _|exact Nat.le_refl _|exact Nat.lt_succ_self _|exact bH (by omega))|exact Nat.le_succ _)
   refine⟨(j+1,⟨s.l++[(e.fz1,s.zn,[e])],s.z.set s.zn (.az (VU [e])),s.zn+1⟩),rfl,?_,rfl,rfl,rfl,⟨hj,?_⟩,by show E.length - (j+1)<E.length - j;omega⟩
   ·simp only[Gn,Bs,List.length_append,List.length_singleton,Nat.zero_add]
   ·simp only
    refine⟨dL hfr (gG _),by show s.zn+1=zn+(j+1);rw[h2.zn];omega,fun k hk=>?_,fun y hy=>?_,?_,?_,fun a=>?_⟩
    ·show(s.z.set s.zn _).get k=_
     rw[T.aH,if_neg (by have:=h2.zn;omega)]
     exact h2.gK k hk
    ·show zn<=y.2.1/\y.2.1<s.zn+1/\(s.z.set s.zn _).get y.2.1=_/\_
     rcases List.mem_append.1 hy with hy|hy
     ·obtain⟨m1,m2,m3,m4,m5,m6⟩:=h2.row y hy
      refine⟨m1,by omega,?_,m4,by omega,m6⟩
      rw[T.aH,if_neg (by omega)]
      exact m3
     ·simp only[List.mem_singleton] at hy
      subst hy
      refine⟨by have:=h2.zn;show zn<=s.zn;omega,Nat.lt_succ_self _,by rw[T.aH,if_pos rfl],by simp,by simp,fun e' he'=>?_⟩
      simp at he';subst he';exact hem
    ·show((s.l++[(e.fz1,s.zn,[e])]).map (·.1)).Nodup
     rw[List.map_append,List.nodup_append]
     refine⟨h2.keys,by simp,fun a ha b hb=>?_⟩
     simp only[List.map_cons,List.map_nil,List.mem_singleton] at hb
     subst hb
     obtain⟨y,y1,y2⟩:=List.mem_map.1 ha
     intro hab
     have:=List.find?_eq_none.1 q2 y y1
     rw[y2,hab] at this;simp at this
    ·show((s.l++[(e.fz1,s.zn,[e])]).map (·.2.1)).Nodup
     rw[List.map_append,List.nodup_append]
     refine⟨h2.Q5,by simp,fun a ha b hb=>?_⟩
     simp only[List.map_cons,List.map_nil,List.mem_singleton] at hb
     subst hb
     obtain⟨y,y1,y2⟩:=List.mem_map.1 ha
     intro hab
     exact hzn y y1 (y2.trans hab)
    ·show mT (s.l++[(e.fz1,s.zn,[e])]) a=_
     rw[Ll q2 a,htk,List.filter_append]
     have hax:mT s.l e.fz1=[]:=by unfold mT;rw[q2];rfl
     by_cases ea:a=e.fz1
     ·subst ea
      rw[if_pos rfl,←h2.mT,hax];simp
     ·have:(e.fz1==a)=false:=by simp;exact fun q=>ea q.symm
      rw[if_neg ea,h2.mT a];simp[List.filter_cons,this]
 ·have hje:j=E.length:=by omega
  have hc:decide ((j:Int)<(E.length:Int))=false:=by simp;omega
  have hfr:=h2.bN
  refine t100 (nb0 s.z s.zn E.length j s.l.length (bF E) ⟨0,0,0⟩ (fo 0 s.l) (au _ _ _ _ _ _ _ _ _) ⟨nC1 hc,fun _=>?_⟩)
  (repeat' first|(with_reducible first|exact rfl|assumption|apply And.intro|exact j0 _ _|exact g6 _ _ _))
  subst hje
  exact Ej (k:=fun _=>eU) s h2 rfl
theorem abw(hz:aw z zn)(E:List eO)(hE:E.length<=4096):
 bb prog z zn 210 [bd 0 E.length E.length,F0] [(0,o8 (bF E) E.length)] 1 2 (HH z zn E E.length) (fun _=>mp 1) (fun s=>[(0,o8 (bF E) E.length),(1,Gn s.l)]) (fun s=>s.z) (fun s=>s.zn):=by
 have hK:=NC hz E hE
 refine dV (c7 T.leaf) (fn:=f210) (by kernel_rfl) (by kernel_rfl) hz ⟨by decide,by decide⟩ (fun s hs=>⟨rfl,by show zn<=s.zn;rw[hs.zn];omega,hs.bN⟩) (N:=100) ?_
 refine nb z zn E.length (bF E) (HH z zn E E.length) _ ?_
 (repeat' first|(with_reducible first|exact rfl|assumption|apply And.intro|exact HH.bN ‹_›|exact j0 _ _|exact g6 _ _ _)|exact hK|intro hq)
 all_goals exact q2 _ hq rfl rfl rfl rfl rfl
end
end Go.Proofs.Nw
namespace Go.Proofs.Nw
open Go Go.AV Tryz
set_option maxRecDepth 1000000
noncomputable section
abbrev jM(n:Nat):Value:=SL 3 n n
abbrev wX(cs:List Value)(n:Nat):aa:=BQ cs (n*1) 1 128
theorem al0(z:T aa)(zn n i ck:Nat)(es:List MapEntry)(a1 a2 cs:List Value)(f:List Value->List Value)(φ:List cS->Prop)(Q:QL)(hyp:Br (decide ((↑i:Int)<(↑n:Int))) ((aF prog z zn 212 [IV n,YK,IV i] [YG es ck] 1 2 φ (fun(x:List cS)=>bd 1 n n) fun(l:List cS)=>[YG es ck,(1,kT (aY l) n)])/\Rs [IV n,MP 1,IV i]/\KO (sig [(0,1)]) (YE es ck)/\ ∀(x:List cS),φ x->Rs (cX n)/\K2 (sig [(1,0),(3,1)]) (YE es ck) (P1 x n) ((aF prog z zn 211 [eA n] [(0,P1 x n)] 1 2 Yc (fun(x:Unit)=>bd 1 n n) fun(x_1:Unit)=>[(1,GK (f (aY x)) n)])/\Rs [jM n]/\KO (sig [(0,3)]) (P1 x n)/\ ∀(x_1:Unit),True->Rs (cX n)/\KO (sig [(3,0),(4,1)]) (BQ (f (aY x)) (n*1) 1 3)/\cG i/\i<n/\overwrite cs (0+i*1) [SL 4 n n]=some (a1++SL 4 n n::a2)/\(a1++bd 4 n n::a2).length<=n*1/\ZV (IntKind.i64.wrap ((↑i:Int)+1))=IV (i+1)/\E3 35 (Rf (gb z [(zn,4,BQ (f (aY x)) (n*1) 1 3)])/\zn.le (zn+1)/\aw z zn/\zn<=zn/\zn<zn+1/\KO (ay [Yz,Y6] [(zn,4,BQ (f (aY x)) (n*1) 1 3)]) (BQ (f (aY x)) (n*1) 1 3)/\R5 (IV n) (MP 1) (SL 2 n n) (IV n) (IV (i+1)) (KO (ay [Yz,Y6] [(zn,4,BQ (f (aY x)) (n*1) 1 3)]) (YE es ck)/\aD (ay [Yz,Y6] [(zn,4,BQ (f (aY x)) (n*1) 1 3)]) (BQ (a1++eg zn n::a2) (n*1) 1 128)=some (BQ (a1++SL 4 n n::a2) (n*1) 1 128)/\Q aN [(0,IV n),(7,MP 1),(8,SL 2 n n),(21,IV n),(22,IV (i+1))] [(1,YE es ck),(2,BQ (a1++eg zn n::a2) (n*1) 1 128)] 3 (gb z [(zn,4,BQ (f (aY x)) (n*1) 1 3)]) (zn+1))))) (E6 35 z zn (Rs (SL 2 n n)/\KO (ay [Y6] []) (wX cs n)/\Q YO [(8,SL 2 n n)] [(2,wX cs n)] 3 z zn))):RdT prog gH cW (ah (ag f186) 0) 35 (BL n i) z [(1,YE es ck),(2,uW cs n)] 3 zn 3 Q:=K1t hyp ((tA 1 (Tr.cm (Cm.mk [IV n,YK,IV i] [YG es ck] 1 2 [(0,1)] [(1,0),(3,1)] 4) (List cS) φ (fun(x:List cS)=>bd 1 n n) (fun(l:List cS)=>[YG es ck,(1,kT (aY l) n)]) (fun(x:List cS)=>jM n) (fun(x:List cS)=>[(1,YE es ck),(3,P1 x n)]) (fun(x:List cS)=>z) (fun(x:List cS)=>zn) fun(x:List cS)=>Tr.cm (Cm.mk [eA n] [(0,P1 x n)] 1 2 [(0,3)] [(3,0),(4,1)] 5) Unit Yc (fun(x:Unit)=>bd 1 n n) (fun(x_1:Unit)=>[(1,GK (f (aY x)) n)]) (fun(x:Unit)=>SL 4 n n) (fun(x_1:Unit)=>[(4,BQ (f (aY x)) (n*1) 1 3)]) (Yl z) (Ym zn) fun(x_1:Unit)=>tO (bS i) (tX (jE.EB (a1++bd 4 n n::a2)) (tO (dI i) (tE [Yz,Y6] [(zn,4,BQ (f (aY x)) (n*1) 1 3)] [(0,IV n),(7,MP 1),(8,SL 2 n n),(21,IV n),(22,IV (i+1))] [(1,YE es ck),(2,BQ (a1++eg zn n::a2) (n*1) 1 128)] 3 (gb z [(zn,4,BQ (f (aY x)) (n*1) 1 3)]) (zn+1)))))).fork (tA 1 (tE [Y6] [] [(8,SL 2 n n)] [(2,wX cs n)] 3 z zn)))
abbrev PZ:Unit->Value:=fun(x:Unit)=>YM
noncomputable abbrev YGk(n:Nat)(s:ez):aA:=aA.mk YO [(8,bd 2 n n)] [(2,uW s.cs n)] 3 s.z s.zn
abbrev tU(x_1:ez)(n:Nat):aa:=BQ x_1.cs (n*1) 1 128
noncomputable abbrev YGm(n:Nat):ez->Tr:=fun(x:ez)=>tR [(1,2)] [] (TP [cX n,YM]) [(1,tU x n)] 2 x.z x.zn
theorem al(z:T aa)(zn n m:Nat)(cs cs0:List Value)(φ:pz->Prop)(ψ:pz->ez->Prop)(Q:QF)(hyp:(aF prog z zn 209 [IV n,eA m,Y5] [(0,iQ cs m)] 1 1 Yc PZ fun(x:Unit)=>[(0,iQ cs m)])/\Rs [IV n,eA m,Y5]/\KO (sig YC) (iQ cs m)/\ ∀(x:Unit),True->w5/\KO (sig YC) (iQ cs m)/\(bb prog z zn 210 [eA m,F0] [(0,iQ cs m)] 1 2 φ (fun(x:pz)=>mp 1) (fun(s:pz)=>[(0,iQ cs m),(1,Gn s.l)]) (fun(x:pz)=>x.z) fun(x:pz)=>x.zn)/\Rs [eA m,F0]/\KO (sig YC) (iQ cs m)/\ ∀(x:pz),φ x->Rs (MP 1)/\K2 (sig dv) (iQ cs m) (P0 x) (cG n/\cG n/\n<=1048576/\rep n [Y5]=cs0/\Y1/\aj prog (ah (ag f186) 0) 3 35 (BL n 0) [(1,P0 x),(2,uW cs0 n)] 3 x.z x.zn (Al.cons ez (ψ x) (fun(s:ez)=>YGk n s) (fun(x:ez)=>eU) Al.nil).R/\E6 35 x.z x.zn (R5 (IV n) (MP 1) (SL 2 n n) (IV n) YM (K2 (ay [Yz,Y6] []) (P0 x) (wX cs0 n) (∀(x_1:ez),ψ x x_1->E6 35 x_1.z x_1.zn (KO (ay [(1,2)] []) (tU x_1 n)/\Rs (TP [SL 2 n n,YM])/\Q (TP [cX n,YM]) [(1,tU x_1 n)] 2 x_1.z x_1.zn)))))):FnT prog gH cW f186 [iv n,bd 0 m m] z [(0,o8 cs m)] 1 zn Q:=K1t hyp (Tr.cm (Cm.mk [IV n,eA m,Y5] [(0,iQ cs m)] 1 1 YC YC 1) Unit Yc PZ (fun(x:Unit)=>[(0,iQ cs m)]) PZ (fun(x:Unit)=>[(0,iQ cs m)]) (Yl z) (Ym zn) fun(x:Unit)=>tA 2 (Tr.cm (Cm.mk [eA m,F0] [(0,iQ cs m)] 1 2 YC dv 2) pz φ (fun(x:pz)=>mp 1) (fun(s:pz)=>[(0,iQ cs m),(1,Gn s.l)]) (fun(x:pz)=>MP 1) (fun(x:pz)=>[(0,iQ cs m),(1,P0 x)]) (fun(x:pz)=>x.z) (fun(x:pz)=>x.zn) fun(x:pz)=>tX (jE.Ti n cs0) (Tr.lp 3 35 [Yz,Y6] [] (BL n 0) [(1,P0 x),(2,uW cs0 n)] 3 x.z x.zn (Al.cons ez (ψ x) (fun(s:ez)=>aA.mk YO [(8,bd 2 n n)] [(2,uW s.cs n)] 3 s.z s.zn) (YGm n) Al.nil))))
abbrev H6(x:ae)(es:List MapEntry):Option (Option (Nat × Value)):=aE prog 236 (tW x) es 0
abbrev kD(b:Bool):Nat × Value:=(2,fY b)
abbrev FX(n:Nat)(b:Bool)(m cp i:Nat):List (Nat × Value):=[eM n,kD b,(7,YK),(19,fO m cp),(20,IV m),(21,IV (i+1))]
noncomputable abbrev X1:Code:=ah (ag f150) 0
theorem ds0(z:T aa)(zn m cp n i ck:Nat)(b:Bool)(kb:aV)(x:ae)(es:List MapEntry)(Q:QL)(hyp:Br (decide ((↑i:Int)<(↑m:Int))) (cG i/\i<m/\Qg/\z.get 4=rM kb/\F5 kb i x/\Br b (b=true/\Br x.sf (b=true/\b=true/\H6 x es≠none/\(∀(p:Nat × Value),H6 x es=YH p->Exists (YJ p))/\(∀(i_1:Nat × Int),H6 x es=some (some (YI i_1))->(decide (x.aK<i_1.snd)=true->H6 x es=some (some (i_1.fst,ZV i_1.snd))/\yX es i_1.fst (tW x)/\Rf (dr i_1.fst (tW x) (ZV x.aK) es)/\ZV (IntKind.i64.wrap ((↑i:Int)+1))=IV (i+1)/\E6 81 z zn (R6 (IV n) (fY b) YK (fO m cp) (IV m) (IV (i+1)) (KO YD (aa.map (dr i_1.fst (tW x) (ZV x.aK) es) ck)/\Q aN (FX n b m cp i) [(0,aa.map (dr i_1.fst (tW x) (ZV x.aK) es) ck)] 1 z zn)))/\(decide (x.aK<i_1.snd)=false->ZV (IntKind.i64.wrap ((↑i:Int)+1))=IV (i+1)/\E6 81 z zn (R6 (IV n) (fY b) YK (fO m cp) (IV m) (IV (i+1)) (YF es ck/\Q aN (FX n b m cp i) [YG es ck] 1 z zn))))/\(H6 x es=YL->H6 x es=YL/\ZV (IntKind.i64.wrap ((↑i:Int)+1))=IV (i+1)/\E6 81 z zn (R6 (IV n) (fY b) YK (fO m cp) (IV m) (IV (i+1)) (KO YD (aa.map (es++[MapEntry.mk (tW x) (ZV x.aK) ck]) (ck+1))/\Q aN (FX n b m cp i) [(0,aa.map (es++[MapEntry.mk (tW x) (ZV x.aK) ck]) (ck+1))] 1 z zn)))) (b=true/\b=true/\ZV (IntKind.i64.wrap ((↑i:Int)+1))=IV (i+1)/\E6 81 z zn (R6 (IV n) (fY b) YK (fO m cp) (IV m) (IV (i+1)) (YF es ck/\Q aN (FX n b m cp i) [YG es ck] 1 z zn)))) (b=false/\b=false/\b=false/\H6 x es≠none/\(∀(p:Nat × Value),H6 x es=YH p->Exists (YJ p))/\(∀(i_1:Nat × Int),H6 x es=some (some (YI i_1))->(decide (x.aK<i_1.snd)=true->H6 x es=some (some (i_1.fst,ZV i_1.snd))/\yX es i_1.fst (tW x)/\Rf (dr i_1.fst (tW x) (ZV x.aK) es)/\ZV (IntKind.i64.wrap ((↑i:Int)+1))=IV (i+1)/\E6 81 z zn (R6 (IV n) (fY b) YK (fO m cp) (IV m) (IV (i+1)) (KO YD (aa.map (dr i_1.fst (tW x) (ZV x.aK) es) ck)/\Q aN (FX n b m cp i) [(0,aa.map (dr i_1.fst (tW x) (ZV x.aK) es) ck)] 1 z zn)))/\(decide (x.aK<i_1.snd)=false->ZV (IntKind.i64.wrap ((↑i:Int)+1))=IV (i+1)/\E6 81 z zn (R6 (IV n) (fY b) YK (fO m cp) (IV m) (IV (i+1)) (YF es ck/\Q aN (FX n b m cp i) [YG es ck] 1 z zn))))/\(H6 x es=YL->H6 x es=YL/\ZV (IntKind.i64.wrap ((↑i:Int)+1))=IV (i+1)/\E6 81 z zn (R6 (IV n) (fY b) YK (fO m cp) (IV m) (IV (i+1)) (KO YD (aa.map (es++[MapEntry.mk (tW x) (ZV x.aK) ck]) (ck+1))/\Q aN (FX n b m cp i) [(0,aa.map (es++[MapEntry.mk (tW x) (ZV x.aK) ck]) (ck+1))] 1 z zn))))) (E6 81 z zn (R2 (IV n) YK (YF es ck/\Q YO [eM n,(7,YK)] [YG es ck] 1 z zn)))):RdT prog gH cW X1 81 (BI m cp n b i) z [YG es ck] 1 zn 1 Q:=K1t hyp ((tA 1 (tO (bS i) (tO (Qe kb x) (tA 1 ((tO bI ((tO bI (tO bI (tA 5 (Tr.find (Nat × Int) YI (fun(i_1:Nat × Int)=>tA 5 ((tA 4 (tX (jE.pg i_1.fst (zv i_1.snd) (dr i_1.fst (AG [zv x.fz1,zv x.aB,F0]) (zv x.aK) es)) (tO (dI i) (tE YC [] (FX n b m cp i) [(0,aa.map (dr i_1.fst (tW x) (ZV x.aK) es) ck)] 1 z zn)))).fork (tA 2 (tO (dI i) (tE YC [] (FX n b m cp i) [YG es ck] 1 z zn))))) (tA 8 (tO CJ (tO (dI i) (tE YC []
 (FX n b m cp i) [(0,aa.map (es++[MapEntry.mk (tW x) (ZV x.aK) ck]) (ck+1))] 1 z zn)))))))).fork (tO bI (tO bI (tA 1 (tO (dI i) (tE YC [] (FX n b m cp i) [YG es ck] 1 z zn))))))).fork (tO bc (tO bc (tO bc (tA 5 (Tr.find (Nat × Int) YI (fun(i_1:Nat × Int)=>tA 5 ((tA 4 (tX (jE.pg i_1.fst (zv i_1.snd) (dr i_1.fst (AG [zv x.fz1,zv x.aB,F0]) (zv x.aK) es)) (tO (dI i) (tE YC [] (FX n b m cp i) [(0,aa.map (dr i_1.fst (tW x) (ZV x.aK) es) ck)] 1 z zn)))).fork (tA 2 (tO (dI i) (tE YC [] (FX n b m cp i) [YG es ck] 1 z zn))))) (tA 8 (tO CJ (tO (dI i) (tE YC [] (FX n b m cp i) [(0,aa.map (es++[MapEntry.mk (tW x) (ZV x.aK) ck]) (ck+1))] 1 z zn)))))))))))))).fork (tA 1 (tE YC [] [eM n,(7,YK)] [YG es ck] 1 z zn)))
abbrev YGr(x:Nat × gv):List Value:=[ZV x.snd.fst,ZV x.snd.snd.fst,ZV x.snd.snd.snd]
noncomputable abbrev YGs:Code:=ah (ag f150) 1
theorem ds1(z:T aa)(zn n r mm ck:Nat)(es:List MapEntry)(cs:List Value)(csf:Nat × gv->List Value)(seen:List Nat)(φ:Nat × gv->Prop)(Q:QL)(hyp:ck<=ck/\(∀(e:MapEntry),e∈es->e.born<ck)/\(∀(e:MapEntry),e∈es->lT e.born seen=false-> ∃(x:Nat × gv),φ x/\e=Xj x)/\(∀(x:Nat × gv),φ x->Rf ck/\fM x.fst es=some (MapEntry.mk (AG [ZV x.snd.fst,ZV x.snd.snd.fst,F0]) (ZV x.snd.snd.snd) x.fst)/\Rs (YGr x)/\r+1<=mm/\overwrite cs (0+r*3) (YGr x)=some (csf x)/\(csf x).length<=mm*3/\E6 81 z zn (R3 (IV n) (SL 1 (r+1) mm) eP (K2 Y8 (YE es ck) (BQ (csf x) (mm*3) 3 272) (Rs (aa.dK (some 0) ck (x.fst::seen) ck)/\Q aN [eM n,(13,SL 1 (r+1) mm),(59,eP)] [YG es ck,(1,BQ (csf x) (mm*3) 3 272),(2,aa.dK (some 0) ck (x.fst::seen) ck)] 3 z zn))))/\((∀(e:MapEntry),e∈es->lT e.born seen=true)->E6 81 z zn (R2 (IV n) (SL 1 r mm) (K2 oe (YE es ck) (iQ cs mm) (Q iy [eM n,(13,SL 1 r mm)] [YG es ck,(1,iQ cs mm)] 3 z zn))))):RdT prog gH cW YGs 81 (xj n r mm) z (w8 mm ck es cs seen) 3 zn 3 Q:=K1t hyp (Tr.kF (Nat × gv) φ (fun(x:Nat × gv)=>Xj x) (fun(x:Nat × gv)=>tA 1 (tX (jE.ent (MapEntry.mk (FN x.snd) (zv x.snd.snd.snd) x.fst)) (tA 3 (tX (jE.app 1 (YGr x) (csf x)) (tE Y7 [] [eM n,(13,SL 1 (r+1) mm),(59,eP)] [YG es ck,(1,BQ (csf x) (mm*3) 3 272),(2,aa.dK (some 0) ck (x.fst::seen) ck)] 3 z zn))))) (tA 1 (tE dv [] [eM n,(13,SL 1 r mm)] [YG es ck,(1,iQ cs mm)] 3 z zn)))
noncomputable abbrev YGt(n:Nat)(l:List gv)(z:T aa)(zn:Nat):List eO->aA:=fun(l_1:List eO)=>aA.mk iy [(1,iv n),(13,bd 1 l.length l.length)] [(0,aa.map (gO 0 l) l.length),(1,o8 (bF l_1) l.length)] 3 z zn
abbrev X0(n:Nat):ez->Value:=fun(x:ez)=>TP [bd 1 n n,YM]
abbrev XZ(n:Nat):ez->List (Nat × aa):=fun(s:ez)=>[(1,uW s.cs n)]
abbrev H5:ez->Nat:=fun(x:ez)=>x.zn
noncomputable abbrev YGx(n:Nat)(x:ez):Tr:=tR [(0,3)] [] (eA n) [(0,tU x n)] 1 x.z x.zn
theorem ds(z:T aa)(zn n m cp:Nat)(b:Bool)(l:List gv)(cs0:List Value)(φ:List eO->Prop)(ψ:ez->Prop)(Q:QF)(hyp:YP/\aj prog X1 1 81 (BI m cp n b 0) [(0,Y9)] 1 z zn (alt True (aA.mk YO [(1,iv n),(7,mp 0)] [(0,WA l)] 1 z zn) Al.nil).R/\E6 81 z zn (R6 (IV n) (fY b) YK (fO m cp) (IV m) YM (tG/\ ∀(x:Unit),True->Int.ofNat 0=0/\(↑(gO 0 l).length:Int)=(↑l.length:Int)/\0<=l.length/\l.length<=1048576/\rep l.length Yr=cs0/\Y1/\aj prog YGs 3 81 (xj n 0 l.length) (w8 l.length l.length (gO 0 l) cs0 []) 3 z zn (Al.cons (List eO) φ (YGt n l z zn) (fun(x:List eO)=>eU) Al.nil).R/\E6 81 z zn (R3 (IV n) (SL 1 0 l.length) eP (K2 (ay [Yz,Y6,YB] []) (aa.map (gO 0 l) l.length) (BQ cs0 (l.length*3) 3 272) (Rs (aa.dK (some 0) l.length [] l.length)/\ ∀(x:List eO),φ x->bb prog z zn 186 [IV n,SL 0 l.length l.length] [(0,BQ (bF x) (l.length*3) 3 272)] 1 2 ψ (X0 n) (XZ n) (fun(x:ez)=>x.z) H5/\Rs [IV n,SL 1 l.length l.length]/\KO (sig [(0,1)]) (BQ (bF x) (l.length*3) 3 272)/\ ∀(x:ez),ψ x->Rs (TP [cX n,YM])/\KO (sig [(1,0),(3,1)]) (tU x n)/\E6 81 x.z x.zn (KO (ay [(0,3)] []) (tU x n)/\Rs (jM n)/\Q (eA n) [(0,tU x n)] 1 x.z x.zn))))))):FnT prog gH cW f150 [tb 4 m cp,iv n,fY b] z [] 0 zn Q:=K1t hyp (Tr.lp 1 81 YC [] (BI m cp n b 0) [(0,Y9)] 1 z zn (Al.cons Unit Yc (fun(x:Unit)=>aA.mk YO [(1,iv n),(7,mp 0)] [(0,WA l)] 1 z zn) (fun(x:Unit)=>tX (jE.mk2 0 l.length cs0) (Tr.lp 3 81 [Yz,Y6,YB] [] (xj n 0 l.length) (w8 l.length l.length (gO 0 l) cs0 []) 3 z zn (Al.cons (List eO) φ (YGt n l z zn) (fun(x:List eO)=>Tr.cm (Cm.mk [IV n,SL 0 l.length l.length] [(0,BQ (bF x) (l.length*3) 3 272)] 1 2 [(0,1)] [(1,0),(3,1)] 4) ez ψ (X0 n) (XZ n) (fun(x:ez)=>TP [jM n,YM]) (fun(x:ez)=>[(3,tU x n)]) (fun(x:ez)=>x.z) H5 fun(x:ez)=>YGx n x) Al.nil))) Al.nil))
abbrev XY:Prop:=Rs (BQ [Y5] 1 1 26)
theorem ad0(z:T aa)(zn k:Nat)(a b n:Int)(f:Bool)(Q:QF)(hyp:Br (decide (n>0)) (Br (decide (n<=14400)) (E3 23 (Rf (gb z [(zn,2,BR [ZV a,ZV b,ZV n,fY f] 4 4 125)])/\zn.le (zn+1)/\aw z zn/\zn<=zn/\zn<zn+1/\Rs (BR [ZV a,ZV b,ZV n,fY f] 4 4 125)/\aD (ay YC [(zn,2,BR [ZV a,ZV b,ZV n,fY f] 4 4 125)]) (BQ [SL (tF zn) 1 1] 1 1 26)=some (BQ [SL 2 1 1] 1 1 26)/\nv/\Q pd [(0,BQ [SL (tF zn) 1 1] 1 1 26)] 1 (gb z [(zn,2,BR [ZV a,ZV b,ZV n,fY f] 4 4 125)]) (zn+1))) (E6 23 z zn (XY/\nv/\Q pd [(0,BQ [Y5] 1 1 26)] 1 z zn))) (E6 23 z zn (XY/\nv/\Q pd [(0,BQ [Y5] 1 1 26)] 1 z zn))):FnT prog gH cW f151 [zv a,zv b,zv n,fY f,ip 0] z [(0,oB an)] 1 zn Q:=K1t hyp ((tA 2 ((tA 5 (tR YC [(zn,2,BR [ZV a,ZV b,ZV n,fY f] 4 4 125)] pd [(0,BQ [SL (tF zn) 1 1] 1 1 26)] 1 (gb z [(zn,2,BR [ZV a,ZV b,ZV n,fY f] 4 4 125)]) (zn+1))).fork (tA 2 (tR YC [] pd [(0,BQ [Y5] 1 1 26)] 1 z zn)))).fork (tA 4 (tR YC [] pd [(0,BQ [Y5] 1 1 26)] 1 z zn)))
abbrev TX(zn:Nat)(kb:aV)(a b n:Int)(f:Bool)(r:Nat):List (Nat × Nat × aa):=[(zn,2,BR (kb.cells++[ZV a,ZV b,ZV n,fY f]) ((r+1)*4) 4 125)]
theorem ad1(z:T aa)(zn k r:Nat)(kb:aV)(a b n:Int)(f:Bool)(Q:QF)(hyp:Br (decide (n>0)) (Br (decide (n<=14400)) (fH k/\fR z k kb/\kb.exact=false/\kb.own=true/\kb.bN=0/\kb.ko=4/\kb.elem=125/\Rs [ZV a,ZV b,ZV n,fY f]/\Rf r/\kb.cells.length=r*4/\kb.cap=r*4/\r+1<=1048576/\E3 23 (Rf (gb (z.del k) (TX zn kb a b n f r))/\zn.le (zn+1)/\aw (z.del k) zn/\zn<=zn/\zn<zn+1/\KO (ay YC (TX zn kb a b n f r)) (BR (kb.cells++[ZV a,ZV b,ZV n,fY f]) ((r+1)*4) 4 125)/\aD (ay YC (TX zn kb a b n f r)) (BQ [OZ zn r] 1 1 26)=some (BQ [SL 2 (r+1) (r+1)] 1 1 26)/\nv/\Q pd [(0,BQ [OZ zn r] 1 1 26)] 1 (gb (z.del k) (TX zn kb a b n f r)) (zn+1))) (E6 23 z zn (Rs (BQ [eg k r] 1 1 26)/\nv/\Q pd [(0,BQ [eg k r] 1 1 26)] 1 z zn))) (E6 23 z zn (Rs (BQ [eg k r] 1 1 26)/\nv/\Q pd [(0,BQ [eg k r] 1 1 26)] 1 z zn))):FnT prog gH cW f151 [zv a,zv b,zv n,fY f,ip 0] z [(0,oB (tb k r r))] 1 zn Q:=K1t hyp ((tA 2 ((tA 3 (tX (jE.RC k kb 1 [ZV a,ZV b,ZV n,fY f]) (tA 1 (tR YC (TX zn kb a b n f r) pd [(0,BQ [OZ zn r] 1 1 26)] 1 (gb (z.del k) (TX zn kb a b n f r)) (zn+1))))).fork (tA 2 (tR YC [] pd [(0,BQ [eg k r] 1 1 26)] 1 z zn)))).fork (tA 4 (tR YC [] pd [(0,BQ [eg k r] 1 1 26)] 1 z zn)))
abbrev El:Value:=Value.func (Fn.func 151) Ut (Array.mk [eP])
abbrev wM(s0:da):Value:=Value.slice s0.oa s0.k s0.k
abbrev yT(s0:da):aa:=BQ [wM s0] 1 1 26
abbrev P2(n a ka b:Nat):List (Nat × Value):=[(5,eA n),(6,cX n),(7,eP),(8,El),(9,IV a),(21,IV n),(22,IV a),(28,eg ka n),(29,IV n),(30,IV (b+1))]
abbrev H8(A:List Value)(n:Nat)(B:List Value)(s0:da):List (Nat × aa):=[(0,wX A n),(1,wX B n),(2,yT s0)]
abbrev YG5(B:List Value)(n a kf:Nat):Prop:=ai prog (aV.mk B (n*1) 1 128 true true 0 true) 128 (0+a*1)=some (eg kf n)
abbrev L9:da->Value:=fun(x:da)=>pd
abbrev SQ:da->List (Nat × aa):=fun(s:da)=>[(0,oB s.v)]
abbrev ik:da->T aa:=fun(x:da)=>x.z
abbrev Ht:da->Nat:=fun(x:da)=>x.zn
abbrev XU(s0:da):Prop:=KO (sig [(0,2)]) (yT s0)
abbrev XT(x:da):Prop:=KO (sig [(2,0)]) (yT x)
noncomputable abbrev XS:Code:=ah (ag f125) 0
noncomputable abbrev oX(ka:Nat)(k1:aV)(d:Int):An:=An.ld ka k1 (zv d)
noncomputable abbrev oW(kf n:Nat):An:=An.pP (tb kf n n)
abbrev WR:da->List (Nat × aa):=fun(x:da)=>[(2,yT x)]
noncomputable abbrev YHG(b n a ka:Nat)(A B:List Value)(x:da):Tr:=tO (dI b) (tE Y7 [] (P2 n a ka b) (H8 A n B x) 3 (ik x) x.zn)
noncomputable abbrev YHH(a b:Nat)(f:Int)(ψ:da->da->Prop)(n ka:Nat)(A B:List Value):da->Tr:=fun(x:da)=>(tA 1 (Tr.cm (Cm.mk [IV a,IV b,ZV f,T1,Y3] [(0,yT x)] 1 1 [(0,2)] [(2,0)] 3) da (ψ x) L9 SQ L9 WR ik Ht fun(x:da)=>YHG b n a ka A B x)).fork (tA 1 (tO (dI b) (tE Y7 [] (P2 n a ka b) (H8 A n B x) 3 (ik x) x.zn)))
theorem cl1(z:T aa)(zn n a ka kf b:Nat)(A B:List Value)(s0:da)(k1 k2:aV)(d f:Int)(φ:da->Prop)(ψ:da->da->Prop)(Q:QL)(hyp:Br (decide ((↑b:Int)<(↑n:Int))) (cG b/\b<n/\fH ka/\fR z ka k1/\px k1 b d/\Br ((↑a:Int)==(↑b:Int)) (ZV (IntKind.i64.wrap ((↑b:Int)+1))=IV (b+1)/\E6 66 z zn (R2 (eA n) (cX n) (R8 eP El (IV a) (IV n) (IV a) (eg ka n) (IV n) (IV (b+1)) (K3 Y8 (wX A n) (wX B n) (yT s0) (Q aN (P2 n a ka b) (H8 A n B s0) 3 z zn))))) (cG a/\a<n/\YG5 B n a kf/\cG b/\b<n/\fH kf/\fR z kf k2/\px k2 b f/\Br (f==d) (bb prog z zn 151 [IV a,IV b,ZV d,T1,Y3] [(0,yT s0)] 1 1 φ L9 SQ ik Ht/\Rs [IV a,IV b,ZV d,T1,eP]/\XU s0/\ ∀(x:da),φ x->nv/\XT x/\((f !=d)=true->bb prog (ik x) x.zn 151 [IV a,IV b,ZV f,T1,Y3] [(0,yT x)] 1 1 (ψ x) L9 SQ ik Ht/\Rs [IV a,IV b,ZV f,T1,eP]/\XU x/\ ∀(x_1:da),ψ x x_1->nv/\XT x_1/\ZV (IntKind.i64.wrap ((↑b:Int)+1))=IV (b+1)/\E6 66 (ik x_1) x_1.zn (R2 (eA n) (cX n) (R8 eP El (IV a) (IV n) (IV a) (eg ka n) (IV n) (IV (b+1)) (K3 Y8 (wX A n) (wX B n) (yT x_1) (Q aN (P2 n a ka b) (H8 A n B x_1) 3 (ik x_1) x_1.zn)))))/\((f !=d)=false->ZV (IntKind.i64.wrap ((↑b:Int)+1))=IV (b+1)/\E6 66 (ik x) x.zn (R2 (eA n) (cX n) (R8 eP El (IV a) (IV n) (IV a) (eg ka n) (IV n) (IV (b+1)) (K3 Y8 (wX A n) (wX B n) (yT x) (Q aN (P2 n a ka b) (H8 A n B x) 3 (ik x) x.zn)))))) (bb prog z zn 151 [IV a,IV b,ZV d,F0,Y3] [(0,yT s0)] 1 1 φ L9 SQ ik Ht/\Rs [IV a,IV b,ZV d,F0,eP]/\XU s0/\ ∀(x:da),φ x->nv/\XT x/\((f !=d)=true->bb prog (ik x) x.zn 151 [IV a,IV b,ZV f,T1,Y3] [(0,yT x)] 1 1 (ψ x) L9 SQ ik Ht/\Rs [IV a,IV b,ZV f,T1,eP]/\XU x/\ ∀(x_1:da),ψ x x_1->nv/\XT x_1/\ZV (IntKind.i64.wrap ((↑b:Int)+1))=IV (b+1)/\E6 66 (ik x_1) x_1.zn (R2 (eA n) (cX n) (R8 eP El (IV a) (IV n) (IV a) (eg ka n) (IV n) (IV (b+1)) (K3 Y8 (wX A n) (wX B n) (yT x_1) (Q aN (P2 n a ka b) (H8 A n B x_1) 3 (ik x_1) x_1.zn)))))/\((f !=d)=false->ZV (IntKind.i64.wrap ((↑b:Int)+1))=IV (b+1)/\E6 66 (ik x) x.zn (R2 (eA n) (cX n) (R8 eP El (IV a) (IV n) (IV a) (eg ka n) (IV n) (IV (b+1)) (K3 Y8 (wX A n) (wX B n) (yT x) (Q aN (P2 n a ka b) (H8 A n B x) 3 (ik x) x.zn)))))))) (E6 66 z zn (R6 (eA n) (cX n) eP El (IV n) (IV a) (K3 Y8 (wX A n) (wX B n) (yT s0) (Q iy [(5,eA n),(6,cX n),(7,eP),(8,El),(21,IV n),(22,IV a)] (H8 A n B s0) 3 z zn))))):RdT prog gH cW (ah XS 0) 66 (BK n a ka b) z (AF n A B s0.v) 3 zn 3 Q:=⟨(tA 1 (tO (bS b) (tO (oX ka k1 d) ((tA 1 (tO (dI b) (tE Y7 [] (P2 n a ka b) (H8 A n B s0) 3 z zn))).fork (tA 1 (tO (bS a) (tO (oW kf n) (tO (bS b) (tO (oX kf k2 f) ((Tr.cm (Cm.mk [IV a,IV b,ZV d,T1,Y3] [(0,yT s0)] 1 1 [(0,2)] [(2,0)] 3) da φ L9 SQ L9 WR ik Ht (YHH a b f ψ n ka A B)).fork (Tr.cm (Cm.mk [IV a,IV b,ZV d,F0,Y3] [(0,yT s0)] 1 1 [(0,2)] [(2,0)] 3) da φ L9 SQ L9 WR ik Ht (YHH a b f ψ n ka A B)))))))))))).fork (tA 1 (tE Y7 [] [(5,eA n),(6,cX n),(7,eP),(8,El),(21,IV n),(22,IV a)] (H8 A n B s0) 3 z zn)),Eq.mp (by kernel_rfl)
 hyp⟩
noncomputable abbrev YHI(n a:Nat)(A B:List Value):da->aA:=fun(s:da)=>aA.mk iy (xk n a) (AF n A B s.v) 3 (ik s) s.zn
noncomputable abbrev YHJ(a n:Nat)(A B:List Value)(x:da):Tr:=tO (dI a) (tE Y7 [] [(5,eA n),(6,cX n),(7,eP),(8,El),(21,IV n),(22,IV (a+1))] (H8 A n B x) 3 (ik x) x.zn)
theorem cl0(z:T aa)(zn n a ka:Nat)(A B:List Value)(s0:da)(φ:da->Prop)(Q:QL)(hyp:Br (decide ((↑a:Int)<(↑n:Int))) (cG a/\a<n/\YG5 A n a ka/\Y1/\aj prog (ah XS 0) 3 66 (BK n a ka 0) (AF n A B s0.v) 3 z zn (Al.cons da φ (YHI n a A B) (fun(x:da)=>eU) Al.nil).R/\E6 66 z zn (R2 (eA n) (cX n) (R8 eP El (IV a) (IV n) (IV a) (eg ka n) (IV n) YM (K3 Y8 (wX A n) (wX B n) (yT s0) (∀(x:da),φ x->ZV (IntKind.i64.wrap ((↑a:Int)+1))=IV (a+1)/\E6 66 (ik x) x.zn (R6 (eA n) (cX n) eP El (IV n) (IV (a+1)) (K3 Y8 (wX A n) (wX B n) (yT x) (Q aN [(5,eA n),(6,cX n),(7,eP),(8,El),(21,IV n),(22,IV (a+1))] (H8 A n B x) 3 (ik x) x.zn)))))))) (E6 66 z zn (Rs eP/\KO (ay [Y6] []) (yT s0)/\Q YO [(7,eP)] (WR s0) 3 z zn))):RdT prog gH cW XS 66 (xk n a) z (AF n A B s0.v) 3 zn 3 Q:=K1t hyp ((tA 1 (tO (bS a) (tO (oW ka n) (Tr.lp 3 66 Y7 [] (BK n a ka 0) (AF n A B s0.v) 3 z zn (Al.cons da φ (YHI n a A B) (fun(x:da)=>YHJ a n A B x) Al.nil))))).fork (tA 1 (tE [Y6] [] [(7,eP)] (WR s0) 3 z zn)))
abbrev PX(n:Nat):ez->Value:=fun(x:ez)=>bd 0 n n
abbrev PW(n:Nat):ez->List (Nat × aa):=fun(s:ez)=>[(0,uW s.cs n)]
noncomputable abbrev YHM(s:da):aA:=aA.mk YO [(7,ip 2)] [(2,oB s.v)] 3 (ik s) s.zn
noncomputable abbrev YHN:da->aA:=fun(s:da)=>YHM s
abbrev YHO(n:Nat)(x x_1:ez)(χ:ez->ez->da->Prop):Prop:=aj prog XS 3 66 (xk n 0) (AF n x.cs x_1.cs an) 3 x_1.z x_1.zn (Al.cons da (χ x x_1) YHN (fun(x:da)=>eU) Al.nil).R
abbrev YHP(x_2:da):Prop:=aF prog (ik x_2) x_2.zn 152 [wM x_2,ir] [] 0 0 Yc nq Ye
noncomputable abbrev YHQ(x:da):Tr:=tA 1 (Tr.cm (Cm.mk [wM x,ir] [] 0 0 [] [] 3) Unit Yc nq Ye nq Ye (fun(x_2:Unit)=>ik x) (fun(x_2:Unit)=>x.zn) fun(x_2:Unit)=>tA 1 (tR [] [] (wM x) [] 0 (ik x) x.zn))
noncomputable abbrev YHR(n:Nat)(x:ez)(χ:ez->ez->da->Prop):ez->Tr:=fun(x_1:ez)=>Tr.lp 3 66 Y7 [] (xk n 0) (AF n x.cs x_1.cs an) 3 x_1.z x_1.zn (Al.cons da (χ x x_1) YHN (fun(x:da)=>YHQ x) Al.nil)
theorem cl(z:T aa)(zn n m cp:Nat)(φ:ez->Prop)(ψ:ez->ez->Prop)(χ:ez->ez->da->Prop)(Q:QF)(hyp:bb prog z zn 150 [fO m cp,IV n,F0] [] 0 1 φ (PX n) (PW n) (fun(x:ez)=>x.z) H5/\Rs [fO m cp,IV n,F0]/\ ∀(x:ez),φ x->Rs (eA n)/\KO (sig YC) (tU x n)/\bb prog x.z x.zn 150 [fO m cp,IV n,T1] [] 0 1 (ψ x) (PX n) (PW n) (fun(x:ez)=>x.z) H5/\Rs [fO m cp,IV n,T1]/\ ∀(x_1:ez),ψ x x_1->Rs (eA n)/\KO (sig CK) (tU x_1 n)/\Y1/\YHO n x x_1 χ/\E6 66 x_1.z x_1.zn (R6 (eA n) (cX n) eP El (IV n) YM (K2 Y8 (tU x n) (tU x_1 n) (XY/\ ∀(x_2:da),χ x x_1 x_2->YHP x_2/\aS Yf [wM x_2,ir]=some [wM x_2,ir]/\ ∀(x:Unit),True->nv/\E6 66 (ik x_2) x_2.zn (aP (ay [] []) (wM x_2)=some (wM x_2)/\Q (wM x_2) [] 0 (ik x_2) x_2.zn))))):FnT prog gH cW f125 [tb 4 m cp,iv n] z [] 0 zn Q:=K1t hyp (Tr.cm (Cm.mk [fO m cp,IV n,F0] [] 0 1 [] YC 1) ez φ (PX n) (PW n) (fun(x:ez)=>eA n) (fun(x:ez)=>[(0,tU x n)]) (fun(x:ez)=>x.z) H5 fun(x:ez)=>Tr.cm (Cm.mk [fO m cp,IV n,T1] [] 0 1 [] CK 2) ez (ψ x) (PX n) (PW n) (fun(x:ez)=>cX n) (fun(x:ez)=>[(1,tU x n)]) (fun(x:ez)=>x.z) H5 (YHR n x χ))
noncomputable abbrev WQ:Code:=ah (ag f83) 0
theorem ic0(z:T aa)(zn k r m cp i:Nat)(k1 k2:aV)(x y:ae)(b:Bool)(Q:QL)(hyp:Br (decide ((↑i:Int)<(↑r:Int))) (cG i/\i<r/\fH k/\fR z k k2/\F5 k2 i y/\cG i/\i<m/\Qg/\z.get 4=rM k1/\F5 k1 i x/\Ai prog BinOp.neq 125 (Operand.tmp 36) (Operand.tmp 40) (O6 y) (O6 x) (fY b)/\Br b (E6 43 z zn (YQ/\Q af.ret [(4,F0)] [] 0 z zn)) (ZV (IntKind.i64.wrap ((↑i:Int)+1))=IV (i+1)/\E6 43 z zn (R5 (fO m cp) (eg k r) (eg k r) (IV r) (IV (i+1)) (Q aN [(0,fO m cp),(28,eg k r),(7,eg k r),(29,IV r),(30,IV (i+1))] [] 0 z zn)))) (E6 43 z zn (Q YO [] [] 0 z zn))):RdT prog gH cW WQ 43 (DE k r m cp i) z [] 0 zn 0 Q:=K1t hyp ((tA 1 (tO (bS i) (tO (An.ld k k2 (AG y.row)) (tO (bS i) (tO (Qe k1 x) (tX (jE.bin (fY b)) ((tE [] [] [(4,F0)] [] 0 z zn).fork (tO (dI i) (tE [] [] [(0,fO m cp),(28,eg k r),(7,eg k r),(29,IV r),(30,IV (i+1))] [] 0 z zn))))))))).fork (S8 z zn))
theorem aaX(z:T aa)(zn:Nat)(v:Value)(Q:QL)(hyp:E6 43 z zn (Q YO [] [] 0 z zn)):RdT prog gH cW WQ 43 (po v) z [] 0 zn 0 Q:=K1t hyp (tA 2 (tE [] [] [] [] 0 z zn))
abbrev TV:Unit->Value:=fun(x:Unit)=>TP [zv 0,zv 0]
abbrev TU(m cp n:Nat):List Value:=[fO m cp,ZV (if 0>(↑n:Int) then 0 else (↑n:Int))]
abbrev XR:T aa × Nat->Value:=fun(x:T aa × Nat)=>an
abbrev TT:T aa × Nat->List (Nat × aa):=fun(x:T aa × Nat)=>[]
abbrev wL:T aa × Nat->T aa:=fun(x:T aa × Nat)=>x.fst
abbrev XQ:T aa × Nat->Nat:=fun(x:T aa × Nat)=>x.snd
abbrev WO:Unit->Value:=fun(x:Unit)=>wZ
theorem icz(z:T aa)(zn n m cp:Nat)(φ:T aa × Nat->Prop)(Q:QF)(hyp:Br (decide ((↑n:Int)>64)) (E6 43 z zn (YQ/\Q F0 [] 0 z zn)) (aF prog z zn 124 [fO m cp,IV n] [] 0 0 Yc TV Ye/\Rs [fO m cp,IV n]/\ ∀(x:Unit),True->wO/\bb prog z zn 125 (TU m cp n) [] 0 0 φ XR TT wL XQ/\Rs (TU m cp n)/\ ∀(x:T aa × Nat),φ x->Rs Y5/\((0 !=(↑m:Int))=true->E6 43 (wL x) x.snd (YQ/\Q F0 [] 0 (wL x) x.snd))/\((0 !=(↑m:Int))=false->tD/\aj prog WQ 0 43 (po (tb 4 m cp)) [] 0 (wL x) x.snd (alt True (aA.mk YO [] [] 0 (wL x) x.snd) Al.nil).R/\E6 43 (wL x) x.snd (R4 (fO m cp) Y5 YM YM (∀(x_1:Unit),True->E6 43 (wL x) x.snd (YA/\Q T1 [] 0 (wL x) x.snd)))))):FnT prog gH cW f83 [tb 4 m cp,iv n] z [] 0 zn Q:=K1t hyp ((tA 1 (Yo z zn)).fork (tA 1 (Tr.cm (Cm.mk [fO m cp,IV n] [] 0 0 [] [] 0) Unit Yc TV Ye WO Ye (Yl z) (Ym zn) fun(x:Unit)=>tA 3 (Tr.cm (Cm.mk (TU m cp n) [] 0 0 [] [] 0) (T aa × Nat) φ XR TT (fun(x:T aa × Nat)=>Y5) TT wL XQ fun(x:T aa × Nat)=>(tA 1 (tR [] [] F0 [] 0 (wL x) x.snd)).fork (tA 1 (Tr.lp 0 43 [] [] (po (tb 4 m cp)) [] 0 (wL x) x.snd (Al.cons Unit Yc (fun(x_1:Unit)=>aA.mk YO [] [] 0 (wL x) x.snd) (fun(x_1:Unit)=>tR [] [] T1 [] 0 (wL x) x.snd) Al.nil)))))))
abbrev YHa:Nat × Nat × T aa × Nat->Value:=fun(s:Nat × Nat × T aa × Nat)=>tb s.fst s.snd.fst s.snd.fst
abbrev YHb:Nat × Nat × T aa × Nat->List (Nat × aa):=fun(x:Nat × Nat × T aa × Nat)=>[]
abbrev YHc(x:Nat × Nat × T aa × Nat):T aa:=x.snd.snd.fst
abbrev AN:Nat × Nat × T aa × Nat->T aa:=fun(x:Nat × Nat × T aa × Nat)=>YHc x
abbrev XP(x:Nat × Nat × T aa × Nat):Value:=SL (tF x.fst) x.snd.fst x.snd.fst
theorem ict(z:T aa)(zn n m cp:Nat)(b:Bool)(φ:Nat × Nat × T aa × Nat->Prop)(Q:QF)(hyp:Br (decide ((↑n:Int)>64)) (E6 43 z zn (YQ/\Q F0 [] 0 z zn)) (aF prog z zn 124 [fO m cp,IV n] [] 0 0 Yc TV Ye/\Rs [fO m cp,IV n]/\ ∀(x:Unit),True->wO/\(bb prog z zn 125 (TU m cp n) [] 0 0 φ YHa YHb AN fun(x:Nat × Nat × T aa × Nat)=>x.snd.snd.snd)/\Rs (TU m cp n)/\ ∀(x:Nat × Nat × T aa × Nat),φ x->Rs (XP x)/\(((↑x.snd.fst:Int) !=(↑m:Int))=true->E6 43 (AN x) x.snd.snd.snd (YQ/\Q F0 [] 0 (AN x) x.snd.snd.snd))/\(((↑x.snd.fst:Int) !=(↑m:Int))=false->tD/\aj prog WQ 0 43 (DE x.fst x.snd.fst m cp 0) [] 0 (AN x) x.snd.snd.snd (alt (b=false) (aA.mk af.ret [(4,F0)] [] 0 (AN x) x.snd.snd.snd) (alt (b=true) (aA.mk YO [] [] 0 (AN x) x.snd.snd.snd) Al.nil)).R/\E6 43 (AN x) x.snd.snd.snd (R5 (fO m cp) (XP x) (XP x) (IV x.snd.fst) YM ((∀(x_1:Unit),b=false->E6 43 (AN x) x.snd.snd.snd (YQ/\Q F0 [] 0 (AN x) x.snd.snd.snd))/\ ∀(x_1:Unit),b=true->E6 43 (AN x) x.snd.snd.snd (YA/\Q T1 [] 0 (AN x) x.snd.snd.snd)))))):FnT prog gH cW f83 [tb 4 m cp,iv n] z [] 0 zn Q:=K1t hyp ((tA 1 (Yo z zn)).fork (tA 1 (Tr.cm (Cm.mk [fO m cp,IV n] [] 0 0 [] [] 0) Unit Yc TV Ye WO Ye (Yl z) (Ym zn) fun(x:Unit)=>tA 3 (Tr.cm (Cm.mk (TU m cp n) [] 0 0 [] [] 0) (Nat × Nat × T aa × Nat) φ YHa YHb XP YHb AN (fun(x:Nat × Nat × T aa × Nat)=>x.snd.snd.snd) fun(x:Nat × Nat × T aa × Nat)=>(tA 1 (tR [] [] F0 [] 0 (AN x) x.snd.snd.snd)).fork (tA 1 (Tr.lp 0 43 [] [] (DE x.fst x.snd.fst m cp 0) [] 0 (AN x) x.snd.snd.snd (Al.cons Unit (YS b) (fun(x_1:Unit)=>aA.mk af.ret [(4,F0)] [] 0 (AN x) x.snd.snd.snd) (fun(x_1:Unit)=>tR [] [] F0 [] 0 (AN x) x.snd.snd.snd) (Al.cons Unit (YR b) (fun(x_1:Unit)=>aA.mk YO [] [] 0 (AN x) x.snd.snd.snd) (fun(x_1:Unit)=>tR [] [] T1 [] 0 (AN x) x.snd.snd.snd) Al.nil))))))))
abbrev YHf(n:Nat):List Value:=[Y5,ZV (if 0>(↑n:Int) then 0 else (↑n:Int))]
noncomputable abbrev YHg(x:T aa × Nat):Tr:=tA 2 (Tr.lp 0 43 [] [] (po an) [] 0 (wL x) x.snd (Al.cons Unit Yc (fun(x_1:Unit)=>aA.mk YO [] [] 0 (wL x) x.snd) (fun(x_1:Unit)=>tR [] [] T1 [] 0 (wL x) x.snd) Al.nil))
theorem icn(z:T aa)(zn n:Nat)(φ:T aa × Nat->Prop)(Q:QF)(hyp:Br (decide ((↑n:Int)>64)) (E6 43 z zn (YQ/\Q F0 [] 0 z zn)) (aF prog z zn 124 [Y5,IV n] [] 0 0 Yc TV Ye/\Rs [Y5,IV n]/\ ∀(x:Unit),True->wO/\bb prog z zn 125 (YHf n) [] 0 0 φ XR TT wL XQ/\Rs (YHf n)/\ ∀(x:T aa × Nat),φ x->Rs Y5/\tD/\aj prog WQ 0 43 (po an) [] 0 (wL x) x.snd (alt True (aA.mk YO [] [] 0 (wL x) x.snd) Al.nil).R/\E6 43 (wL x) x.snd (R4 Y5 Y5 YM YM (∀(x_1:Unit),True->E6 43 (wL x) x.snd (YA/\Q T1 [] 0 (wL x) x.snd))))):FnT prog gH cW f83 [an,iv n] z [] 0 zn Q:=K1t hyp ((tA 1 (Yo z zn)).fork (tA 1 (Tr.cm (Cm.mk [Y5,IV n] [] 0 0 [] [] 0) Unit Yc TV Ye WO Ye (Yl z) (Ym zn) fun(x:Unit)=>tA 3 (Tr.cm (Cm.mk (YHf n) [] 0 0 [] [] 0) (T aa × Nat) φ XR TT (fun(x:T aa × Nat)=>Y5) TT wL XQ fun(x:T aa × Nat)=>YHg x))))
theorem abr(z:T aa)(zn n:Nat)(b:Bool)(Q:QL)(hyp:E6 81 z zn (R2 (IV n) YK (tG/\Q YO [eM n,(7,YK)] [(0,Y9)] 1 z zn))):RdT prog gH cW X1 81 (ya n b) z [(0,Y9)] 1 zn 1 Q:=K1t hyp (tA 2 (tE YC [] [eM n,(7,YK)] [(0,Y9)] 1 z zn))
noncomputable abbrev YHh(n:Nat)(z:T aa)(zn:Nat):List eO->aA:=fun(l:List eO)=>aA.mk iy [(1,iv n),(13,bd 1 0 0)] [(0,Y9),(1,o8 (bF l) 0)] 3 z zn
abbrev L6:Value:=SL 1 0 0
theorem dsz(z:T aa)(zn n:Nat)(b:Bool)(φ:List eO->Prop)(ψ:ez->Prop)(Q:QF)(hyp:YP/\aj prog X1 1 81 (ya n b) [(0,Y9)] 1 z zn (alt True (aA.mk YO [(1,iv n),(7,mp 0)] [(0,Y9)] 1 z zn) Al.nil).R/\E6 81 z zn (R6 (IV n) (fY b) YK Y5 YM YM (tG/\ ∀(x:Unit),True->Y1/\aj prog YGs 3 81 (xj n 0 0) (w8 0 0 [] [] []) 3 z zn (Al.cons (List eO) φ (YHh n z zn) (fun(x:List eO)=>eU) Al.nil).R/\E6 81 z zn (R3 (IV n) L6 eP (tG/\Rs (BQ [] 0 3 272)/\Rs (aa.dK (some 0) 0 [] 0)/\ ∀(x:List eO),φ x->bb prog z zn 186 [IV n,SL 0 0 0] [(0,BQ (bF x) 0 3 272)] 1 2 ψ (X0 n) (XZ n) (fun(x:ez)=>x.z) H5/\Rs [IV n,L6]/\KO (sig [(0,1)]) (BQ (bF x) 0 3 272)/\ ∀(x:ez),ψ x->Rs (TP [cX n,YM])/\KO (sig [(1,0),(3,1)]) (tU x n)/\E6 81 x.z x.zn (KO (ay [(0,3)] []) (tU x n)/\Rs (jM n)/\Q (eA n) [(0,tU x n)] 1 x.z x.zn)))))):FnT prog gH cW f150 [an,iv n,fY b] z [] 0 zn Q:=K1t hyp (Tr.lp 1 81 YC [] (ya n b) [(0,Y9)] 1 z zn (Al.cons Unit Yc (fun(x:Unit)=>aA.mk YO [(1,iv n),(7,mp 0)] [(0,Y9)] 1 z zn) (fun(x:Unit)=>tA 1 (Tr.lp 3 81 [Yz,Y6,YB] [] (xj n 0 0) (w8 0 0 [] [] []) 3 z zn (Al.cons (List eO) φ (YHh n z zn) (fun(x:List eO)=>Tr.cm (Cm.mk [IV n,SL 0 0 0] [(0,BQ (bF x) 0 3 272)] 1 2 [(0,1)] [(1,0),(3,1)] 4) ez ψ (X0 n) (XZ n) (fun(x:ez)=>TP [jM n,YM]) (fun(x:ez)=>[(3,tU x n)]) (fun(x:ez)=>x.z) H5 fun(x:ez)=>tR [(0,3)] [] (eA n) [(0,tU x n)] 1 x.z x.zn) Al.nil))) Al.nil))
theorem clz(z:T aa)(zn n:Nat)(φ:ez->Prop)(ψ:ez->ez->Prop)(χ:ez->ez->da->Prop)(Q:QF)(hyp:bb prog z zn 150 [Y5,IV n,F0] [] 0 1 φ (PX n) (PW n) (fun(x:ez)=>x.z) H5/\Rs [Y5,IV n,F0]/\ ∀(x:ez),φ x->Rs (eA n)/\KO (sig YC) (tU x n)/\bb prog x.z x.zn 150 [Y5,IV n,T1] [] 0 1 (ψ x) (PX n) (PW n) (fun(x:ez)=>x.z) H5/\Rs [Y5,IV n,T1]/\ ∀(x_1:ez),ψ x x_1->Rs (eA n)/\KO (sig CK) (tU x_1 n)/\Y1/\YHO n x x_1 χ/\E6 66 x_1.z x_1.zn (R6 (eA n) (cX n) eP El (IV n) YM (K2 Y8 (tU x n) (tU x_1 n) (XY/\ ∀(x_2:da),χ x x_1 x_2->YHP x_2/\aS Yf [wM x_2,ir]=some [wM x_2,ir]/\ ∀(x:Unit),True->nv/\E6 66 (ik x_2) x_2.zn (aP (ay [] []) (wM x_2)=some (wM x_2)/\Q (wM x_2) [] 0 (ik x_2) x_2.zn))))):FnT prog gH cW f125 [an,iv n] z [] 0 zn Q:=K1t hyp (Tr.cm (Cm.mk [Y5,IV n,F0] [] 0 1 [] YC 1) ez φ (PX n) (PW n) (fun(x:ez)=>eA n) (fun(x:ez)=>[(0,tU x n)]) (fun(x:ez)=>x.z) H5 fun(x:ez)=>Tr.cm (Cm.mk [Y5,IV n,T1] [] 0 1 [] CK 2) ez (ψ x) (PX n) (PW n) (fun(x:ez)=>cX n) (fun(x:ez)=>[(1,tU x n)]) (fun(x:ez)=>x.z) H5 (YHR n x χ))
end
end Go.Proofs.Nw
namespace Go.Proofs.Nw
open Go Go.AV Tryz Go.jP
set_option maxHeartbeats 1000000
set_option maxRecDepth 100000
def EE(E:List eO):bY:=fun u v w=> ∃e∈E,e.fz1=(u:Int)/\e.aB=(v:Int)/\e.wt=(w:Int)
abbrev DO(l:List cS)(n:Nat):aV:=⟨yk l,n*1,1,3,true,true,0,true⟩
def mX(b n:Nat)(i:Nat):List Value:=(List.range i).map fun j=>tb (b+j) n n
def gN(b n i:Nat):List Value:=mX b n i++List.replicate (n - i) an
theorem qm(b n i:Nat):(mX b n i).length=i:=by simp[mX]
theorem ql(b n i:Nat):mX b n (i+1)=mX b n i++[tb (b+i) n n]:=by simp[mX,List.range_succ]
theorem Km{b n i:Nat}(h:i<n):(gN b n n)[i]? =some (tb (b+i) n n):=by
 unfold gN mX
 rw[List.getElem?_append_left (by simpa using h),List.getElem?_map,List.getElem?_range h];rfl
theorem Of{b n i:Nat}(h:i<=n):(gN b n i).length=n:=by simp[gN,mX];omega
theorem G5{b n i:Nat}(h:i<n):gN b n i=mX b n i++an::List.replicate (n - (i+1)) an:=by
 unfold gN
 obtain⟨m,hm⟩: ∃m,n - i=m+1:=⟨n - i - 1,by omega⟩
 rw[hm,show n - (i+1)=m by omega];rfl
theorem Kl{b n i:Nat}:gN b n (i+1)=mX b n i++tb (b+i) n n::List.replicate (n - (i+1)) an:=by
 unfold gN
 rw[ql,List.append_assoc];rfl
theorem nF{σ:Nat->Option Nat}: ∀{a a' b b':List Value},aS σ a=some a'->aS σ b=some b'->aS σ (a++b)=some (a'++b')
 |[],a',b,b',h1,h2=>by simp only[aS,Option.some.injEq] at h1;subst h1;exact h2
 |v::a,a',b,b',h1,h2=>by
  simp only[aS] at h1
  split at h1
  ·rename_i k q1
   split at h1
   ·rename_i m q3
    cases h1
    simp only[List.cons_append,aS,q1,nF q3 h2]
   ·cases h1
  ·cases h1
theorem qB{σ:Nat->Option Nat}{b n:Nat}: ∀{i:Nat},(∀j,j<i->σ (256*(b+j)+510)=some (256*(b+j)+510))->aS σ (mX b n i)=some (mX b n i)
 |0,_=>rfl
 |i+1,h=>by
  rw[ql]
  refine nF (qB fun j hj=>h j (by omega)) ?_
  have:=h i (Nat.lt_succ_self i)
  simp only[aS,aP,this]
theorem pM(m:Nat):bJ (List.replicate m an)=true:=by
 rw[de];intro v hv;rw[List.eq_of_mem_replicate hv];rfl
theorem MO{σ:Nat->Option Nat}{b n i:Nat}(h: ∀j,j<i->σ (256*(b+j)+510)=some (256*(b+j)+510)):aS σ (gN b n i)=some (gN b n i):=nF (qB h) (cQ (pM _))
theorem ED(σ:bq)(k:Nat):sig σ (256*k+510)=some (256*k+510):=jo (by unfold cO;omega)
theorem nD(σ:bq)(b n i c:Nat):aD (ay σ []) (aa.az (aV.mk (gN b n i) c 1 128 true true 0 true))=some (aa.az (aV.mk (gN b n i) c 1 128 true true 0 true)):=by
 have:=MO (σ:=ay σ []) (b:=b) (n:=n) (i:=i) fun j _=>ED σ _
 simp only[aD,this]
structure CS(b n:Nat)(L:List pe)(z1:T aa)(i:Nat)(zz:T aa):Prop where
 bN:aw zz (b+i)
 gK: ∀k,k<b->zz.get k=z1.get k
 row: ∀j,j<i-> ∃l,Foφ L n j l/\zz.get (b+j)=some (.az (DO l n))
structure CQ(z:T aa)(zn n:Nat)(E:bY)(s:ez):Prop where
 bN:aw s.z s.zn
 le:zn<=s.zn
 gK: ∀k,k<zn->s.z.get k=z.get k
 row: ∃b,zn<=b/\b+n<=s.zn/\s.cs=gN b n n/\ ∀i,i<n-> ∃l,s.z.get (b+i)=some (.az (DO l n))/\l.length=n/\ ∀j,j<n->mV E i j (fG l j).len
section
variable{z:T aa}{zn:Nat}
theorem UZ{n:Nat}{E:List eO}(hE:HL n E){s:pz}(h:HH z zn E E.length s){zz:T aa}(hzz: ∀k,k<s.zn->zz.get k=s.z.get k)(zm:Nat):ZQ zz zm n s.l:=by
 refine⟨fun x hx=>?_,fun x hx=>?_⟩
 ·obtain⟨k1,k2,k3,_⟩:=h.row x hx
  exact⟨_,(hzz _ k2).trans k3,rfl⟩
 ·obtain⟨k1,k2,k3,k4,k5,k6⟩:=h.row x hx
  refine⟨Nat.le_trans k5 hE.len,fun e he=>?_⟩
  obtain⟨m1,m2,m3,m4,m5,m6⟩:=hE.ok e (k6 e he)
  exact⟨m3,m4,m5,m6⟩
theorem Q9{E:List eO}{s:pz}(h:HH z zn E E.length s):GE s.l=EE E:=by
 funext u v w
 apply propext
 unfold GE EE
 rw[h.mT,List.take_of_length_le (Nat.le_refl _)]
 constructor
 ·rintro⟨e,he,h1,h2⟩
  rw[List.mem_filter] at he
  exact⟨e,he.1,by simpa using he.2,h1,h2⟩
 ·rintro⟨e,he,h0,h1,h2⟩
  exact⟨e,List.mem_filter.2 ⟨he,by simpa using h0⟩,h1,h2⟩
theorem NN(n:Nat)(hn:n<=64)(E:List eO)(hE:HL n E)(s:pz)(hs:HH z zn E E.length s):
 aj prog (ah (ag f186) 0) 3 35 (BL n 0) [(1,Gn s.l),(2,uW (rep n [an]) n)] 3 s.z s.zn (Al.R (VD n s.l.length (fo 0 s.l) (rep n [an]) s.z s.zn (fun r=> ∃zz,CS s.zn n s.l s.z n zz/\r=⟨gN s.zn n n,zz,s.zn+n⟩)).l):=by
 have e0:rep n [an]=gN s.zn n 0:=by rw[oE n [an] rfl];simp[gN,mX]
 rw[e0]
 refine ax hD (c7 T.leaf) (α:=Nat × T aa) 3 35 3 (fun t=>t.1<=n/\CS s.zn n s.l s.z t.1 t.2) (fun t=>BL n t.1) (fun t=>[(1,Gn s.l),(2,uW (gN s.zn n t.1) n)]) (fun t=>t.2) (fun t=>s.zn+t.1) (fun t=>n - t.1) _ (fun t hI=>?_) (0,s.z) ⟨Nat.zero_le _,hs.bN,fun _ _=>rfl,fun j hj=>by omega⟩
 obtain⟨i,zz⟩:=t
 obtain⟨h1,h2⟩:=hI
 simp only at h1 h2 ⊢
 have hfr:=h2.bN
 by_cases hi:i<n
 ·have hc:decide ((i:Int)<(n:Int))=true:=by simp;omega
  have hL:=UZ hE hs (zz:=zz) h2.gK (s.zn+i)
  have hlab:=KS hfr s.l n i hL hn hi
  have hlen: ∀l,Foφ s.l n i l->A1 zz (s.zn+i) 211 [bd 0 n n] [(0,kT (aY l) n)] 1 2 (bd 1 n n) [(1,GK (xn (aY l)) n)]:=fun l hl=>Sv hfr l n hl.1 (by omega)
  have o1:=nI (cs:=gN s.zn n i) (i:=i) (by rw[Of h1];exact hi) (bd 4 n n)
  have e1:(gN s.zn n i).set i (bd 4 n n)=mX s.zn n i++bd 4 n n::List.replicate (n - (i+1)) an:=by
   rw[G5 hi,List.set_append_right _ _ (by rw[qm];exact Nat.le_refl _),qm,Nat.sub_self,List.set_cons_zero]
  rw[e1] at o1
  have l1:(mX s.zn n i++bd 4 n n::List.replicate (n - (i+1)) an).length<=n*1:=by simp[qm];omega
  have r1: ∀(σ:Nat->Option Nat) l c,aD σ (aa.az (aV.mk (xn (aY l)) c 1 3 true true 0 true))=some (aa.az (aV.mk (xn (aY l)) c 1 3 true true 0 true)):=fun σ l c=>by
   rw[oS];exact nE (mF (·.len) l) c
  have r2: ∀o,aD (ay [(1,1),(2,2)] [(s.zn+i,4,o)]) (aa.map (fo 0 s.l) s.l.length)=some (aa.map (fo 0 s.l) s.l.length):=fun o=>IL (fun x hx=>kL (by have:=(hs.row x hx).2.1;omega)) _
  have r3: ∀o c,aD (ay [(1,1),(2,2)] [(s.zn+i,4,o)]) (aa.az (aV.mk (mX s.zn n i++tb (s.zn+i) n n::List.replicate (n - (i+1)) an) c 1 128 true true 0 true))=some (aa.az (aV.mk (mX s.zn n i++bd 4 n n::List.replicate (n - (i+1)) an) c 1 128 true true 0 true)):=fun o c=>by
   have q1:=qB (σ:=ay [(1,1),(2,2)] [(s.zn+i,4,o)]) (b:=s.zn) (n:=n) (i:=i) fun j hj=>kL (by omega)
   have q2:aS (ay [(1,1),(2,2)] [(s.zn+i,4,o)]) (tb (s.zn+i) n n::List.replicate (n - (i+1)) an)=some (bd 4 n n::List.replicate (n - (i+1)) an):=by
    have:=iO (σ:=[(1,1),(2,2)]) (k:=s.zn+i) (c:=4) (n:=n) (m:=n) (o:=o)
    simp only[aS,this,cQ (pM _)]
   simp only[aD,nF q1 q2]
  have nx: ∀l,Foφ s.l n i l->au (fun t:Nat × T aa=>t.1<=n/\CS s.zn n s.l s.z t.1 t.2) (fun t=>BL n t.1) (fun t=>[(1,Gn s.l),(2,uW (gN s.zn n t.1) n)]) 3 (fun t=>t.2) (fun t=>s.zn+t.1) (fun t=>n - t.1) (Al.R (VD n s.l.length (fo 0 s.l) (gN s.zn n 0) s.z s.zn (fun r=> ∃zz,CS s.zn n s.l s.z n zz/\r=⟨gN s.zn n n,zz,s.zn+n⟩)).l) (i,zz) .normal (BL n (i+1)) [(1,Gn s.l),(2,uW (mX s.zn n i++tb (s.zn+i) n n::List.replicate (n - (i+1)) an) n)] 3 (gb zz [(s.zn+i,4, .az (aV.mk (xn (aY l)) (n*1) 1 3 true true 0 true))]) (s.zn+i+1):=fun l hl=>by
   refine⟨(i+1,zz.set (s.zn+i) (.az (DO l n))),rfl,by simp only[Kl],rfl,by simp only[gb,oS],by simp only;omega,⟨hi,?_⟩,by show n - (i+1)<n - i;omega⟩
   show CS s.zn n s.l s.z (i+1) (zz.set (s.zn+i) (.az (DO l n)))
   refine⟨?_,fun k hk=>?_,fun j hj=>?_⟩
   ·have:=dL hfr (k:=DO l n) (mF (·.len) l)
    exact this
   ·rw[T.aH,if_neg (by omega)];exact h2.gK k hk
   ·by_cases e:j=i
    ·subst e;exact⟨l,hl,by rw[T.aH,if_pos rfl]⟩
    ·obtain⟨l',k1,k2⟩:=h2.row j (by omega)
     exact⟨l',k1,by rw[T.aH,if_neg (by omega)];exact k2⟩
  refine t100 (al0 zz (s.zn+i) n i s.l.length (fo 0 s.l) (mX s.zn n i) (List.replicate (n - (i+1)) an) (gN s.zn n i) xn (Foφ s.l n i) (au _ _ _ _ _ _ _ _ _) ⟨fun _=>?_,nC1 hc⟩)
  (repeat' first|(with_reducible first|exact rfl|assumption|apply And.intro|exact hlen _ ‹_›|exact r1 _ _ _|exact r2 _|exact r3 _ _|exact zt _ _ _|exact jZ _ _|exact Nat.le_refl _|exact Nat.lt_succ_self _|exact bH (by omega))|exact Nat.le_succ _|intro hq)
  all_goals exact nx _ (by with_reducible assumption)
 ·have hie:i=n:=by omega
  subst hie
  have hc:decide ((i:Int)<(i:Int))=false:=by simp
  refine t100 (al0 zz (s.zn+i) i i s.l.length (fo 0 s.l) [] [] (gN s.zn i i) xn (fun _=>False) (au _ _ _ _ _ _ _ _ _) ⟨nC1 hc,fun _=>?_⟩)
  (repeat' first|(with_reducible first|exact rfl|assumption|apply And.intro|exact nD _ _ _ _ _))
  exact Ej (k:=fun _=>eU) ⟨gN s.zn i i,zz,s.zn+i⟩ ⟨zz,h2,rfl⟩ rfl
theorem Ww(hz:aw z zn)(n:Nat)(hn:n<=64)(E:List eO)(hE:HL n E):
 bb prog z zn 186 [iv n,bd 0 E.length E.length] [(0,o8 (bF E) E.length)] 1 2 (CQ z zn n (EE E)) (fun _=> .tuple ⟨[bd 1 n n,I 0]⟩) (fun s=>[(1,uW s.cs n)]) (fun s=>s.z) (fun s=>s.zn):=by
 have hck:=KX hz n hn E hE
 have hnb:=abw hz E hE.len
 have hal: ∀s,HH z zn E E.length s->_:=fun s hs=>NN n hn E hE s hs
 have hp:bJ (rep n [an])=true:=by rw[oE n [an] rfl];exact pM n
 have r0: ∀σ c,aD σ (aa.az (aV.mk (rep n [an]) c 1 128 true true 0 true))=some (aa.az (aV.mk (rep n [an]) c 1 128 true true 0 true)):=fun σ c=>cA hp
 have fin: ∀s,HH z zn E E.length s-> ∀r:ez,(∃zz,CS s.zn n s.l s.z n zz/\r=⟨gN s.zn n n,zz,s.zn+n⟩)->CQ z zn n (EE E) r:=fun s hs r ⟨zz,h,e⟩=>by
  subst e
  have hle:=hs.zn
  refine⟨h.bN,by show zn<=s.zn+n;omega,fun k hk=>(h.gK k (by omega)).trans (hs.gK k hk),s.zn,by omega,Nat.le_refl _,rfl,fun i hi=>?_⟩
  obtain⟨l,hl,hg⟩:=h.row i hi
  refine⟨l,hg,hl.1,fun j hj=>?_⟩
  rw[←Q9 hs];exact hl.2 j hj
 have rcs: ∀σ s,HH z zn E E.length s-> ∀r:ez,(∃zz,CS s.zn n s.l s.z n zz/\r=⟨gN s.zn n n,zz,s.zn+n⟩)-> ∀c,aD (ay σ []) (aa.az (aV.mk r.cs c 1 128 true true 0 true))=some (aa.az (aV.mk r.cs c 1 128 true true 0 true)):=fun σ s hs r ⟨zz,h,e⟩ c=>by
  subst e;exact nD _ _ _ _ _
 refine dV (c7 T.leaf) (fn:=f186) (by kernel_rfl) (by kernel_rfl) hz ⟨by decide,by decide⟩ (fun s hs=>⟨rfl,hs.le,hs.bN⟩) (N:=100) ?_
 refine al z zn n E.length (bF E) (rep n [an]) (HH z zn E E.length) (fun s r=> ∃zz,CS s.zn n s.l s.z n zz/\r=⟨gN s.zn n n,zz,s.zn+n⟩) _ ?_
 (repeat' first|(with_reducible first|exact rfl|assumption|apply And.intro|exact HH.bN ‹_›|exact CQ.bN (fin _ ‹_› _ ‹_›)|exact rcs _ _ ‹_› _ ‹_› _|exact r0 _ _|exact j0 _ _|exact zt _ _ _|exact g6 _ _ _|exact(by omega:n<=1048576))|exact hal _ (by with_reducible assumption)|intro hq)
 all_goals exact q2 _ (fin _ (by with_reducible assumption) _ hq) rfl rfl rfl rfl rfl
end
structure ot(n:Nat)(l:List ae):Prop where
 ok: ∀p∈l,0<=p.fz1/\p.fz1<n/\0<=p.aB/\p.aB<n/\p.fz1≠p.aB/\1<=p.aK/\p.aK<=14400
def fI(b:Bool)(p:ae):Bool:= !b||p.sf
structure LN(n:Nat)(l:List ae)(b:Bool)(j:Nat)(B:List gv):Prop where
 keys:(B.map fun x=>(x.1,x.2.1)).Nodup
 sub: ∀x∈B,∃p∈l.take j,fI b p=true/\p.fz1=x.1/\p.aB=x.2.1/\p.aK=x.2.2
 all: ∀p∈l.take j,fI b p=true-> ∃x∈B,x.1=p.fz1/\x.2.1=p.aB/\x.2.2<=p.aK
theorem qX(B:List gv)(f t:Int): ∀i j,(∃p x,aE prog 236 (.agg ⟨[zv f,zv t,F0]⟩) (gO j B) i=some (some (p,zv x.2.2))/\x∈B/\x.1=f/\x.2.1=t/\i<=p/\B[p - i]? =some x)\/(aE prog 236 (.agg ⟨[zv f,zv t,F0]⟩) (gO j B) i=some none/\ ∀x∈B,¬(x.1=f/\x.2.1=t)):=by
 induction B with
 |nil=>intro i j;exact .inr ⟨rfl,fun x hx=>by cases hx⟩
 |cons y l ih=>
  intro i j
  simp only[gO,aE,show aC (FN y)=true from rfl,Ke]
  by_cases h:f=y.1/\t=y.2.1
  ·obtain⟨h1,h2⟩:=h
   refine .inl ⟨i,y,by simp[h1,h2],List.mem_cons_self ..,h1.symm,h2.symm,Nat.le_refl _,by simp⟩
  ·have hd:(decide (f=y.1) && (decide (t=y.2.1) && (false==false)))=false:=by
    by_cases h1:f=y.1
    ·have h2: ¬t=y.2.1:=fun e=>h ⟨h1,e⟩
     simp[h2]
    ·simp[h1]
   rw[hd]
   rcases ih (i+1) (j+1) with ⟨p,x,q1,q2,q3,q4,q5,q6⟩|⟨q1,q2⟩
   ·refine .inl ⟨p,x,q1,List.mem_cons_of_mem _ q2,q3,q4,by omega,?_⟩
    rw[show p - i=(p - (i+1))+1 by omega,List.getElem?_cons_succ];exact q6
   ·refine .inr ⟨q1,fun x hx=>?_⟩
    rcases List.mem_cons.1 hx with rfl|hx
    ·exact fun⟨e1,e2⟩=>h ⟨e1.symm,e2.symm⟩
    ·exact q2 x hx
theorem Wy(B:List gv)(f t:Int):aE prog 236 (.agg ⟨[zv f,zv t,F0]⟩) (gO 0 B) 0≠none:=by
 rcases qX B f t 0 0 with ⟨p,x,q,_⟩|⟨q,_⟩<;>rw[q]<;>simp
theorem Wz(B:List gv)(f t:Int)(p:Nat × Value)(h:aE prog 236 (.agg ⟨[zv f,zv t,F0]⟩) (gO 0 B) 0=some (some p)): ∃x:Nat × Int,p=(x.1,zv x.2):=by
 rcases qX B f t 0 0 with ⟨q,x,e,_⟩|⟨e,_⟩
 ·rw[e] at h;cases h;exact⟨(q,x.2.2),rfl⟩
 ·rw[e] at h;cases h
theorem Ef{B:List gv}{f t:Int}{y:Nat × Int}(h:aE prog 236 (.agg ⟨[zv f,zv t,F0]⟩) (gO 0 B) 0=some (some (y.1,zv y.2))):B[y.1]? =some (f,t,y.2):=by
 rcases qX B f t 0 0 with ⟨q,x,e,h1,h2,h3,_,h5⟩|⟨e,_⟩
 ·rw[e] at h
  simp only[Option.some.injEq,Prod.mk.injEq,Value.int.injEq,true_and] at h
  rw[Nat.sub_zero] at h5
  rw[←h.1,h5,←h.2,←h2,←h3]
 ·rw[e] at h;cases h
theorem Cx: ∀(l:List gv)(i:Nat)(x:gv),gO i (l++[x])=gO i l++[{key:=FN x,val:=zv x.2.2,born:=i+l.length}]
 |[],i,x=>rfl
 |a::l,i,x=>by
  simp only[List.cons_append,gO,Cx l (i+1) x,List.length_cons]
  rw[show i+1+l.length=i+(l.length+1) by omega]
theorem Ak: ∀(l:List gv)(i j:Nat)(x y:gv),l[i]? =some y->dr i (FN x) (zv x.2.2) (gO j l)=gO j (l.set i x)
 |[],i,j,x,y,h=>by simp at h
 |a::l,0,j,x,y,h=>rfl
 |a::l,i+1,j,x,y,h=>by
  simp only[List.getElem?_cons_succ] at h
  simp only[gO,dr,List.set_cons_succ,Ak l i (j+1) x y h]
theorem FO: ∀(l:List gv)(i j:Nat)(x:gv),l[i]? =some x->nth (gO j l) i=some {key:=FN x,val:=zv x.2.2,born:=j+i}
 |[],i,j,x,h=>by simp at h
 |a::l,0,j,x,h=>by
  simp only[List.getElem?_cons_zero,Option.some.injEq] at h
  subst h;rfl
 |a::l,i+1,j,x,h=>by
  simp only[List.getElem?_cons_succ] at h
  simp only[gO,nth,FO l i (j+1) x h]
  rw[show j+1+i=j+(i+1) by omega]
theorem FP: ∀(l:List gv)(j:Nat),(gO j l).length=l.length
 |[],_=>rfl
 |a::l,j=>by simp[gO,FP l (j+1)]
theorem Am: ∀{l:List gv} {j:Nat} {e:MapEntry},e∈gO j l-> ∃i x,l[i]? =some x/\e={key:=FN x,val:=zv x.2.2,born:=j+i}
 |[],_,_,h=>by simp[gO] at h
 |a::l,j,e,h=>by
  rcases List.mem_cons.1 h with rfl|h
  ·exact⟨0,a,rfl,rfl⟩
  ·obtain⟨i,x,h1,h2⟩:=Am h
   exact⟨i+1,x,h1,by rw[h2,show j+1+i=j+(i+1) by omega]⟩
theorem SC{l:List gv}{j i:Nat}{x:gv}(h:l[i]? =some x):{key:=FN x,val:=zv x.2.2,born:=j+i}∈gO j l:=by
 induction l generalizing j i with
 |nil=>simp at h
 |cons a l ih=>
  cases i with
  |zero=>simp at h;subst h;exact List.mem_cons_self ..
  |succ i=>
   simp only[List.getElem?_cons_succ] at h
   have:=ih (j:=j+1) h
   rw[show j+1+i=j+(i+1) by omega] at this
   exact List.mem_cons_of_mem _ this
theorem tq: ∀{l:List gv} {j i:Nat} {x:gv},l[i]? =some x->fM (j+i) (gO j l)=some {key:=FN x,val:=zv x.2.2,born:=j+i}
 |[],j,i,x,h=>by simp at h
 |a::l,j,0,x,h=>by
  simp only[List.getElem?_cons_zero,Option.some.injEq] at h
  subst h
  have:Nat.beq j (j+0)=true:=Nat.beq_refl _
  simp only[gO,fM,this];rfl
 |a::l,j,i+1,x,h=>by
  simp only[List.getElem?_cons_succ] at h
  have:Nat.beq j (j+(i+1))=false:=by
   cases e:Nat.beq j (j+(i+1)) with
   |false=>rfl
   |true=>have:=Nat.eq_of_beq_eq_true e;omega
  have ih:=tq (j:=j+1) h
  rw[show j+1+i=j+(i+1) by omega] at ih
  simp only[gO,fM,this,ih]
theorem um{σ:Nat->Option Nat}: ∀{l:List gv} (j:Nat),g9 σ (gO j l)=some (gO j l)
 |[],_=>rfl
 |x::l,j=>by
  have h1:aP σ (FN x)=some (FN x):=rfl
  have h2:aP σ (zv x.2.2)=some (zv x.2.2):=rfl
  simp only[gO,g9,h1,h2,um (l:=l) (j+1)]
theorem zw{σ:Nat->Option Nat}(l:List gv)(c:Nat):aD σ (aa.map (gO 0 l) c)=some (aa.map (gO 0 l) c):=by
 simp only[aD,um 0]
theorem MQ{σ:Nat->Option Nat}(l:List gv)(i:Nat)(f t v:Int)(c:Nat):aD σ (aa.map (dr i (.agg ⟨[zv f,zv t,F0]⟩) (zv v) (gO 0 l)) c)=some (aa.map (dr i (.agg ⟨[zv f,zv t,F0]⟩) (zv v) (gO 0 l)) c):=by
 have:=pG (σ:=σ) (k:= .agg ⟨[zv f,zv t,F0]⟩) (k':= .agg ⟨[zv f,zv t,F0]⟩) (v:=zv v) (v':=zv v) rfl rfl i (um (l:=l) 0)
 simp only[aD,this]
theorem MR{σ:Nat->Option Nat}(l:List gv)(f t v:Int)(b c:Nat):aD σ (aa.map (gO 0 l++[MapEntry.mk (.agg ⟨[zv f,zv t,F0]⟩) (zv v) b]) c)=some (aa.map (gO 0 l++[MapEntry.mk (.agg ⟨[zv f,zv t,F0]⟩) (zv v) b]) c):=by
 have h1:aP σ (.agg ⟨[zv f,zv t,F0]⟩)=some (.agg ⟨[zv f,zv t,F0]⟩):=rfl
 have h2:aP σ (zv v)=some (zv v):=rfl
 have:=vi (um (σ:=σ) (l:=l) 0) (b:=[MapEntry.mk (.agg ⟨[zv f,zv t,F0]⟩) (zv v) b]) (b':=[MapEntry.mk (.agg ⟨[zv f,zv t,F0]⟩) (zv v) b]) (by simp only[g9,h1,h2])
 simp only[aD,this]
theorem NV{B:List gv}{i:Nat}{f t v:Int}(h:B[i]? =some (f,t,v)):yX (gO 0 B) i (.agg ⟨[zv f,zv t,F0]⟩):=by
 refine⟨_,FO B i 0 _ h,?_⟩
 show(aC (FN (f,t,v)) && Instr.sameBits 10000 (FN (f,t,v)) (.agg ⟨[zv f,zv t,F0]⟩))=true
 simp[aC,bJ,Instr.sameBits]
theorem FM{n:Nat}{l:List ae}{b:Bool}{j:Nat}{B:List gv}(h:LN n l b j B){x:ae}(hx:l[j]? =some x)(hs:fI b x=true-> ∃y∈B,y.1=x.fz1/\y.2.1=x.aB/\y.2.2<=x.aK):LN n l b (j+1) B:=by
 have htk:l.take (j+1)=l.take j++[x]:=by rw[List.take_add_one,hx];rfl
 refine⟨h.keys,fun y hy=>?_,fun p hp hu=>?_⟩
 ·obtain⟨p,q1,q2⟩:=h.sub y hy
  exact⟨p,by rw[htk];exact List.mem_append_left _ q1,q2⟩
 ·rw[htk] at hp
  rcases List.mem_append.1 hp with q|q
  ·exact h.all p q hu
  ·simp at q;subst q;exact hs hu
theorem SB{n:Nat}{l:List ae}{b:Bool}{j:Nat}{B:List gv}(h:LN n l b j B){x:ae}(hx:l[j]? =some x)(hu:fI b x=true)(hn: ∀y∈B,¬(y.1=x.fz1/\y.2.1=x.aB)):LN n l b (j+1) (B++[(x.fz1,x.aB,x.aK)]):=by
 have htk:l.take (j+1)=l.take j++[x]:=by rw[List.take_add_one,hx];rfl
 refine⟨?_,fun y hy=>?_,fun p hp hu'=>?_⟩
 ·rw[List.map_append,List.nodup_append]
  refine⟨h.keys,by simp,fun a ha c hc=>?_⟩
  simp only[List.map_cons,List.map_nil,List.mem_singleton] at hc
  subst hc
  obtain⟨y,y1,y2⟩:=List.mem_map.1 ha
  intro e
  rw[←y2] at e
  simp only[Prod.mk.injEq] at e
  exact hn y y1 e
 ·rcases List.mem_append.1 hy with q|q
  ·obtain⟨p,q1,q2⟩:=h.sub y q
   exact⟨p,by rw[htk];exact List.mem_append_left _ q1,q2⟩
  ·simp at q;subst q
   exact⟨x,by rw[htk];simp,hu,rfl,rfl,rfl⟩
 ·rw[htk] at hp
  rcases List.mem_append.1 hp with q|q
  ·obtain⟨y,y1,y2⟩:=h.all p q hu'
   exact⟨y,List.mem_append_left _ y1,y2⟩
  ·simp at q;subst q
   exact⟨_,List.mem_append_right _ (List.mem_singleton.2 rfl),rfl,rfl,Int.le_refl _⟩
theorem OP{n:Nat}{l:List ae}{b:Bool}{j:Nat}{B:List gv}(h:LN n l b j B){x:ae}(hx:l[j]? =some x)(hu:fI b x=true){i:Nat}{v:Int}(hi:B[i]? =some (x.fz1,x.aB,v))(hv:x.aK<v):LN n l b (j+1) (B.set i (x.fz1,x.aB,x.aK)):=by
 have htk:l.take (j+1)=l.take j++[x]:=by rw[List.take_add_one,hx];rfl
 have hil:i<B.length:=(List.getElem?_eq_some_iff.1 hi).1
 have pR:(x.fz1,x.aB,x.aK)∈B.set i (x.fz1,x.aB,x.aK):=List.mem_set hil _
 refine⟨?_,fun y hy=>?_,fun p hp hu'=>?_⟩
 ·have e:(B.set i (x.fz1,x.aB,x.aK)).map (fun x=>(x.1,x.2.1))=B.map fun x=>(x.1,x.2.1):=qL (fun x:gv=>(x.1,x.2.1)) hi rfl
  exact e ▸ h.keys
 ·rcases List.mem_or_eq_of_mem_set hy with q|rfl
  ·obtain⟨p,q1,q2⟩:=h.sub y q
   exact⟨p,by rw[htk];exact List.mem_append_left _ q1,q2⟩
  ·exact⟨x,by rw[htk];simp,hu,rfl,rfl,rfl⟩
 ·rw[htk] at hp
  rcases List.mem_append.1 hp with q|q
  ·obtain⟨y,y1,y2,y3,y4⟩:=h.all p q hu'
   obtain⟨k,hk⟩:=List.mem_iff_getElem?.1 y1
   by_cases e:i=k
   ·subst e
    rw[hi] at hk
    cases hk
    exact⟨_,pR,y2,y3,by simp only at y4 ⊢;omega⟩
   ·exact⟨y,List.mem_iff_getElem?.2 ⟨k,by rw[List.getElem?_set,if_neg e];exact hk⟩,y2,y3,y4⟩
  ·simp at q;subst q
   exact⟨_,pR,rfl,rfl,Int.le_refl _⟩
theorem La{n:Nat}(hn:n<=64){l:List ae}(hl:ot n l){b:Bool}{j:Nat}{B:List gv}(h:LN n l b j B):B.length<=4096:=by
 have hr: ∀x∈B,0<=x.1/\x.1<64/\0<=x.2.1/\x.2.1<64:=fun x hx=>by
  obtain⟨p,q1,_,q2,q3,_⟩:=h.sub x hx
  obtain⟨k1,k2,k3,k4,_⟩:=hl.ok p (List.mem_of_mem_take q1)
  omega
 have:(B.map fun x=>x.1.toNat*64+x.2.1.toNat).Nodup:=by
  have hk:=h.keys
  rw[List.nodup_iff_pairwise_ne] at hk ⊢
  rw[List.pairwise_map] at hk ⊢
  refine hk.imp_of_mem fun {x y} hx hy hxy e=>hxy ?_
  obtain⟨a1,a2,a3,a4⟩:=hr x hx
  obtain⟨b1,b2,b3,b4⟩:=hr y hy
  rw[Prod.mk.injEq]
  omega
 have:=qH 4096 _ this fun v hv=>by
  obtain⟨x,hx,rfl⟩:=List.mem_map.1 hv
  have:=hr x hx
  omega
 simpa using this
structure Uy(n:Nat)(l:List ae)(b:Bool)(E:List eO):Prop where
 ok:HL n E
 sub: ∀e∈E,∃p∈l,fI b p=true/\p.fz1=e.fz1/\p.aB=e.aB/\p.aK=e.wt
 all: ∀p∈l,fI b p=true-> ∃e∈E,e.fz1=p.fz1/\e.aB=p.aB/\e.wt<=p.aK
abbrev tS(x:gv):eO:=⟨x.1,x.2.1,x.2.2⟩
def tK(B:List gv)(E:List eO):Prop:=E.length=B.length/\ ∀e,e∈E↔ ∃x∈B,e=tS x
theorem Lb{n:Nat}(hn:n<=64){l:List ae}(hl:ot n l){b:Bool}{B:List gv}(h:LN n l b l.length B){E:List eO}(hE:tK B E):Uy n l b E:=by
 have htk:l.take l.length=l:=List.take_of_length_le (Nat.le_refl _)
 have h1:=h.sub
 have h2:=h.all
 rw[htk] at h1 h2
 have sub: ∀e∈E,∃p∈l,fI b p=true/\p.fz1=e.fz1/\p.aB=e.aB/\p.aK=e.wt:=fun e he=>by
  obtain⟨x,hx,rfl⟩:=(hE.2 e).1 he
  exact h1 x hx
 refine⟨⟨by rw[hE.1];exact La hn hl h,fun e he=>?_⟩,sub,fun p hp hu=>?_⟩
 ·obtain⟨p,q1,_,q2,q3,q4⟩:=sub e he
  obtain⟨k1,k2,k3,k4,_,k6,k7⟩:=hl.ok p q1
  omega
 ·obtain⟨x,x1,x2⟩:=h2 p hp hu
  exact⟨_,(hE.2 _).2 ⟨x,x1,rfl⟩,x2⟩
noncomputable def n8(b:Bool)(B:List gv)(x:ae):List gv:=if fI b x=true then (match aE prog 236 (.agg ⟨[zv x.fz1,zv x.aB,F0]⟩) (gO 0 B) 0 with
 |some (some (i, .int .i64 u))=>if x.aK<u then B.set i (x.fz1,x.aB,x.aK) else B
 |_=>B++[(x.fz1,x.aB,x.aK)]) else B
noncomputable def mO(b:Bool)(l:List ae)(j:Nat):List gv:=(l.take j).foldl (n8 b) []
theorem Cy{b:Bool}{l:List ae}{j:Nat}{x:ae}(hx:l[j]? =some x):mO b l (j+1)=n8 b (mO b l j) x:=by
 unfold mO
 rw[List.take_add_one,hx,List.foldl_append];rfl
theorem tC{b:Bool}{B:List gv}{x:ae}(h:fI b x=false):n8 b B x=B:=by
 unfold n8;rw[h];simp
theorem p9{b:Bool}{B:List gv}{x:ae}(h:fI b x=true){i:Nat}{v:Int}(hf:aE prog 236 (.agg ⟨[zv x.fz1,zv x.aB,F0]⟩) (gO 0 B) 0=some (some (i,zv v))):n8 b B x=if x.aK<v then B.set i (x.fz1,x.aB,x.aK) else B:=by
 unfold n8;rw[if_pos h,hf]
theorem wC{b:Bool}{B:List gv}{x:ae}(h:fI b x=true)(hf:aE prog 236 (.agg ⟨[zv x.fz1,zv x.aB,F0]⟩) (gO 0 B) 0=some none):n8 b B x=B++[(x.fz1,x.aB,x.aK)]:=by
 unfold n8;rw[if_pos h,hf]
theorem yO(B:List gv)(f t v:Int):gO 0 B++[MapEntry.mk (.agg ⟨[zv f,zv t,F0]⟩) (zv v) B.length]=gO 0 (B++[(f,t,v)]):=by
 rw[Cx,Nat.zero_add]
section
variable{z:T aa}{zn:Nat}
theorem JH(hz:aw z zn)(n:Nat)(hn:n<=64)(l:List ae)(hl:ot n l)(hll:l.length<=10000)(cp:Nat)(hL:bP z 4 (l.map ae.row))(b:Bool):
 LN n l b l.length (mO b l l.length)/\aj prog (ah (ag f150) 0) 1 81 (BI l.length cp n b 0) [(0, .map [] 0)] 1 z zn (Al.R (Vw z zn l.length cp n b (mO b l l.length)).l):=by
 have inv: ∀j,j<=l.length->LN n l b j (mO b l j):=by
  intro j
  induction j with
  |zero=>intro _;exact⟨by simp[mO],fun x hx=>(by simp[mO] at hx),fun p hp=>(by simp at hp)⟩
  |succ j ih=>
   intro hj
   obtain⟨x,hx⟩:=dm (by omega:j<l.length)
   have h:=ih (by omega)
   rw[Cy hx]
   cases hu:fI b x with
   |false=>rw[tC hu];exact FM h hx fun q=>by rw[hu] at q;cases q
   |true=>
    rcases qX (mO b l j) x.fz1 x.aB 0 0 with ⟨p,y,q1,q2,q3,q4,_,q6⟩|⟨q1,q2⟩
    ·rw[p9 hu q1]
     rw[Nat.sub_zero] at q6
     split
     ·rename_i hlt
      exact OP h hx hu (i:=p) (v:=y.2.2) (by rw[q6,←q3,←q4]) hlt
     ·rename_i hlt
      exact FM h hx fun _=>⟨y,q2,q3,q4,by omega⟩
    ·rw[wC hu q1];exact SB h hx hu q2
 refine⟨inv _ (Nat.le_refl _),?_⟩
 refine ax hD (c7 T.leaf) (α:=Nat) 1 81 1 (fun j=>j<=l.length) (fun j=>BI l.length cp n b j) (fun j=>[(0,WA (mO b l j))]) (fun _=>z) (fun _=>zn) (fun j=>l.length - j) _ (fun j hI=>?_) 0 (Nat.zero_le _)
 by_cases hj:j<l.length
 ·obtain⟨x,hx⟩:=dm hj
  obtain⟨el,hel⟩:=hL.az (i:=j) (by simp;omega)
  have hrow:ai prog (bk el (l.map ae.row).flatten) 125 (0+j*4)=some (.agg ⟨x.row⟩):=bG (r:=x.row) (sz:=4) underlying125 rfl rfl (aO (row:=ae.row) (sz:=4) l fun _=>rfl) (by rw[List.getElem?_map,hx];rfl)
  have hc:decide ((j:Int)<(l.length:Int))=true:=by simp;omega
  have nx: ∀B',B'=mO b l (j+1)-> ∀es c,es=gO 0 B'->c=B'.length->au (fun j=>j<=l.length) (fun j=>BI l.length cp n b j) (fun j=>[(0,WA (mO b l j))]) 1 (fun _=>z) (fun _=>zn) (fun j=>l.length - j) (Al.R (Vw z zn l.length cp n b (mO b l l.length)).l) j .normal (BI l.length cp n b (j+1)) [(0, .map es c)] 1 z zn:=fun B' h es c h1 h2=>by
   subst h h1 h2
   exact⟨j+1,rfl,rfl,rfl,rfl,rfl,hj,by show l.length - (j+1)<l.length - j;omega⟩
  have hsucc:=Cy (b:=b) hx
  have skip:fI b x=false->mO b l j=mO b l (j+1):=fun h=>by rw[hsucc,tC h]
  have less:fI b x=true-> ∀y:Nat × Int,aE prog 236 (.agg ⟨[zv x.fz1,zv x.aB,F0]⟩) (gO 0 (mO b l j)) 0=some (some (y.1,zv y.2))->decide (x.aK<y.2)=true->(mO b l j).set y.1 (x.fz1,x.aB,x.aK)=mO b l (j+1):=fun h y hy hlt=>by rw[hsucc,p9 h hy,if_pos (by simpa using hlt)]
  have more:fI b x=true-> ∀y:Nat × Int,aE prog 236 (.agg ⟨[zv x.fz1,zv x.aB,F0]⟩) (gO 0 (mO b l j)) 0=some (some (y.1,zv y.2))->decide (x.aK<y.2)=false->mO b l j=mO b l (j+1):=fun h y hy hlt=>by rw[hsucc,p9 h hy,if_neg (by simpa using hlt)]
  have new:fI b x=true->aE prog 236 (.agg ⟨[zv x.fz1,zv x.aB,F0]⟩) (gO 0 (mO b l j)) 0=some none->mO b l j++[(x.fz1,x.aB,x.aK)]=mO b l (j+1):=fun h hy=>by rw[hsucc,wC h hy]
  have u1:b=true->x.sf=true->fI b x=true:=fun h1 h2=>by simp[fI,h2]
  have u2:b=false->fI b x=true:=fun h1=>by simp[fI,h1]
  have u3:b=true->x.sf=false->fI b x=false:=fun h1 h2=>by simp[fI,h1,h2]
  refine t100 (ds0 z zn l.length cp n j (mO b l j).length b (bk el (l.map ae.row).flatten) x (gO 0 (mO b l j)) (au _ _ _ _ _ _ _ _ _) ⟨fun _=>?_,nC1 hc⟩)
  (repeat' first|(with_reducible first|exact rfl|assumption|apply And.intro|exact Wy _ _ _|exact Wz _ _ _|exact NV (Ef ‹_›)|exact zw _ _|exact MQ _ _ _ _ _ _|exact MR _ _ _ _ _ _|exact bH (by omega))|intro hq)
  all_goals first
   |(rename_i h1 h2 y hy
     exact nx _ (less (u1 h1 h2) y hy hq) _ _ (Ak _ y.1 0 (x.fz1,x.aB,x.aK) _ (Ef hy)) (List.length_set ..).symm)
   |(rename_i h1 h2 y hy
     exact nx _ (more (u1 h1 h2) y hy hq) _ _ rfl rfl)
   |(rename_i h1 y hy
     exact nx _ (less (u2 h1) y hy hq) _ _ (Ak _ y.1 0 (x.fz1,x.aB,x.aK) _ (Ef hy)) (List.length_set ..).symm)
   |(rename_i h1 y hy
     exact nx _ (more (u2 h1) y hy hq) _ _ rfl rfl)
   |(rename_i h1 h2
     exact nx _ (new (u1 h1 h2) hq) _ _ (yO _ _ _ _) (by simp))
   |(rename_i h1
     exact nx _ (new (u2 h1) hq) _ _ (yO _ _ _ _) (by simp))
   |(rename_i h1
     exact nx _ (skip (u3 h1 hq)) _ _ rfl rfl)
 ·have hc:decide ((j:Int)<(l.length:Int))=false:=by simp;omega
  refine t100 (ds0 z zn l.length cp n j (mO b l j).length b ⟨[],0,0,0,true,true,0,true⟩ ⟨0,0,0,true⟩ (gO 0 (mO b l j)) (au _ _ _ _ _ _ _ _ _) ⟨nC1 hc,fun _=>?_⟩)
  (repeat' first|(with_reducible first|exact rfl|assumption|apply And.intro|exact zw _ _))
  have:j=l.length:=by omega
  subst this
  exact bh trivial
theorem VT(E F:List eO):bF E++bF F=bF (E++F):=by
 show _=((E++F).map eO.row).flatten
 rw[List.map_append,List.flatten_append]
theorem xM: ∀{l:List Nat},l.Nodup-> ∀{l':List Nat},(∀i∈l,i∈l')->l.length<=l'.length
 |[],_,_,_=>Nat.zero_le _
 |a::l,hn,l',h=>by
  have hn':=List.nodup_cons.1 hn
  have:=xM hn'.2 (l':=l'.erase a) fun i hi=>by
   have hne:i≠a:=fun e=>hn'.1 (e ▸ hi)
   exact(List.mem_erase_of_ne hne).2 (h i (List.mem_cons_of_mem _ hi))
  rw[List.length_erase_of_mem (h a (List.mem_cons_self ..))] at this
  have hp:0<l'.length:=List.length_pos_of_mem (h a (List.mem_cons_self ..))
  simp only[List.length_cons]
  omega
structure Ux(B:List gv)(E:List eO)(seen:List Nat):Prop where
 nd:seen.Nodup
 lt: ∀i∈seen,i<B.length
 len:E.length=seen.length
 mem: ∀e,e∈E↔ ∃i∈seen,∃x,B[i]? =some x/\e=tS x
theorem B4{B:List gv}{E:List eO}{seen:List Nat}(h:Ux B E seen){i:Nat}{x:gv}(hi:B[i]? =some x)(hn:i ∉ seen):Ux B (E++[tS x]) (i::seen):=by
 refine⟨List.nodup_cons.2 ⟨hn,h.nd⟩,fun j hj=>?_,by simp[h.len],fun e=>?_⟩
 ·rcases List.mem_cons.1 hj with rfl|hj
  ·exact(List.getElem?_eq_some_iff.1 hi).1
  ·exact h.lt j hj
 ·rw[List.mem_append,h.mem]
  constructor
  ·rintro (⟨j,j1,j2⟩|he)
   ·exact⟨j,List.mem_cons_of_mem _ j1,j2⟩
   ·simp at he;exact⟨i,List.mem_cons_self ..,x,hi,he⟩
  ·rintro⟨j,j1,y,j2,j3⟩
   rcases List.mem_cons.1 j1 with rfl|j1
   ·rw[hi] at j2;cases j2;right;simp[j3]
   ·exact .inl ⟨j,j1,y,j2,j3⟩
theorem DN{B:List gv}{E:List eO}{seen:List Nat}(h:Ux B E seen):seen.length<=B.length:=qH _ _ h.nd h.lt
theorem NW{B:List gv}{E:List eO}{seen:List Nat}(h:Ux B E seen)(ha: ∀i,i<B.length->i∈seen):tK B E:=by
 have h1:=DN h
 have h2:B.length<=seen.length:=by
  have:=xM (List.nodup_range (n:=B.length)) (l':=seen) fun i hi=>ha i (List.mem_range.1 hi)
  simpa using this
 refine⟨by rw[h.len];omega,fun e=>(h.mem e).trans ⟨fun⟨i,i1,x,i2,i3⟩=>⟨x,List.mem_of_getElem? i2,i3⟩,fun⟨x,x1,x2⟩=>?_⟩⟩
 obtain⟨i,hi⟩:=List.mem_iff_getElem?.1 x1
 exact⟨i,ha i (List.getElem?_eq_some_iff.1 hi).1,x,hi,x2⟩
theorem BU(hz:aw z zn)(n:Nat)(B:List gv)(hB:B.length<=4096):
 aj prog (ah (ag f150) 1) 3 81 (xj n 0 B.length) (w8 B.length B.length (gO 0 B) (rep B.length [I 0,I 0,I 0]) []) 3 z zn (Al.R (Vu z zn n B.length B.length (gO 0 B) (rep B.length [I 0,I 0,I 0]) (tK B)).l):=by
 refine ax hD (c7 T.leaf) (α:=List eO × List Nat) 3 81 3 (fun t=>Ux B t.1 t.2) (fun t=>xj n t.2.length B.length) (fun t=>w8 B.length B.length (gO 0 B) (bF t.1++rep (B.length - t.2.length) [I 0,I 0,I 0]) t.2) (fun _=>z) (fun _=>zn) (fun t=>B.length - t.2.length) _ (fun t hI=>?_) ([],[]) ⟨by simp,by simp,rfl,by simp⟩
 obtain⟨E,seen⟩:=t
 simp only at hI ⊢
 have hle:=DN hI
 have cells: ∀E' m,bF E'++rep m [I 0,I 0,I 0]=bF (E'++List.replicate m (⟨0,0,0⟩:eO)):=fun E' m=>by
  rw[←VT,nB]
  congr 1
  show _=((List.replicate m (⟨0,0,0⟩:eO)).map eO.row).flatten
  rw[List.map_replicate];rfl
 have p0: ∀x∈gO 0 B,x.born<B.length:=fun e he=>by
  obtain⟨i,x,h1,h2⟩:=Am he
  rw[h2];have:=(List.getElem?_eq_some_iff.1 h1).1;simp only;omega
 have p1: ∀e,e∈gO 0 B->lT e.born seen=false-> ∃x:Nat × gv,(B[x.1]? =some x.2/\x.1 ∉ seen)/\e=Xj x:=fun e he hs=>by
  obtain⟨i,x,h1,h2⟩:=Am he
  rw[h2] at hs
  simp only[Nat.zero_add] at hs
  refine⟨(i,x),⟨h1,fun hm=>?_⟩,by rw[h2,Nat.zero_add]⟩
  rw[jU.2 hm] at hs;cases hs
 have lt: ∀x:Nat × gv,(B[x.1]? =some x.2/\x.1 ∉ seen)->seen.length+1<=B.length:=fun x hx=>by
  have:=DN (B4 hI hx.1 hx.2)
  simpa using this
 have bn: ∀x:Nat × gv,(B[x.1]? =some x.2/\x.1 ∉ seen)->fM x.1 (gO 0 B)=some (Xj x):=fun x hx=>by
  have:=tq (j:=0) hx.1
  rw[Nat.zero_add] at this
  exact this
 have ov: ∀x:Nat × gv,(B[x.1]? =some x.2/\x.1 ∉ seen)->overwrite (bF E++rep (B.length - seen.length) [I 0,I 0,I 0]) (0+seen.length*3) (tS x.2).row=some (bF (E++[tS x.2])++rep (B.length - (seen.length+1)) [I 0,I 0,I 0]):=fun x hx=>by
  have hlt:=lt x hx
  rw[cells,cells]
  have:=vy (qy (E++List.replicate (B.length - seen.length) (⟨0,0,0⟩:eO))) (i:=seen.length) (by simp[hI.len];omega) (r':=(tS x.2).row) rfl
  rw[jH] at this
  refine this.trans ?_
  have:(E++List.replicate (B.length - seen.length) (⟨0,0,0⟩:eO)).set seen.length (tS x.2)=E++[tS x.2]++List.replicate (B.length - (seen.length+1)) (⟨0,0,0⟩:eO):=by
   rw[List.set_append_right _ _ (by rw[hI.len];exact Nat.le_refl _),hI.len,Nat.sub_self]
   obtain⟨m,hm⟩: ∃m,B.length - seen.length=m+1:=⟨B.length - seen.length - 1,by omega⟩
   rw[hm,show B.length - (seen.length+1)=m by omega,List.replicate_succ,List.set_cons_zero,List.append_assoc];rfl
  rw[this]
 have le3: ∀x:Nat × gv,(B[x.1]? =some x.2/\x.1 ∉ seen)->(bF (E++[tS x.2])++rep (B.length - (seen.length+1)) [I 0,I 0,I 0]).length<=B.length*3:=fun x hx=>by
  have hlt:=lt x hx
  rw[cells,xE];simp[hI.len];omega
 have rn: ∀(σ:Nat->Option Nat) E' m c,aD σ (aa.az (aV.mk (bF E'++rep m [I 0,I 0,I 0]) c 3 272 true true 0 true))=some (aa.az (aV.mk (bF E'++rep m [I 0,I 0,I 0]) c 3 272 true true 0 true)):=fun σ E' m c=>by
  rw[cells];exact cA (gG _)
 have mit: ∀s,aD (ay [(0,0),(1,1),(2,2)] []) (aa.dK (some 0) B.length s B.length)=some (aa.dK (some 0) B.length s B.length):=fun s=>rfl
 have nx: ∀x:Nat × gv,(B[x.1]? =some x.2/\x.1 ∉ seen)->au (fun t:List eO × List Nat=>Ux B t.1 t.2) (fun t=>xj n t.2.length B.length) (fun t=>w8 B.length B.length (gO 0 B) (bF t.1++rep (B.length - t.2.length) [I 0,I 0,I 0]) t.2) 3 (fun _=>z) (fun _=>zn) (fun t=>B.length - t.2.length) (Al.R (Vu z zn n B.length B.length (gO 0 B) (rep B.length [I 0,I 0,I 0]) (tK B)).l) (E,seen) .normal (xj n (seen.length+1) B.length) (w8 B.length B.length (gO 0 B) (bF (E++[tS x.2])++rep (B.length - (seen.length+1)) [I 0,I 0,I 0]) (x.1::seen)) 3 z zn:=fun x hx=>
  ⟨(E++[tS x.2],x.1::seen),rfl,rfl,rfl,rfl,rfl,B4 hI hx.1 hx.2,by have:=lt x hx;show B.length - (seen.length+1)<B.length - seen.length;omega⟩
 refine t100 (ds1 z zn n seen.length B.length B.length (gO 0 B) (bF E++rep (B.length - seen.length) [I 0,I 0,I 0]) (fun x=>bF (E++[tS x.2])++rep (B.length - (seen.length+1)) [I 0,I 0,I 0]) seen (fun x=>B[x.1]? =some x.2/\x.1 ∉ seen) (au _ _ _ _ _ _ _ _ _) ?_)
 (repeat' first|(with_reducible first|exact rfl|assumption|apply And.intro|exact bn _ ‹_›|exact lt _ ‹_›|exact ov _ ‹_›|exact le3 _ ‹_›|exact rn _ _ _ _|exact zw _ _|exact Nat.le_refl _)|exact nx _ (by with_reducible assumption)|intro hq)
 have hall: ∀i,i<B.length->i∈seen:=fun i hi=>by
  obtain⟨x,hx⟩:=dm hi
  have:=hq _ (SC (j:=0) hx)
  simp only[Nat.zero_add] at this
  exact jU.1 this
 have hE:=NW hI hall
 have hsl:seen.length=B.length:=by rw[←hI.len];exact hE.1
 rw[hsl,Nat.sub_self,show rep 0 [I 0,I 0,I 0]=[] from rfl,List.append_nil]
 exact Ej (k:=fun _=>eU) E hE rfl
theorem D8{P:Program}{f:Nat}{args:List Value}{aU:bV}{nx ff:Nat}{α:Type}{φ ψ:α->Prop}{v:α->Value}{zo:α->bV}{zz:α->T aa}{zn':α->Nat}(h:bb P z zn f args aU nx ff φ v zo zz zn')(hi: ∀x,φ x->ψ x)(hb: ∀x,ψ x->wV zn (zo x) (zz x) (zn' x)):bb P z zn f args aU nx ff ψ v zo zz zn':=
 ⟨h.1,h.2.1,h.2.2.1,hb,fun ρ w args' n h1 h2 h3 h4=>(h.2.2.2.2 ρ w args' n h1 h2 h3 h4).mono fun e w' ⟨x,hx,hg⟩=>⟨x,hi x hx,hg⟩⟩
def dW(z:T aa)(zn n:Nat)(l:List ae)(b:Bool)(s:ez):Prop:= ∃E,Uy n l b E/\CQ z zn n (EE E) s
theorem K0(hz:aw z zn)(n:Nat)(hn:n<=64)(l:List ae)(b:Bool)(E:List eO)(m:Nat)(hm:m=E.length)(hE:Uy n l b E):
 bb prog z zn 186 [iv n,bd 0 m m] [(0,o8 (bF E) m)] 1 2 (dW z zn n l b) (fun _=> .tuple ⟨[bd 1 n n,I 0]⟩) (fun s=>[(1,uW s.cs n)]) (fun s=>s.z) (fun s=>s.zn):=by
 subst hm
 refine D8 (Ww hz n hn E hE.ok) (fun s hs=>⟨E,hE,hs⟩) fun s ⟨E,_,hs⟩=>⟨ur rfl,hs.le,hs.bN⟩
theorem KV(hz:aw z zn)(n:Nat)(hn:n<=64)(l:List ae)(hl:ot n l)(hll:l.length<=10000)(cp:Nat)(hL:bP z 4 (l.map ae.row))(b:Bool):
 bb prog z zn 150 [tb 4 l.length cp,iv n, .bool b] [] 0 1 (dW z zn n l b) (fun _=>bd 0 n n) (fun s=>[(0,uW s.cs n)]) (fun s=>s.z) (fun s=>s.zn):=by
 obtain⟨hB,h0⟩:=JH hz n hn l hl hll cp hL b
 have hBl:=La hn hl hB
 have h1:=BU hz n (mO b l l.length) hBl
 have hall: ∀E,tK (mO b l l.length) E->bb prog z zn 186 [iv n,bd 0 (mO b l l.length).length (mO b l l.length).length] [(0,o8 (bF E) (mO b l l.length).length)] 1 2 (dW z zn n l b) (fun _=> .tuple ⟨[bd 1 n n,I 0]⟩) (fun s=>[(1,uW s.cs n)]) (fun s=>s.z) (fun s=>s.zn):=
  fun E hE=>K0 hz n hn l b E _ hE.1.symm (Lb hn hl hB hE)
 have hlen:((gO 0 (mO b l l.length)).length:Int)=((mO b l l.length).length:Int):=by rw[FP]
 have rcs: ∀σ s,dW z zn n l b s-> ∀c,aD (ay σ []) (aa.az (aV.mk s.cs c 1 128 true true 0 true))=some (aa.az (aV.mk s.cs c 1 128 true true 0 true)):=fun σ s ⟨E,_,h⟩ c=>by
  obtain⟨b,_,_,h,_⟩:=h.row
  rw[h];exact nD _ _ _ _ _
 have rcs': ∀σ s,dW z zn n l b s-> ∀c,aD (sig σ) (aa.az (aV.mk s.cs c 1 128 true true 0 true))=some (aa.az (aV.mk s.cs c 1 128 true true 0 true)):=rcs
 have bN: ∀s,dW z zn n l b s->aw s.2 s.zn:=fun s ⟨E,_,h⟩=>h.bN
 have r0: ∀σ m c,aD σ (aa.az (aV.mk (rep m [I 0,I 0,I 0]) c 3 272 true true 0 true))=some (aa.az (aV.mk (rep m [I 0,I 0,I 0]) c 3 272 true true 0 true)):=fun σ m c=>cA (by
  have e:rep m [I 0,I 0,I 0]=bF (List.replicate m (⟨0,0,0⟩:eO)):=by
   rw[nB]
   show _=((List.replicate m (⟨0,0,0⟩:eO)).map eO.row).flatten
   rw[List.map_replicate];rfl
  rw[e];exact gG _)
 refine dV (c7 T.leaf) (fn:=f150) (by kernel_rfl) (by kernel_rfl) hz ⟨by decide,by decide⟩ (fun s ⟨E,_,hs⟩=>⟨rfl,hs.le,hs.bN⟩) (N:=100) ?_
 refine ds z zn n l.length cp b (mO b l l.length) (rep (mO b l l.length).length [I 0,I 0,I 0]) (tK (mO b l l.length)) (dW z zn n l b) _ ?_
 (repeat' first|(with_reducible first|exact rfl|assumption|apply And.intro|exact hall _ ‹_›|exact bN _ ‹_›|exact rcs _ _ ‹_› _|exact rcs' _ _ ‹_› _|exact r0 _ _ _|exact zw _ _|exact j0 _ _|exact Nat.zero_le _|exact(by omega:(mO b l l.length).length<=1048576))|exact(rfl:Int.ofNat _=_)|exact h0|exact h1|intro hq)
 all_goals exact q2 _ hq rfl rfl rfl rfl rfl
theorem OQ(n:Nat)(b:Bool):LN n [] b 0 []:=⟨by simp,fun x hx=>by simp at hx,fun p hp=>by simp at hp⟩
theorem GH(hz:aw z zn)(n:Nat)(b:Bool):
 aj prog (ah (ag f150) 0) 1 81 (ya n b) [(0, .map [] 0)] 1 z zn (Al.R (Vv z zn n b).l):=by
 refine ax hD (c7 T.leaf) (α:=Unit) 1 81 1 (fun _=>True) (fun _=>ya n b) (fun _=>[(0, .map [] 0)]) (fun _=>z) (fun _=>zn) (fun _=>0) _ (fun _ _=>?_) () trivial
 refine t100 (abr z zn n b (au _ _ _ _ _ _ _ _ _) ?_)
 (repeat' first|(with_reducible first|exact rfl|assumption|apply And.intro))
 exact bh trivial
theorem FI(hz:aw z zn)(n:Nat)(hn:n<=64)(b:Bool):
 bb prog z zn 150 [an,iv n, .bool b] [] 0 1 (dW z zn n [] b) (fun _=>bd 0 n n) (fun s=>[(0,uW s.cs n)]) (fun s=>s.z) (fun s=>s.zn):=by
 have hl:ot n []:=⟨fun p hp=>by simp at hp⟩
 have h0:=GH hz n b
 have h1:=BU hz n [] (by simp)
 have hall: ∀E,tK [] E->bb prog z zn 186 [iv n,bd 0 0 0] [(0, .az (aV.mk (bF E) 0 3 272 true true 0 true))] 1 2 (dW z zn n [] b) (fun _=> .tuple ⟨[bd 1 n n,I 0]⟩) (fun s=>[(1,uW s.cs n)]) (fun s=>s.z) (fun s=>s.zn):=
  fun E hE=>K0 hz n hn [] b E 0 hE.1.symm (Lb hn hl (OQ n b) hE)
 have rcs: ∀σ s,dW z zn n [] b s-> ∀c,aD (ay σ []) (aa.az (aV.mk s.cs c 1 128 true true 0 true))=some (aa.az (aV.mk s.cs c 1 128 true true 0 true)):=fun σ s ⟨E,_,h⟩ c=>by
  obtain⟨b,_,_,h,_⟩:=h.row
  rw[h];exact nD _ _ _ _ _
 have rcs': ∀σ s,dW z zn n [] b s-> ∀c,aD (sig σ) (aa.az (aV.mk s.cs c 1 128 true true 0 true))=some (aa.az (aV.mk s.cs c 1 128 true true 0 true)):=rcs
 have bN: ∀s,dW z zn n [] b s->aw s.2 s.zn:=fun s ⟨E,_,h⟩=>h.bN
 refine dV (c7 T.leaf) (fn:=f150) (by kernel_rfl) (by kernel_rfl) hz ⟨by decide,by decide⟩ (fun s ⟨E,_,hs⟩=>⟨rfl,hs.le,hs.bN⟩) (N:=100) ?_
 refine dsz z zn n b (tK []) (dW z zn n [] b) _ ?_
 (repeat' first|(with_reducible first|exact rfl|assumption|apply And.intro|exact hall _ ‹_›|exact bN _ ‹_›|exact rcs _ _ ‹_› _|exact rcs' _ _ ‹_› _|exact j0 _ _)|exact h0|exact h1|intro hq)
 all_goals exact q2 _ hq rfl rfl rfl rfl rfl
end
structure mW(z0:T aa)(n0:Nat)(L:List ae)(s:da):Prop where
 bN:aw s.z s.zn
 le:n0<=s.zn
 gK: ∀k,k<n0->s.z.get k=z0.get k
 val:(L=[]/\s.oa=none/\s.k=0)\/(L≠[]/\ ∃kk,n0<=kk/\kk<s.zn/\s.oa=some ⟨256*kk+510,0,none⟩/\s.k=L.length/\s.z.get kk=some (RF (L.map ae.row).flatten L.length))
def jl(L:List ae)(a b d:Int)(f:Bool):List ae:=if 0<d/\d<=14400 then L++[⟨a,b,d,f⟩] else L
theorem j8(L:List ae):bJ (L.map ae.row).flatten=true:=j7 (row:=ae.row) (fun _=>rfl) L
theorem Dn(L:List ae):(L.map ae.row).flatten.length=L.length*4:=by
 have:=kh (sz:=4) (rows:=L.map ae.row) (aO (row:=ae.row) (sz:=4) L fun _=>rfl)
 simpa using this
theorem kQ(L:List ae)(x:ae):(L.map ae.row).flatten++x.row=((L++[x]).map ae.row).flatten:=by
 rw[List.map_append,List.flatten_append];simp
theorem uD(L:List ae)(a b d:Int)(f:Bool):(jl L a b d f).length<=L.length+1:=by
 unfold jl;split<;>simp
theorem EN{σ:bq}{k c n m:Nat}{o:aa}:aD (ay σ [(k,c,o)]) (oB (tb k n m))=some (oB (bd c n m)):=by
 have:=iO (σ:=σ) (k:=k) (c:=c) (n:=n) (m:=m) (o:=o)
 simp only[aD,aS,this]
 rfl
theorem Dg{σ:Nat->Option Nat}(L:List ae)(x:ae)(c:Nat):aD σ (.az (aV.mk ((L.map ae.row).flatten++x.row) c 4 125 false false 0 true))=some (.az (aV.mk ((L.map ae.row).flatten++x.row) c 4 125 false false 0 true)):=cA (by
 rw[kQ];exact j8 _)
section
variable{z:T aa}{zn:Nat}
theorem Pz(z0:T aa)(n0:Nat)(L:List ae)(hL:L.length<100000)(s:da)(hs:mW z0 n0 L s)(a b d:Int)(f:Bool):
 bb prog s.z s.zn 151 [zv a,zv b,zv d, .bool f,ip 0] [(0,oB s.v)] 1 1 (fun s'=>mW z0 n0 (jl L a b d f) s'/\s.zn<=s'.zn) (fun _=> .tuple ⟨[]⟩) (fun s=>[(0,oB s.v)]) (fun s=>s.z) (fun s=>s.zn):=by
 obtain⟨oa,r,z,zn⟩:=s
 have hz:aw z zn:=hs.bN
 have hold:=hs.gK
 have hle:=hs.le
 simp only at hold hle
 have hin: ∀d,(decide (d>0)=true->decide (d<=14400)=true->0<d/\d<=(14400:Int)):=fun d h1 h2=>by simp at h1 h2;omega
 have no1:decide (d>0)=false->jl L a b d f=L:=fun h=>by
  unfold jl;rw[if_neg];simp at h;omega
 have no2:decide (d<=14400)=false->jl L a b d f=L:=fun h=>by
  unfold jl;rw[if_neg];simp at h;omega
 have yes:decide (d>0)=true->decide (d<=14400)=true->jl L a b d f=L++[⟨a,b,d,f⟩]:=fun h1 h2=>by
  unfold jl;rw[if_pos (hin d h1 h2)]
 refine dV (c7 T.leaf) (fn:=f151) (by kernel_rfl) (by kernel_rfl) hz ⟨by decide,by decide⟩ (fun s' hs'=>⟨rfl,hs'.2,hs'.1.bN⟩) (N:=100) ?_
 rcases hs.val with ⟨h1,h2,h3⟩|⟨h1,kk,k1,k2,h2,h3,h4⟩<;>simp only at h2 h3
 ·subst h2 h3 h1
  refine ad0 z zn 0 a b d f _ ?_
  (repeat' first|(with_reducible first|exact rfl|assumption|apply And.intro|exact Nat.le_refl _|exact Nat.lt_succ_self _)|exact EN|exact Nat.le_succ _|intro hq)
  ·refine q2 (⟨some ⟨256*zn+510,0,none⟩,1,z.set zn (RF (([⟨a,b,d,f⟩]:List ae).map ae.row).flatten 1),zn+1⟩:da) ⟨?_,Nat.le_succ _⟩ rfl rfl rfl rfl rfl
   rename_i h1
   rw[yes h1 hq]
   exact⟨dL hz (j8 _),by show n0<=zn+1;omega,fun k hk=>by
    show(z.set zn _).get k=_
    rw[T.aH,if_neg (by omega)];exact hold k hk, .inr ⟨by simp,zn,hle,Nat.lt_succ_self _,rfl,rfl,by
    show(z.set zn _).get zn=_
    rw[T.aH,if_pos rfl];rfl⟩⟩
  ·refine q2 (⟨none,0,z,zn⟩:da) ⟨?_,Nat.le_refl _⟩ rfl rfl rfl rfl rfl
   rw[no2 hq];exact hs
  ·refine q2 (⟨none,0,z,zn⟩:da) ⟨?_,Nat.le_refl _⟩ rfl rfl rfl rfl rfl
   rw[no1 hq];exact hs
 ·simp only at h4
  subst h2 h3
  refine ad1 z zn kk L.length ⟨(L.map ae.row).flatten,L.length*4,4,125,false,false,0,true⟩ a b d f _ ?_
  (repeat' first|(with_reducible first|exact rfl|assumption|apply And.intro|exact Dn L|exact Nat.le_refl _|exact Nat.lt_succ_self _|exact lV hz _|exact Dg L ⟨a,b,d,f⟩ _|exact(by show L.length+1<=1048576;omega))|exact Nat.le_succ _|exact EN|intro hq)
  ·refine q2 (⟨some ⟨256*zn+510,0,none⟩,L.length+1,(z.del kk).set zn (RF ((L.map ae.row).flatten++(⟨a,b,d,f⟩:ae).row) (L.length+1)),zn+1⟩:da) ⟨?_,Nat.le_succ _⟩ rfl rfl rfl rfl rfl
   rename_i h1
   rw[yes h1 hq]
   refine⟨dL (lV hz _) (by show bJ ((L.map ae.row).flatten++(⟨a,b,d,f⟩:ae).row)=true;rw[kQ];exact j8 _),by show n0<=zn+1;omega,fun k hk=>?_, .inr ⟨by simp,zn,hle,Nat.lt_succ_self _,rfl,by simp,?_⟩⟩
   ·show((z.del kk).set zn _).get k=_
    rw[T.aH,if_neg (by omega),T.fC,if_neg (by omega)];exact hold k hk
   ·show((z.del kk).set zn _).get zn=_
    rw[T.aH,if_pos rfl,kQ,List.length_append];rfl
  ·refine q2 (⟨some ⟨256*kk+510,0,none⟩,L.length,z,zn⟩:da) ⟨?_,Nat.le_refl _⟩ rfl rfl rfl rfl rfl
   rw[no2 hq];exact hs
  ·refine q2 (⟨some ⟨256*kk+510,0,none⟩,L.length,z,zn⟩:da) ⟨?_,Nat.le_refl _⟩ rfl rfl rfl rfl rfl
   rw[no1 hq];exact hs
end
def tJ(z:T aa)(b n:Nat)(d:Nat->Nat->Int):Prop:= ∀i,i<n-> ∃l,z.get (b+i)=some (.az (DO l n))/\l.length=n/\ ∀j,j<n->(fG l j).len=d i j
theorem mB{z z':T aa}{b n m:Nat}{d:Nat->Nat->Int}(h:tJ z b n d)(hb:b+n<=m)(hk: ∀k,k<m->z'.get k=z.get k):tJ z' b n d:=fun i hi=>by
 obtain⟨l,h1,h2⟩:=h i hi
 exact⟨l,by rw[hk _ (by omega)];exact h1,h2⟩
theorem u6{z:T aa}{b n:Nat}{d:Nat->Nat->Int}(h:tJ z b n d){i j:Nat}(hi:i<n)(hj:j<n): ∃k,z.get (b+i)=some (.az k)/\ai prog k 3 (0+j*1)=some (zv (d i j)):=by
 obtain⟨l,h1,h2,h3⟩:=h i hi
 refine⟨_,h1,jT (d:=_) underlying3 rfl ?_⟩
 show(yk l)[j]? =_
 unfold yk
 rw[List.getElem?_map,nP (by omega),←h3 j hj];rfl
theorem oQ{z:T aa}{zn n:Nat}{E:bY}{s:ez}(h:CQ z zn n E s): ∃b d,zn<=b/\b+n<=s.zn/\s.cs=gN b n n/\tJ s.z b n d/\ ∀i j,i<n->j<n->mV E i j (d i j):=by
 obtain⟨b,h1,h2,h3,h4⟩:=h.row
 have: ∀i,∃l,i<n->s.z.get (b+i)=some (.az (DO l n))/\l.length=n/\ ∀j,j<n->mV E i j (fG l j).len:=fun i=>by
  by_cases hi:i<n
  ·obtain⟨l,hl⟩:=h4 i hi;exact⟨l,fun _=>hl⟩
  ·exact⟨[],fun h=>absurd h hi⟩
 obtain⟨f,hf⟩:=Classical.axiomOfChoice this
 exact⟨b,fun i j=>(fG (f i) j).len,h1,h2,h3,fun i hi=>⟨f i,(hf i hi).1,(hf i hi).2.1,fun j _=>rfl⟩,fun i j hi hj=>(hf i hi).2.2 j hj⟩
def iP(d f:Nat->Nat->Int)(a:Nat)(L:List ae)(b:Nat):List ae:=
 if a=b then L else if f a b=d a b then jl L a b (d a b) true else jl (jl L a b (d a b) false) a b (f a b) true
def cV(d f:Nat->Nat->Int)(a:Nat)(L:List ae)(m:Nat):List ae:=(List.range m).foldl (iP d f a) L
def eV(d f:Nat->Nat->Int)(n m:Nat):List ae:=(List.range m).foldl (fun L a=>cV d f a L n) []
theorem kV(d f:Nat->Nat->Int)(a:Nat)(L:List ae)(m:Nat):cV d f a L (m+1)=iP d f a (cV d f a L m) m:=by
 unfold cV;rw[List.range_succ,List.foldl_append];rfl
theorem tz(d f:Nat->Nat->Int)(n m:Nat):eV d f n (m+1)=cV d f m (eV d f n m) n:=by
 unfold eV;rw[List.range_succ,List.foldl_append];rfl
theorem Cp(d f:Nat->Nat->Int)(a:Nat)(L:List ae)(b:Nat):(iP d f a L b).length<=L.length+2:=by
 unfold iP
 split
 ·omega
 ·split
  ·have:=uD L a b (d a b) true;omega
  ·have h1:=uD L a b (d a b) false
   have h2:=uD (jl L a b (d a b) false) a b (f a b) true
   omega
theorem wm(d f:Nat->Nat->Int)(a:Nat)(L:List ae)(m:Nat):(cV d f a L m).length<=L.length+2*m:=by
 induction m with
 |zero=>exact Nat.le_refl _
 |succ m ih=>rw[kV];have:=Cp d f a (cV d f a L m) m;omega
theorem D3(d f:Nat->Nat->Int)(n m:Nat):(eV d f n m).length<=m*(2*n):=by
 induction m with
 |zero=>exact Nat.zero_le _
 |succ m ih=>
  rw[tz]
  have:=wm d f m (eV d f n m) n
  have e:(m+1)*(2*n)=m*(2*n)+2*n:=Nat.succ_mul ..
  omega
section
variable{z0:T aa}{n0:Nat}
theorem oO{σ:bq}{L:List ae}{s:da}(h:mW z0 n0 L s):aD (ay σ []) (oB s.v)=some (oB s.v):=by
 rcases h.val with ⟨_,e1,e2⟩|⟨_,kk,_,_,e1,e2,_⟩
 ·obtain⟨oa,k,z,zn⟩:=s
  simp only at e1 e2;subst e1 e2;rfl
 ·obtain⟨oa,k,z,zn⟩:=s
  simp only at e1 e2;subst e1 e2
  have:=lq σ kk L.length L.length
  show aD _ (oB (tb kk L.length L.length))=some (oB (tb kk L.length L.length))
  simp only[aD,aS,this]
theorem JJ(n:Nat)(hn:n<=64)(b1 b2:Nat)(d f:Nat->Nat->Int)(h1:b1+n<=n0)(h2:b2+n<=n0)(hd:tJ z0 b1 n d)(hf:tJ z0 b2 n f)(a:Nat)(ha:a<n)(L:List ae)(hL:L.length<=10000)(s0:da)(hs0:mW z0 n0 L s0):
 aj prog (ah (ah (ag f125) 0) 0) 3 66 (BK n a (b1+a) 0) (AF n (gN b1 n n) (gN b2 n n) s0.v) 3 s0.z s0.zn (Al.R (VA n a (b1+a) (gN b1 n n) (gN b2 n n) s0 (fun s=>mW z0 n0 (cV d f a L n) s/\s0.zn<=s.zn)).l):=by
 refine ax hD (c7 T.leaf) (α:=Nat × da) 3 66 3 (fun t=>t.1<=n/\mW z0 n0 (cV d f a L t.1) t.2/\s0.zn<=t.2.zn) (fun t=>BK n a (b1+a) t.1) (fun t=>AF n (gN b1 n n) (gN b2 n n) t.2.v) (fun t=>t.2.z) (fun t=>t.2.zn) (fun t=>n - t.1) _ (fun t hI=>?_) (0,s0) ⟨Nat.zero_le _,hs0,Nat.le_refl _⟩
 obtain⟨b,s⟩:=t
 obtain⟨hb,hs,hle⟩:=hI
 simp only at hb hs hle ⊢
 have hz:=hs.bN
 have rA: ∀b,aD (ay [(0,0),(1,1),(2,2)] []) (aa.az (aV.mk (gN b n n) (n*1) 1 128 true true 0 true))=some (aa.az (aV.mk (gN b n n) (n*1) 1 128 true true 0 true)):=fun b=>nD _ _ _ _ _
 by_cases hlt:b<n
 ·have hc:decide ((b:Int)<(n:Int))=true:=by simp;omega
  have hrl:=wm d f a L b
  have hd':=mB hd h1 hs.gK
  have hf':=mB hf h2 hs.gK
  obtain⟨k1,g1,r1⟩:=u6 hd' ha hlt
  obtain⟨k2,g2,r2⟩:=u6 hf' ha hlt
  have rB:ai prog (aV.mk (gN b2 n n) (n*1) 1 128 true true 0 true) 128 (0+a*1)=some (tb (b2+a) n n):=jT underlying128 rfl (Km ha)
  have add1: ∀fl,bb prog s.z s.zn 151 [iv a,iv b,zv (d a b), .bool fl,ip 0] [(0,oB s.v)] 1 1 (fun s'=>mW z0 n0 (jl (cV d f a L b) a b (d a b) fl) s'/\s.zn<=s'.zn) (fun _=> .tuple ⟨[]⟩) (fun s=>[(0,oB s.v)]) (fun s=>s.z) (fun s=>s.zn):=fun fl=>Pz z0 n0 _ (by omega) s hs _ _ _ _
  have add2: ∀fl x,(mW z0 n0 (jl (cV d f a L b) a b (d a b) fl) x/\s.zn<=x.zn)->bb prog x.z x.zn 151 [iv a,iv b,zv (f a b),T1,ip 0] [(0,oB x.v)] 1 1 (fun s'=>mW z0 n0 (jl (jl (cV d f a L b) a b (d a b) fl) a b (f a b) true) s'/\x.zn<=s'.zn) (fun _=> .tuple ⟨[]⟩) (fun s=>[(0,oB s.v)]) (fun s=>s.z) (fun s=>s.zn):=fun fl x hx=>Pz z0 n0 _ (by have:=uD (cV d f a L b) a b (d a b) fl;omega) x hx.1 _ _ _ _
  have nx: ∀s',mW z0 n0 (cV d f a L (b+1)) s'->s.zn<=s'.zn->au (fun t:Nat × da=>t.1<=n/\mW z0 n0 (cV d f a L t.1) t.2/\s0.zn<=t.2.zn) (fun t=>BK n a (b1+a) t.1) (fun t=>AF n (gN b1 n n) (gN b2 n n) t.2.v) 3 (fun t=>t.2.z) (fun t=>t.2.zn) (fun t=>n - t.1) (Al.R (VA n a (b1+a) (gN b1 n n) (gN b2 n n) s0 (fun s=>mW z0 n0 (cV d f a L n) s/\s0.zn<=s.zn)).l) (b,s) .normal (BK n a (b1+a) (b+1)) (AF n (gN b1 n n) (gN b2 n n) s'.v) 3 s'.z s'.zn:=fun s' h1 h2=>
   ⟨(b+1,s'),rfl,rfl,rfl,rfl,rfl,⟨by show b+1<=n;omega,h1,by show s0.zn<=s'.zn;omega⟩,by show n - (b+1)<n - b;omega⟩
  have add1t:(f a b==d a b)=true->bb prog s.z s.zn 151 [iv a,iv b,zv (d a b),T1,ip 0] [(0,oB s.v)] 1 1 (fun s'=>mW z0 n0 (jl (cV d f a L b) a b (d a b) (f a b==d a b)) s'/\s.zn<=s'.zn) (fun _=> .tuple ⟨[]⟩) (fun s=>[(0,oB s.v)]) (fun s=>s.z) (fun s=>s.zn):=fun h=>by
   rw[h];exact add1 true
  have add1f:(f a b==d a b)=false->bb prog s.z s.zn 151 [iv a,iv b,zv (d a b),F0,ip 0] [(0,oB s.v)] 1 1 (fun s'=>mW z0 n0 (jl (cV d f a L b) a b (d a b) (f a b==d a b)) s'/\s.zn<=s'.zn) (fun _=> .tuple ⟨[]⟩) (fun s=>[(0,oB s.v)]) (fun s=>s.z) (fun s=>s.zn):=fun h=>by
   rw[h];exact add1 false
  have w0:((a:Int)==(b:Int))=true->cV d f a L (b+1)=cV d f a L b:=fun h=>by
   rw[kV];unfold iP;rw[if_pos (by simp at h;omega)]
  have w1:((a:Int)==(b:Int))=false->(f a b !=d a b)=false->cV d f a L (b+1)=jl (cV d f a L b) a b (d a b) (f a b==d a b):=fun h h1=>by
   have e:f a b=d a b:=by simpa using h1
   rw[kV];unfold iP;rw[if_neg (by simp at h;omega),if_pos e,e];simp
  have w2:((a:Int)==(b:Int))=false->(f a b !=d a b)=true->cV d f a L (b+1)=jl (jl (cV d f a L b) a b (d a b) (f a b==d a b)) a b (f a b) true:=fun h h1=>by
   have e: ¬f a b=d a b:=by simpa using h1
   have e2:(f a b==d a b)=false:=by simpa using e
   rw[kV];unfold iP;rw[if_neg (by simp at h;omega),if_neg e,e2]
  refine t100 (cl1 s.z s.zn n a (b1+a) (b2+a) b (gN b1 n n) (gN b2 n n) s k1 k2 (d a b) (f a b) (fun s'=>mW z0 n0 (jl (cV d f a L b) a b (d a b) (f a b==d a b)) s'/\s.zn<=s'.zn) (fun x s'=>mW z0 n0 (jl (jl (cV d f a L b) a b (d a b) (f a b==d a b)) a b (f a b) true) s'/\x.zn<=s'.zn) (au _ _ _ _ _ _ _ _ _) ⟨fun _=>?_,nC1 hc⟩)
  (repeat' first|(with_reducible first|exact rfl|assumption|apply And.intro|exact rA _|exact mW.bN (And.left ‹_›)|exact bH (by omega))|exact oO hs|exact oO (And.left (by with_reducible assumption))|exact add1t (by with_reducible assumption)|exact add1f (by with_reducible assumption)|exact add2 _ _ (by with_reducible assumption)|intro hq)
  all_goals first
   |exact nx s (by rw[w0 hq];exact hs) (Nat.le_refl _)
   |(rename_i h1 h2 x hx h3 y
     exact nx y (by rw[w2 h1 h3];exact hq.1) (Nat.le_trans hx.2 hq.2))
   |(rename_i h1 h2 x hx
     exact nx x (by rw[w1 h1 hq];exact hx.1) hx.2)
 ·have hc:decide ((b:Int)<(n:Int))=false:=by simp;omega
  have GL:b=n:=by omega
  subst GL
  refine t100 (cl1 s.z s.zn b a (b1+a) (b2+a) b (gN b1 b b) (gN b2 b b) s ⟨[],0,0,0,true,true,0,true⟩ ⟨[],0,0,0,true,true,0,true⟩ 0 0 (fun _=>False) (fun _ _=>False) (au _ _ _ _ _ _ _ _ _) ⟨nC1 hc,fun _=>?_⟩)
  (repeat' first|(with_reducible first|exact rfl|assumption|apply And.intro|exact rA _)|exact oO hs)
  exact Ej (k:=fun _=>eU) s ⟨hs,hle⟩ rfl
theorem BW(n:Nat)(hn:n<=64)(b1 b2:Nat)(d f:Nat->Nat->Int)(h1:b1+n<=n0)(h2:b2+n<=n0)(hd:tJ z0 b1 n d)(hf:tJ z0 b2 n f)(hz0:aw z0 n0):
 aj prog (ah (ag f125) 0) 3 66 (xk n 0) (AF n (gN b1 n n) (gN b2 n n) an) 3 z0 n0 (Al.R (Rr n (gN b1 n n) (gN b2 n n) z0 n0 (fun s=>mW z0 n0 (eV d f n n) s)).l):=by
 refine ax hD (c7 T.leaf) (α:=Nat × da) 3 66 3 (fun t=>t.1<=n/\mW z0 n0 (eV d f n t.1) t.2) (fun t=>xk n t.1) (fun t=>AF n (gN b1 n n) (gN b2 n n) t.2.v) (fun t=>t.2.z) (fun t=>t.2.zn) (fun t=>n - t.1) _ (fun t hI=>?_) (0,⟨none,0,z0,n0⟩) ⟨Nat.zero_le _,hz0,Nat.le_refl _,fun _ _=>rfl, .inl ⟨rfl,rfl,rfl⟩⟩
 obtain⟨a,s⟩:=t
 obtain⟨ha,hs⟩:=hI
 simp only at ha hs ⊢
 have hz:=hs.bN
 have rA: ∀b,aD (ay [(0,0),(1,1),(2,2)] []) (aa.az (aV.mk (gN b n n) (n*1) 1 128 true true 0 true))=some (aa.az (aV.mk (gN b n n) (n*1) 1 128 true true 0 true)):=fun b=>nD _ _ _ _ _
 by_cases hlt:a<n
 ·have hc:decide ((a:Int)<(n:Int))=true:=by simp;omega
  have hll:(eV d f n a).length<=10000:=by
   have:=D3 d f n a
   have h2:a*(2*n)<=64*(2*64):=Nat.mul_le_mul (by omega) (by omega)
   omega
  have hlp:=JJ n hn b1 b2 d f h1 h2 hd hf a hlt _ hll s hs
  have rB:ai prog (aV.mk (gN b1 n n) (n*1) 1 128 true true 0 true) 128 (0+a*1)=some (tb (b1+a) n n):=jT underlying128 rfl (Km hlt)
  refine t100 (cl0 s.z s.zn n a (b1+a) (gN b1 n n) (gN b2 n n) s (fun s'=>mW z0 n0 (cV d f a (eV d f n a) n) s'/\s.zn<=s'.zn) (au _ _ _ _ _ _ _ _ _) ⟨fun _=>?_,nC1 hc⟩)
  (repeat' first|(with_reducible first|exact rfl|assumption|apply And.intro|exact rA _|exact mW.bN (And.left ‹_›)|exact bH (by omega))|exact hlp|exact oO hs|exact oO (And.left (by with_reducible assumption))|intro hq)
  rename_i x
  exact⟨(a+1,x),rfl,rfl,rfl,rfl,rfl,⟨by show a+1<=n;omega,by show mW z0 n0 (eV d f n (a+1)) x;rw[tz];exact hq.1⟩,by show n - (a+1)<n - a;omega⟩
 ·have hc:decide ((a:Int)<(n:Int))=false:=by simp;omega
  have han:a=n:=by omega
  subst han
  refine t100 (cl0 s.z s.zn a a 0 (gN b1 a a) (gN b2 a a) s (fun _=>False) (au _ _ _ _ _ _ _ _ _) ⟨nC1 hc,fun _=>?_⟩)
  (repeat' first|(with_reducible first|exact rfl|assumption|apply And.intro)|exact oO hs)
  exact Ej (k:=fun _=>eU) s hs rfl
end
def DF(n:Nat)(l:List ae)(d f:Nat->Nat->Int):Prop:= ∃E F,Uy n l false E/\Uy n l true F/\(∀i j,i<n->j<n->mV (EE E) i j (d i j))/\(∀i j,i<n->j<n->mV (EE F) i j (f i j))
theorem Cd{z z':T aa}{a b:Nat}{L:List ae}{s:da}(h:mW z' b L s)(hab:a<=b)(ho: ∀k,k<a->z'.get k=z.get k):mW z a L s:=by
 refine⟨h.bN,Nat.le_trans hab h.le,fun k hk=>(h.gK k (by omega)).trans (ho k hk),?_⟩
 rcases h.val with h1|⟨h1,kk,h2,h3⟩
 ·exact .inl h1
 ·exact .inr ⟨h1,kk,by omega,h3⟩
def lI(C:List ae):Prop:= ∀(z:T aa)(zn:Nat)(s:da),mW z zn C s->aF prog s.z s.zn 152 [s.v, .func (.func 153) #[] #[]] [] 0 0 (fun _:Unit=>True) (fun _=> .tuple ⟨[]⟩) (fun _=>[])
theorem iI{P:Program}{b:Code}{base n:Nat}{live:Live}{aU:bV}{nx:Nat}{z:T aa}{zn:Nat}{R R':aA->Prop}(h:aj P b base n live aU nx z zn R)(hR: ∀o,R o->R' o):aj P b base n live aU nx z zn R':=
 fun yx h0 zn0 σ0 h1 h2=>(h yx h0 zn0 σ0 h1 h2).mono fun e fr h zn' ⟨o,h1,h2⟩=>⟨o,hR o h1,h2⟩
theorem dw{z z':T aa}{zn k:Nat}{rows:List (List Value)}(h:bP z k rows)(hz:aw z zn)(ho: ∀j,j<zn->z'.get j=z.get j):bP z' k rows:=
 ⟨fun hr=>by obtain⟨e,he⟩:=h.here hr;exact⟨e,by rw[ho k (hz k _ he).1];exact he⟩,h.size⟩
section
variable{z:T aa}{zn:Nat}
theorem Wu(hz:aw z zn)(n:Nat)(hn:n<=64)(l:List ae)(hl:ot n l)(hll:l.length<=10000)(cp:Nat)(hL:bP z 4 (l.map ae.row))(C:List ae)(hC: ∀d f,DF n l d f->eV d f n n=C)(hS:lI C):
 bb prog z zn 125 [tb 4 l.length cp,iv n] [] 0 0 (mW z zn C) (fun s=>s.v) (fun _=>[]) (fun s=>s.z) (fun s=>s.zn):=by
 have d1:=KV hz n hn l hl hll cp hL false
 have rw1: ∀{z zn b s},dW z zn n l b s-> ∀σ c,aD (ay σ []) (aa.az (aV.mk s.cs c 1 128 true true 0 true))=some (aa.az (aV.mk s.cs c 1 128 true true 0 true)):=fun {z zn b s} ⟨E,_,h⟩ σ c=>by
  obtain⟨b,_,_,h,_⟩:=h.row
  rw[h];exact nD _ _ _ _ _
 have rw2: ∀{z zn b s},dW z zn n l b s-> ∀σ c,aD (sig σ) (aa.az (aV.mk s.cs c 1 128 true true 0 true))=some (aa.az (aV.mk s.cs c 1 128 true true 0 true)):=fun h σ c=>rw1 h σ c
 have bN: ∀{z zn b s},dW z zn n l b s->aw s.2 s.zn:=fun {z zn b s} ⟨E,_,h⟩=>h.bN
 have d2: ∀s,dW z zn n l false s->bb prog s.2 s.zn 150 [tb 4 l.length cp,iv n,T1] [] 0 1 (dW s.2 s.zn n l true) (fun _=>bd 0 n n) (fun s=>[(0,uW s.cs n)]) (fun s=>s.z) (fun s=>s.zn):=fun s ⟨E,_,h⟩=>KV h.bN n hn l hl hll cp (dw hL hz h.gK) true
 have lp: ∀s1 s2,dW z zn n l false s1->dW s1.2 s1.zn n l true s2->aj prog (ah (ag f125) 0) 3 66 (xk n 0) (AF n s1.cs s2.cs an) 3 s2.2 s2.zn (Al.R (Rr n s1.cs s2.cs s2.2 s2.zn (fun s=>mW z zn C s)).l):=fun s1 s2 ⟨E,hE,h1⟩ ⟨F,hF,h2⟩=>by
  obtain⟨b1,d,p1,p2,p3,p4,p5⟩:=oQ h1
  obtain⟨b2,f,q1,q2,q3,q4,q5⟩:=oQ h2
  have hle:=h2.le
  have:=BW n hn b1 b2 d f (by omega) q2 (mB p4 p2 h2.gK) q4 h2.bN
  rw[hC d f ⟨E,F,hE,hF,p5,q5⟩] at this
  rw[p3,q3]
  refine iI this fun o ho=>?_
  rcases ho with ⟨s,hs,e⟩|ho
  ·exact .inl ⟨s,Cd hs (Nat.le_trans h1.le hle) fun k hk=>(h2.gK k (by have:=h1.le;omega)).trans (h1.gK k hk),e⟩
  ·exact .inr ho
 have srt: ∀s,mW z zn C s->aF prog s.3 s.zn 152 [s.v, .func (.func 153) #[] #[]] [] 0 0 (fun _:Unit=>True) (fun _=> .tuple ⟨[]⟩) (fun _=>[]):=fun s hs=>hS z zn s hs
 have rv: ∀s,mW z zn C s->aP (ay [] []) s.v=some s.v:=fun s h=>by
  rcases h.val with ⟨_,e1,e2⟩|⟨_,kk,_,_,e1,e2,_⟩
  ·obtain⟨oa,k,z,zn⟩:=s
   simp only at e1 e2;subst e1 e2;rfl
  ·obtain⟨oa,k,z,zn⟩:=s
   simp only at e1 e2;subst e1 e2
   exact lq [] kk C.length C.length
 have rl: ∀s,mW z zn C s->aS (sig []) [s.v, .func (.func 153) #[] #[]]=some [s.v, .func (.func 153) #[] #[]]:=fun s h=>by
  have:=rv s h
  have h2:aP (ay [] []) (.func (.func 153) #[] #[])=some (.func (.func 153) #[] #[]):=rfl
  show aS (ay [] []) _=_
  simp only[aS,this,h2]
 refine dV (c7 T.leaf) (fn:=f125) (by kernel_rfl) (by kernel_rfl) hz ⟨by decide,by decide⟩ (fun s' hs'=>⟨rfl,hs'.le,hs'.bN⟩) (N:=100) ?_
 refine cl z zn n l.length cp (dW z zn n l false) (fun s=>dW s.2 s.zn n l true) (fun _ _=>mW z zn C) _ ?_
 (repeat' first|(with_reducible first|exact rfl|assumption|apply And.intro|exact d2 _ ‹_›|exact srt _ ‹_›|exact bN ‹_›|exact mW.bN ‹_›|exact rw1 ‹_› _ _|exact rw2 ‹_› _ _|exact rv _ ‹_›|exact rl _ ‹_›)|exact lp _ _ (by with_reducible assumption) (by with_reducible assumption)|intro hq)
 rename_i x hx _
 exact q2 x hx rfl rfl rfl rfl rfl
theorem Sx(hz:aw z zn)(n:Nat)(hn:n<=64)(C:List ae)(hC: ∀d f,DF n [] d f->eV d f n n=C)(hS:lI C):
 bb prog z zn 125 [an,iv n] [] 0 0 (mW z zn C) (fun s=>s.v) (fun _=>[]) (fun s=>s.z) (fun s=>s.zn):=by
 have d1:=FI hz n hn false
 have rw1: ∀{z zn b s},dW z zn n [] b s-> ∀σ c,aD (ay σ []) (aa.az (aV.mk s.cs c 1 128 true true 0 true))=some (aa.az (aV.mk s.cs c 1 128 true true 0 true)):=fun {z zn b s} ⟨E,_,h⟩ σ c=>by
  obtain⟨b,_,_,h,_⟩:=h.row
  rw[h];exact nD _ _ _ _ _
 have rw2: ∀{z zn b s},dW z zn n [] b s-> ∀σ c,aD (sig σ) (aa.az (aV.mk s.cs c 1 128 true true 0 true))=some (aa.az (aV.mk s.cs c 1 128 true true 0 true)):=fun h σ c=>rw1 h σ c
 have bN: ∀{z zn b s},dW z zn n [] b s->aw s.2 s.zn:=fun {z zn b s} ⟨E,_,h⟩=>h.bN
 have d2: ∀s,dW z zn n [] false s->bb prog s.2 s.zn 150 [an,iv n,T1] [] 0 1 (dW s.2 s.zn n [] true) (fun _=>bd 0 n n) (fun s=>[(0,uW s.cs n)]) (fun s=>s.z) (fun s=>s.zn):=fun s ⟨E,_,h⟩=>FI h.bN n hn true
 have lp: ∀s1 s2,dW z zn n [] false s1->dW s1.2 s1.zn n [] true s2->aj prog (ah (ag f125) 0) 3 66 (xk n 0) (AF n s1.cs s2.cs an) 3 s2.2 s2.zn (Al.R (Rr n s1.cs s2.cs s2.2 s2.zn (fun s=>mW z zn C s)).l):=fun s1 s2 ⟨E,hE,h1⟩ ⟨F,hF,h2⟩=>by
  obtain⟨b1,d,p1,p2,p3,p4,p5⟩:=oQ h1
  obtain⟨b2,f,q1,q2,q3,q4,q5⟩:=oQ h2
  have hle:=h2.le
  have:=BW n hn b1 b2 d f (by omega) q2 (mB p4 p2 h2.gK) q4 h2.bN
  rw[hC d f ⟨E,F,hE,hF,p5,q5⟩] at this
  rw[p3,q3]
  refine iI this fun o ho=>?_
  rcases ho with ⟨s,hs,e⟩|ho
  ·exact .inl ⟨s,Cd hs (Nat.le_trans h1.le hle) fun k hk=>(h2.gK k (by have:=h1.le;omega)).trans (h1.gK k hk),e⟩
  ·exact .inr ho
 have srt: ∀s,mW z zn C s->aF prog s.3 s.zn 152 [s.v, .func (.func 153) #[] #[]] [] 0 0 (fun _:Unit=>True) (fun _=> .tuple ⟨[]⟩) (fun _=>[]):=fun s hs=>hS z zn s hs
 have rv: ∀s,mW z zn C s->aP (ay [] []) s.v=some s.v:=fun s h=>by
  rcases h.val with ⟨_,e1,e2⟩|⟨_,kk,_,_,e1,e2,_⟩
  ·obtain⟨oa,k,z,zn⟩:=s
   simp only at e1 e2;subst e1 e2;rfl
  ·obtain⟨oa,k,z,zn⟩:=s
   simp only at e1 e2;subst e1 e2
   exact lq [] kk C.length C.length
 have rl: ∀s,mW z zn C s->aS (sig []) [s.v, .func (.func 153) #[] #[]]=some [s.v, .func (.func 153) #[] #[]]:=fun s h=>by
  have:=rv s h
  have h2:aP (ay [] []) (.func (.func 153) #[] #[])=some (.func (.func 153) #[] #[]):=rfl
  show aS (ay [] []) _=_
  simp only[aS,this,h2]
 refine dV (c7 T.leaf) (fn:=f125) (by kernel_rfl) (by kernel_rfl) hz ⟨by decide,by decide⟩ (fun s' hs'=>⟨rfl,hs'.le,hs'.bN⟩) (N:=100) ?_
 refine clz z zn n (dW z zn n [] false) (fun s=>dW s.2 s.zn n [] true) (fun _ _=>mW z zn C) _ ?_
 (repeat' first|(with_reducible first|exact rfl|assumption|apply And.intro|exact d2 _ ‹_›|exact srt _ ‹_›|exact bN ‹_›|exact mW.bN ‹_›|exact rw1 ‹_› _ _|exact rw2 ‹_› _ _|exact rv _ ‹_›|exact rl _ ‹_›)|exact lp _ _ (by with_reducible assumption) (by with_reducible assumption)|intro hq)
 rename_i x hx _
 exact q2 x hx rfl rfl rfl rfl rfl
end
end Go.Proofs.Nw
