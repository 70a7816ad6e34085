/-
  A part of the proof: lemmas of my own.
-/
import Derived.Test.YtglogmeapcdmeaaGreatDoorPB
import Derived.Lib.Hide
import Derived.KernelRfl
import Derived.WalkKit
import Derived.Below
import Derived.LoopTactic
import Derived.Laws.IdiomStrings
import Derived.Laws.StructEq
set_option linter.unusedVariables false
set_option linter.unusedSimpArgs false
namespace Go.Proofs.Nw
open Go Go.AV Tryz Go.jo
set_option maxRecDepth 100000
theorem hD:iD prog:=Ji (by kernel_rfl)
def CF:bS->Bool
 |[]=>true
 |(b,_)::l=>match Nat.blt b cI with|true=>CF l|false=>false
theorem sP: ∀{l:bS},CF l=true-> ∀b o,(b,o)∈l->b<cI
 |(b0,o0)::l,h,b,o,hm=>by
  simp only[CF] at h
  split at h
  ·rename_i hb
   rcases List.mem_cons.1 hm with e|e
   ·cases e;rw[Nat.blt_eq] at hb;exact hb
   ·exact sP h b o e
  ·cases h
abbrev A1(z:T aa)(zn f:Nat)(args:List Value)(aR:bS)(nx eT:Nat)(v:Value)(zo:bS):Prop:=
 aT prog z zn f args aR nx eT (fun _:Unit=>True) (fun _=>v) (fun _=>zo)
def Q1(z:T aa)(zn eT:Nat)(v:Value)(zo:bS):Value->bS->Nat->T aa->Nat->Prop:=Kp eT (fun _:Unit=>True) (fun _=>v) (fun _=>zo) (fun _=>z) (fun _=>zn)
theorem q1{z:T aa}{zn eT:Nat}{v:Value}{zo:bS}:Q1 z zn eT v zo v zo eT z zn:=⟨rfl,(),trivial,rfl,rfl,rfl,rfl⟩
theorem bD{φ:Prop}{o:ax}{l:Al}(h:φ):Al.R (alt φ o l) o:= .inl ⟨(),h,rfl⟩
theorem dD{φ:Prop}{o o':ax}{l:Al}(h:Al.R l o'):Al.R (alt φ o l) o':= .inr h
theorem PX{z:T aa}:fB prog z (fun _ _=>none):=fun _ _ _ h=>by cases h
theorem cW{z zg:T aa}{zn:Nat}{g:Nat->List Value->Option Value}(hg:fB prog zg g){f:Nat}{fn:Func}(hfn:prog.funcs[f]? =some fn)(hb:fn.body=some (ag fn)){args:List Value}{aR:bS}(hz:ay z zn){nx eT:Nat}(hnx:nx<=eT/\eT<=cI){v:Value}{zo:bS}(hlow:CF zo=true){N:Nat}
 (h: ∃t,fU prog g zg N (ag fn) (xl fn args) (fW z aR nx) zn (ET prog nx fn (Q1 z zn eT v zo)) t):A1 z zn f args aR nx eT v zo:=by
 obtain⟨t,ht⟩:=h
 exact Bs hD hg hfn hb hz nx eT hnx _ _ _ _ _ (fun _ _=>N6 hz (sP hlow)) ht
theorem aK1{z zg:T aa}{zn:Nat}{g:Nat->List Value->Option Value}(hg:fB prog zg g){f:Nat}{fn:Func}{args:List Value}{aR:bS}(hz:ay z zn){nx eT:Nat}{v:Value}{zo:bS}{N:Nat}
 (h: ∃t,fU prog g zg N (ag fn) (xl fn args) (fW z aR nx) zn (ET prog nx fn (Q1 z zn eT v zo)) t) (hfn:prog.funcs[f]? =some fn:=by kernel_rfl) (hb:fn.body=some (ag fn):=by kernel_rfl) (hnx:nx<=eT/\eT<=cI:=by decide) (hlow:CF zo=true:=by rfl):A1 z zn f args aR nx eT v zo:=cW hg hfn hb hz hnx hlow h
structure vy(es:List MapEntry)(nx:Int->Option Int):Prop where
 find: ∀a,∃r:Option (Nat × Int),aC prog 3 (zv a) es 0=some (r.map fun p=>(p.1,zv p.2))/\r.map (·.2)=nx a
 Gt: ∀σ c,aI σ (.map es c)=some (.map es c)
theorem vy.no{es:List MapEntry}{nx:Int->Option Int}(h:vy es nx)(a:Int):aC prog 3 (zv a) es 0≠none:=by
 obtain⟨r,h1,_⟩:=h.find a
 rw[h1];simp
theorem vy.ex{es:List MapEntry}{nx:Int->Option Int}(h:vy es nx)(a:Int)(p:Nat × Value)(hp:aC prog 3 (zv a) es 0=some (some p)): ∃x:Nat × Int,p=(x.1,zv x.2):=by
 obtain⟨r,h1,_⟩:=h.find a
 rw[h1] at hp
 cases r with
 |none=>cases hp
 |some q=>cases hp;exact⟨q,rfl⟩
theorem vy.D7{es:List MapEntry}{nx:Int->Option Int}(h:vy es nx){a:Int}{i:Nat × Int}(hp:aC prog 3 (zv a) es 0=some (some (i.1,zv i.2))):nx a=some i.2:=by
 obtain⟨r,h1,h2⟩:=h.find a
 rw[h1] at hp
 cases r with
 |none=>cases hp
 |some q=>
  simp only[Option.map_some,Option.some.injEq,Prod.mk.injEq,Value.int.injEq,true_and] at hp
  rw[←h2,←hp.2];rfl
theorem vy.none{es:List MapEntry}{nx:Int->Option Int}(h:vy es nx){a:Int}(hp:aC prog 3 (zv a) es 0=some none):nx a=none:=by
 obtain⟨r,h1,h2⟩:=h.find a
 rw[h1] at hp
 cases r with
 |none=>rw[←h2];rfl
 |some q=>cases hp
section
variable{z:T aa}{zn:Nat}
structure At where
 a:Int
 ok:Bool
 d:Nat
theorem uz(hz:ay z zn){es:List MapEntry}{c:Nat}{nx:Int->Option Int}(hm:vy es nx)(hdep: ∀f,∃d,vZ nx f d)(b:Int)(l:Bool)(a:Int)(ok:Bool)
 (hl:ok=true->(l=true↔a=b\/jT nx b a)) (hl0:ok=false->l=false):
 ai prog (ah (ag f62) 0) 1 25 (lvl b a ok) [(0, .map es c)] 1 z zn (Al.R (lpl z zn b a ok l es c).l):=by
 obtain⟨d,hd⟩:=hdep a
 refine an hD (PX (z:=z)) (α:=At) 1 25 1 (fun x=>(x.ok=true->(l=true↔x.a=b\/jT nx b x.a)/\vZ nx x.a x.d)/\(x.ok=false->l=false)) (fun x=>lvl b x.a x.ok) (fun _=>[(0, .map es c)]) (fun _=>z) (fun _=>zn) (fun x=>if x.ok then x.d+1 else 0) _ (fun x hx=>?_) ⟨a,ok,d⟩ ⟨fun h=>⟨hl h,hd⟩,hl0⟩
 obtain⟨a,ok,d⟩:=x
 obtain⟨h1,h2⟩:=hx
 simp only at h1 h2
 cases ok with
 |false=>
  refine t100 (rl0 z zn (fun _ _=>none) a b es c (ak _ _ _ _ _ _ _ _ _) ?_)
  (repeat' first|(with_reducible first|exact rfl|assumption|apply And.intro|exact hm.Gt _ _))
  exact dD (bD (h2 rfl))
 |true=>
  obtain⟨h3,h4⟩:=h1 rfl
  refine t100 (rl1 z zn (fun _ _=>none) a b es c (ak _ _ _ _ _ _ _ _ _) ⟨fun e=>?_,fun e=>⟨hm.no a,hm.ex a,fun i hi=>?_,fun hi=>?_⟩⟩)
  ·have e:a=b:=by simpa using e
   (repeat' first|(with_reducible first|exact rfl|assumption|apply And.intro|exact hm.Gt _ _))
   exact bD (h3.2 (.inl e))
  ·have e: ¬a=b:=by simpa using e
   have hn:=hm.D7 hi
   (repeat' first|(with_reducible first|exact rfl|assumption|apply And.intro|exact hm.Gt _ _))
   cases h4 with
   |nil h0=>rw[hn] at h0;cases h0
   | @cons _ x d h0 t=>
     rw[hn] at h0
     cases h0
     refine⟨⟨i.2,true,d⟩,rfl,rfl,rfl,rfl,rfl,⟨fun _=>⟨?_,t⟩,fun h=>by cases h⟩,by simp⟩
     rw[h3,uD hn]
     simp[e]
  ·have e: ¬a=b:=by simpa using e
   have hn:=hm.none hi
   (repeat' first|(with_reducible first|exact rfl|assumption|apply And.intro|exact hm.Gt _ _))
   refine⟨⟨0,false,0⟩,rfl,rfl,rfl,rfl,rfl,⟨fun h=>(by cases h),fun _=>?_⟩,by simp⟩
   cases hl:l with
   |false=>rfl
   |true=>
    rcases h3.1 hl with q|q
    ·exact(e q).elim
    ·exact(oU hn q).elim
theorem Nc(hz:ay z zn){es:List MapEntry}{c:Nat}{nx:Int->Option Int}(hm:vy es nx)(hdep: ∀f,∃d,vZ nx f d)(a b:Int)(l:Bool)(hl:l=true↔jT nx b a):
 A1 z zn 62 [mp 0,zv a,zv b] [(0, .map es c)] 1 1 (.bool l) [(0, .map es c)]:=by
 refine cW (PX (z:=z)) (fn:=f62) (by kernel_rfl) (by kernel_rfl) hz ⟨by decide,by decide⟩ rfl (ll z zn (fun _ _=>none) a b l es c _ ⟨hm.no a,hm.ex a,fun i hi=>?_,fun hi=>?_⟩)
 ·have hn:=hm.D7 hi
  have hL:=uz (c:=c) hz hm hdep b l i.2 true (fun _=>by rw[hl,uD hn]) (fun h=>by cases h)
  (repeat' first|(with_reducible first|exact rfl|assumption|apply And.intro|exact hm.Gt _ _)|exact hL|intro hq)
  all_goals (cases hq;exact q1)
 ·have hn:=hm.none hi
  have hL:=uz (c:=c) hz hm hdep b l 0 false (fun h=>by cases h) (fun _=>by
   cases h:l with
   |false=>rfl
   |true=>exact(oU hn (hl.1 h)).elim)
  (repeat' first|(with_reducible first|exact rfl|assumption|apply And.intro|exact hm.Gt _ _)|exact hL|intro hq)
  all_goals (cases hq;exact q1)
end
end Go.Proofs.Nw
namespace Go.Proofs.Nw
open Go Go.AV Tryz
def mh(c:UInt8):Bool:=(97<=c.toNat && c.toNat<=122)||(65<=c.toNat && c.toNat<=90)||(48<=c.toNat && c.toNat<=57)||c.toNat==45||c.toNat==95||c.toNat==46
def bK(s:ByteArray):Bool:=s.data.toList.all mh && decide (0<s.size) && decide (s.size<=32)
structure bJ where
 id:ByteArray
 aR:Int
 sf:Bool
 change:Int
abbrev bJ.row(s:bJ):List Value:=[.string s.id,zv s.aR, .bool s.sf,zv s.change]
structure aY where
 id:ByteArray
 mode:Int
 bic:Bool
abbrev aY.row(s:aY):List Value:=[.string s.id,zv s.mode, .bool s.bic]
structure bI where
 id:ByteArray
 cy:Int
 bT:Int
 cu:Int
 aK:Int
 mi:Int
abbrev bI.row(s:bI):List Value:=[.string s.id,zv s.cy,zv s.bT,zv s.cu,zv s.aK,zv s.mi]
structure bw where
 stop:Int
 arr:Int
 dep:Int
 N4:Bool
 J8:Bool
abbrev bw.row(s:bw):List Value:=[zv s.stop,zv s.arr,zv s.dep, .bool s.N4, .bool s.J8]
structure gO where
 oC:Int
 day:Int
 inst:Int
 id:ByteArray
 gE:Int
 sf:Bool
 cancelled:Bool
 cv:Value
 calls:List bw
abbrev gO.row(r:gO)(cv:Value):List Value:=[zv r.oC,zv r.day,zv r.inst, .string r.id,zv r.gE, .bool r.sf, .bool r.cancelled,cv]
structure aH where
 fz1:Int
 fc:Int
 aq:Int
 tc:Int
 stay:Bool
abbrev aH.row(s:aH):List Value:=[zv s.fz1,zv s.fc,zv s.aq,zv s.tc, .bool s.stay]
structure ae where
 fz1:Int
 aq:Int
 aK:Int
 sf:Bool
abbrev ae.row(p:ae):List Value:=[zv p.fz1,zv p.aq,zv p.aK, .bool p.sf]
def scan(bad:Nat->Option Int):Nat->Nat->Int × Int
 |0,_=>(0,0)
 |m+1,i=>match bad i with|some e=>(i,e)|none=>scan bad m (i+1)
theorem dr{bad:Nat->Option Int}{n i:Nat}{e:Int}(hi:i<n)(h:bad i=some e):scan bad (n - i) i=((i:Int),e):=by
 obtain⟨m,hm⟩: ∃m,n - i=m+1:=⟨n - i - 1,by omega⟩
 rw[hm]
 simp only[scan,h]
theorem cN{bad:Nat->Option Int}{n i:Nat}(hi:i<n)(h:bad i=none):scan bad (n - i) i=scan bad (n - (i+1)) (i+1):=by
 obtain⟨m,hm⟩: ∃m,n - i=m+1:=⟨n - i - 1,by omega⟩
 rw[hm,show n - (i+1)=m by omega]
 simp only[scan,h]
theorem dH{bad:Nat->Option Int}{n i:Nat}(hi:n<=i):scan bad (n - i) i=(0,0):=by
 rw[show n - i=0 by omega];rfl
theorem eqStr(a b:ByteArray):prun prog (Op.equal 9 (.string a) (.string b))=some (a.data==b.data):=by kernel_rfl
theorem Jd(a b:Int):prun prog (Op.equal 3 (zv a) (zv b))=some (decide (a=b)):=by kernel_rfl
mutual
theorem tQ{σ:Nat->Option Nat}: ∀{v:Value},au v=true->aW σ v=some v
 | .bool _,_=>rfl
 | .int _ _,_=>rfl
 | .string _,_=>rfl
 | .float _ _,_=>rfl
 | .nilFunc,_=>rfl
 | .nilIface,_=>rfl
 | .pointer none,_=>rfl
 | .slice none _ _,_=>rfl
 | .map none,_=>rfl
 | .agg ⟨l⟩,h=>by simp only[aW,fE (by simpa[au] using h)]
 | .tuple ⟨l⟩,h=>by simp only[aW,fE (by simpa[au] using h)]
 | .pointer (some _),h=>by simp[au] at h
 | .slice (some _) _ _,h=>by simp[au] at h
 | .map (some _),h=>by simp[au] at h
 | .complex _ _ _,h=>by simp[au] at h
 | .chan _,h=>by simp[au] at h
 | .func _ _ _,h=>by simp[au] at h
 | .iface _ _,h=>by simp[au] at h
theorem fE{σ:Nat->Option Nat}: ∀{l:List Value},bE l=true->bz σ l=some l
 |[],_=>rfl
 |v::l,h=>by
  simp only[bE] at h
  cases hv:au v with
  |false=>simp[hv] at h
  |true=>rw[hv] at h;simp only[bz,tQ hv,fE h]
end
def kv:Nat->List Value->List MapEntry
 |_,[]=>[]
 |i,k::l=>{key:=k,val:=T1,born:=i}::kv (i+1) l
abbrev bb(ks:List Value):aa:= .map (kv 0 ks) ks.length
theorem zK: ∀(l m:List Value)(i:Nat),kv i (l++m)=kv i l++kv (i+l.length) m
 |[],m,i=>rfl
 |k::l,m,i=>by
  simp only[List.cons_append,kv,zK l m (i+1),List.length_cons]
  rw[show i+1+l.length=i+(l.length+1) by omega]
theorem fM(ks:List Value)(k:Value):aa.map (kv 0 ks++[{key:=k,val:=T1,born:=ks.length}]) (ks.length+1)=bb (ks++[k]):=by
 unfold bb
 rw[zK,List.length_append]
 simp[kv]
structure kZ(kt:Nat)(k:Value)(ks:List Value):Prop where
 eq: ∀k',k'∈ks->au k'=true/\ ∃b,prun prog (Op.equal kt k k')=some b/\(b=true↔k=k')
theorem kT{kt:Nat}{k:Value}: ∀{ks:List Value} (i j:Nat),kZ kt k ks->
 ((∃p,aC prog kt k (kv j ks) i=some (some (p,T1)))/\k∈ks)\/(aC prog kt k (kv j ks) i=some none/\k ∉ ks)
 |[],i,j,_=> .inr ⟨rfl,by simp⟩
 |a::l,i,j,h=>by
  obtain⟨h1,b,h2,h3⟩:=h.eq a (by simp)
  simp only[kv,aC,h1,h2]
  cases b with
  |true=>exact .inl ⟨⟨i,rfl⟩,by rw[h3.1 rfl];simp⟩
  |false=>
   have hne:k≠a:=fun e=>by have:=h3.2 e;cases this
   have hl:kZ kt k l:=⟨fun k' hk'=>h.eq k' (List.mem_cons_of_mem _ hk')⟩
   rcases kT (i+1) (j+1) hl with ⟨q1,q2⟩|⟨q1,q2⟩
   ·exact .inl ⟨q1,by simp[q2]⟩
   ·exact .inr ⟨q1,by simp[hne,q2]⟩
section
variable{kt:Nat}{k:Value}{ks:List Value}
theorem kZ.no(h:kZ kt k ks):aC prog kt k (kv 0 ks) 0≠none:=by
 rcases kT 0 0 h with ⟨⟨p,q⟩,_⟩|⟨q,_⟩<;>rw[q]<;>simp
theorem kZ.ex(h:kZ kt k ks)(p:Nat × Value)(hp:aC prog kt k (kv 0 ks) 0=some (some p)): ∃x:Nat,p=(x,T1):=by
 rcases kT 0 0 h with ⟨⟨x,q⟩,_⟩|⟨q,_⟩
 ·rw[q] at hp;cases hp;exact⟨x,rfl⟩
 ·rw[q] at hp;cases hp
theorem kZ.D7(h:kZ kt k ks){x:Nat}(hp:aC prog kt k (kv 0 ks) 0=some (some (x,T1))):k∈ks:=by
 rcases kT 0 0 h with ⟨_,q⟩|⟨q,_⟩
 ·exact q
 ·rw[q] at hp;cases hp
theorem kZ.Kw(h:kZ kt k ks)(hp:aC prog kt k (kv 0 ks) 0=some none):k ∉ ks:=by
 rcases kT 0 0 h with ⟨⟨x,q⟩,_⟩|⟨_,q⟩
 ·rw[q] at hp;cases hp
 ·exact q
end
theorem jQ(a b:ByteArray):(a.data==b.data)=true↔a=b:=by
 rw[beq_iff_eq]
 exact⟨fun h=>by cases a;cases b;simp at h;rw[h],fun h=>by rw[h]⟩
theorem CL(s:ByteArray)(l:List ByteArray):kZ 9 (.string s) (l.map .string):=⟨fun k' hk'=>by
 obtain⟨t,_,rfl⟩:=List.mem_map.1 hk'
 exact⟨rfl,_,eqStr s t,by rw[jQ];simp⟩⟩
theorem DB{σ:Nat->Option Nat}: ∀{ks:List Value} (i:Nat),(∀k,k∈ks->au k=true)->gV σ (kv i ks)=some (kv i ks)
 |[],_,_=>rfl
 |k::l,i,h=>by
  have hl: ∀x,x∈l->au x=true:=fun x hx=>h x (List.mem_cons_of_mem _ hx)
  simp only[kv,gV,tQ (h k (by simp)),DB (σ:=σ) (i+1) hl,aW]
theorem zQ{σ:Nat->Option Nat}{ks:List Value}(h: ∀k,k∈ks->au k=true):aI σ (bb ks)=some (bb ks):=by
 simp only[aI,DB 0 h]
theorem iI(σ:Nat->Option Nat){ks:List Value}{k:Value}(h: ∀k,k∈ks->au k=true)(hk:au k=true):
 aI σ (aa.map (kv 0 ks++[{key:=k,val:= .bool true,born:=ks.length}]) (ks.length+1))=some (aa.map (kv 0 ks++[{key:=k,val:= .bool true,born:=ks.length}]) (ks.length+1)):=by
 have e:=fM ks k
 rw[e]
 exact zQ fun x hx=>by
  rcases List.mem_append.1 hx with q|q
  ·exact h x q
  ·simp at q;subst q;exact hk
theorem oO(l:List ByteArray): ∀k,k∈l.map Value.string->au k=true:=fun k hk=>by
 obtain⟨t,_,rfl⟩:=List.mem_map.1 hk
 rfl
abbrev jd(z:T aa)(zn nx:Nat)(s1 s2:Nat)(e:Nat)(r1 r2:Int):Al:=alt True ⟨.ret,[(s1,zv r1),(s2,zv r2)],[],nx,z,zn⟩ (alt (r1=0/\r2=0) ⟨.exit e,[],[],nx,z,zn⟩ .nil)
def H8(n cp i:Nat):Live:=[(4,mp 0),(11,tb 2 n cp),(12,iv n),(13,iv i)]
def SV(z:T aa)(zn n cp:Nat)(r1 r2:Int):fS:=⟨1,54,[],H8 n cp 0,[(0,bb [])],1,none,jd z zn 1 2 3 0 r1 r2⟩
def wJ:Live:=[(4,mp 0),(11,az),(12,iv 0),(13,iv 0)]
def SU(z:T aa)(zn:Nat):fS:=⟨1,54,[],wJ,[(0,bb [])],1,none,alt True ⟨.exit 0,[],[],1,z,zn⟩ .nil⟩
def yj(n cp i:Nat):Live:=[(0,tb 2 n cp),(4,iv i)]
def wN(n cp i k:Nat):Live:=[(0,tb 2 n cp),(4,iv i),(5,iv k)]
def S2(z:T aa)(zn n cp:Nat)(r1 r2:Int):fS:=⟨0,57,[],yj n cp 0,[],0,none,jd z zn 0 2 3 0 r1 r2⟩
def S1(z:T aa)(zn n cp i:Nat)(b:Bool):fS:=⟨0,57,[],wN n cp i 0,[],0,none,alt (b=true) ⟨.ret,[(2,iv i),(3,I 6)],[],0,z,zn⟩ (alt (b=false) ⟨.exit 2,yj n cp i,[],0,z,zn⟩ .nil)⟩
def H9(n cp i:Nat):Live:=[(4,mp 0),(11,tb 3 n cp),(12,iv n),(13,iv i)]
def S0(z:T aa)(zn n cp:Nat)(r1 r2:Int):fS:=⟨1,37,[],H9 n cp 0,[(0,bb [])],1,none,jd z zn 1 2 3 0 r1 r2⟩
def wM:Live:=[(4,mp 0),(11,az),(12,iv 0),(13,iv 0)]
def SZ(z:T aa)(zn:Nat):fS:=⟨1,37,[],wM,[(0,bb [])],1,none,alt True ⟨.exit 0,[],[],1,z,zn⟩ .nil⟩
def yk(n cp i:Nat):Live:=[(0,tb 3 n cp),(4,iv i)]
def wO(n cp i k:Nat):Live:=[(0,tb 3 n cp),(4,iv i),(5,iv k)]
def S4(z:T aa)(zn n cp:Nat)(r1 r2:Int):fS:=⟨0,48,[],yk n cp 0,[],0,none,jd z zn 0 2 3 0 r1 r2⟩
def S3(z:T aa)(zn n cp i:Nat)(b:Bool):fS:=⟨0,48,[],wO n cp i 0,[],0,none,alt (b=true) ⟨.ret,[(2,iv i),(3,I 6)],[],0,z,zn⟩ (alt (b=false) ⟨.exit 2,yk n cp i,[],0,z,zn⟩ .nil)⟩
abbrev o6(elem:Nat)(cells:List Value):aa:= .aw ⟨cells,cells.length,1,elem,true,true,0,true⟩
def Fa(n cp i:Nat):Live:=[(4,mp 1),(29,tb 5 n cp),(30,iv n),(31,iv i)]
def Td(z:T aa)(zn n cp:Nat)(r1 r2:Int):fS:=⟨2,79,[],Fa n cp 0,[(1,bb [])],2,none,jd z zn 2 2 3 0 r1 r2⟩
def wQ:Live:=[(4,mp 1),(29,az),(30,iv 0),(31,iv 0)]
def Tc(z:T aa)(zn:Nat):fS:=⟨2,79,[],wQ,[(1,bb [])],2,none,alt True ⟨.exit 0,[],[],2,z,zn⟩ .nil⟩
def vQ(pv:Value)(d w c:Int):aa:=o6 29 [pv,zv d,zv w,zv c]
abbrev Lt(x:bI):aa:=o6 131 x.row
def ss(i:Nat):Live:=[(1,ip 0),(4,iv i)]
def wP(i k:Nat):Live:=[(1,ip 0),(4,iv i),(5,ip 1),(6,iv k)]
def Ib(i:Nat):Live:=[(1,ip 0),(4,iv i),(5,ip 1)]
def S7(z:T aa)(zn:Nat)(fb:aa)(r1 r2:Int):fS:=⟨1,88,[],ss 0,[(0,fb)],1,none,jd z zn 1 2 3 0 r1 r2⟩
def S6(z:T aa)(zn i:Nat)(fb:aa)(x:bI)(b:Bool):fS:=⟨2,88,[],wP i 0,[(0,fb),(1,Lt x)],2,none,alt (b=true) ⟨.ret,[(2,iv i),(3,I 6)],[],2,z,zn⟩ (alt (b=false) ⟨.exit 2,Ib i,[(0,fb),(1,Lt x)],2,z,zn⟩ .nil)⟩
def Fi(k n cp:Nat)(s lo hi:Int)(i:Nat):Live:=[(0,tb k n cp),(1,zv s),(2,zv lo),(3,zv hi),(21,iv n),(22,iv i)]
def W2(z:T aa)(zn k n cp:Nat)(s lo hi:Int)(r1 r2:Int):fS:=⟨0,36,[],Fi k n cp s lo hi 0,[],0,none,jd z zn 0 8 9 0 r1 r2⟩
def Ay(k n cp:Nat)(s lo hi:Int)(i:Nat):Live:=[(0,tb k n cp),(1,zv s),(2,zv lo),(3,zv hi),(9,iv i)]
def PF(z:T aa)(zn k n cp:Nat)(s lo hi:Int)(r:Int):fS:=⟨0,83,[],Ay k n cp s lo hi 0,[],0,none,alt True ⟨.ret,[(8,zv r)],[],0,z,zn⟩ (alt (r=0) ⟨.exit 0,[],[],0,z,zn⟩ .nil)⟩
structure aM where
 sa:Option Addr
 ns:Nat
 sc:Nat
 ra:Option Addr
 nr:Nat
 rc:Nat
 ua:Option Addr
 nu:Nat
 uc:Nat
 la:Option Addr
 nl:Nat
 lc:Nat
 pa:Option Addr
 np:Nat
 pc:Nat
 fa:Option Addr
 nf:Nat
 fc:Nat
 d:Int
 w:Int
 c:Int
abbrev aM.cells(N:aM):List Value:=[.slice N.sa N.ns N.sc, .slice N.ra N.nr N.rc, .slice N.ua N.nu N.uc, .slice N.la N.nl N.lc, .slice N.pa N.np N.pc, .slice N.fa N.nf N.fc,zv N.d,zv N.w,zv N.c]
abbrev aM.val(N:aM):Value:= .agg ⟨N.cells⟩
abbrev aM.box(N:aM):aa:=o6 31 N.cells
abbrev aM.uW(N:aM):List Value:=[.slice N.sa N.ns N.sc, .slice N.ra N.nr N.rc,tb 1 N.nu N.uc, .slice N.la N.nl N.lc, .slice N.pa N.np N.pc, .slice N.fa N.nf N.fc,zv N.d,zv N.w,zv N.c]
abbrev aM.jP(N:aM):aa:=o6 31 N.uW
abbrev c7(a b c:Int):aa:=o6 101 [zv a,zv b,zv c]
structure jm where
 oC:Int
 day:Int
 inst:Int
 id:ByteArray
 gE:Int
 sf:Bool
 cancelled:Bool
 ca:Option Addr
 cn:Nat
 cc:Nat
abbrev jm.row(r:jm):List Value:=[zv r.oC,zv r.day,zv r.inst, .string r.id,zv r.gE, .bool r.sf, .bool r.cancelled, .slice r.ca r.cn r.cc]
abbrev jm.key(r:jm):Value:= .agg ⟨[.string r.id,zv r.day,zv r.inst]⟩
def Re(n cp i:Nat):Live:=[(1,ip 0),(2,ip 1),(3,mp 2),(16,tb 1 n cp),(17,iv n),(18,iv i)]
def ZU(z:T aa)(zn:Nat)(N:aM)(r1 r2 r3:Int):fS:=⟨3,96,[],Re N.nu N.uc 0,[(0,N.jP),(1,c7 0 0 0),(2,bb [])],3,none,alt True ⟨.ret,[(2,ip 1)],[(1,c7 r1 r2 r3)],3,z,zn⟩ (alt (r1=0/\r2=0/\r3=0) ⟨.exit 0,[(2,ip 1)],[(1,c7 0 0 0)],3,z,zn⟩ .nil)⟩
def Ax(i k:Nat):Live:=[(1,iv i),(2,ip 0),(5,ip 1),(7,iv k)]
abbrev py(x:jm):aa:=o6 42 x.row
def S5(z:T aa)(zn i:Nat)(N:aM)(x:jm)(b:Bool):fS:=⟨2,79,[],Ax i 0,[(0,N.jP),(1,py x)],2,none,alt (b=true) ⟨.ret,[(4,I 6)],[],2,z,zn⟩ (alt (b=false) ⟨.exit 0,[],[],2,z,zn⟩ .nil)⟩
def gP:Nat->List Value->Option Value
 |50,[.string s]=>match Nat.ble s.size 9223372036854775807 with|true=>some (.bool (bK s))|false=>none
 |81,[.string s]=>match Nat.ble s.size 9223372036854775807 with|true=>some (.bool (bK s))|false=>none
 |59,[.int .i64 n]=>some (.bool (decide (0<=n) && decide (n<8)))
 |63,[.int .i64 n, .int .i64 a, .int .i64 b]=>some (.bool (decide (a<=n) && decide (n<=b)))
 |44,[.int .i64 a, .int .i64 b, .int .i64 c]=>some (.agg ⟨[zv a,zv b,zv c]⟩)
 |61,[.int .i64 a, .int .i64 b]=>some (.bool (decide (0<=a) && decide (a<b)))
 |82,[.int .i64 n, .int .i64 a, .int .i64 b]=>some (.bool (decide (a<=n) && decide (n<=b)))
 |_,_=>none
theorem UD{s:ByteArray}(h:s.size<=9223372036854775807):gP 50 [.string s]=some (.bool (bK s)):=by
 show(match Nat.ble s.size 9223372036854775807 with|true=>some (Value.bool (bK s))|false=>none)=_
 rw[Nat.ble_eq_true_of_le h]
theorem UC{s:ByteArray}(h:s.size<=9223372036854775807):gP 81 [.string s]=some (.bool (bK s)):=by
 show(match Nat.ble s.size 9223372036854775807 with|true=>some (Value.bool (bK s))|false=>none)=_
 rw[Nat.ble_eq_true_of_le h]
abbrev aM.eA(N:aM)(u l:Value):List Value:=[.slice N.sa N.ns N.sc, .slice N.ra N.nr N.rc,u,l, .slice N.pa N.np N.pc, .slice N.fa N.nf N.fc,zv N.d,zv N.w,zv N.c]
abbrev aM.cA(N:aM)(u l:Value):aa:=o6 31 (N.eA u l)
abbrev aM.u1(N:aM):Value:=tb 1 N.nu N.uc
abbrev aM.u0(N:aM):Value:= .slice N.ua N.nu N.uc
abbrev aM.l1(N:aM):Value:=tb 0 N.nl N.lc
def iZ:Nat->List (Int × Int)->List MapEntry
 |_,[]=>[]
 |i,(a,b)::l=>{key:=zv a,val:=zv b,born:=i}::iZ (i+1) l
abbrev uu(l:List (Int × Int)):aa:= .map (iZ 0 l) l.length
abbrev Gu(x:aH):aa:=o6 123 x.row
def E9(i:Nat)(f t:Int)(j:Nat):Live:=[(1,iv i),(2,zv f),(3,zv t),(4,ip 0),(9,iv j)]
def WT(z:T aa)(zn:Nat)(N:aM)(i:Nat)(f t:Int)(b:Bool):fS:=⟨1,48,[],E9 i f t 0,[(0,N.cA N.u0 N.l1)],1,none,alt (b=true) ⟨.ret,[(8,T1)],[],1,z,zn⟩ (alt (b=false) ⟨.exit 0,[],[],1,z,zn⟩ .nil)⟩
def rJ(i:Nat)(f t:Int)(j:Nat)(nx:Int)(k:Nat):Live:=[(1,iv i),(2,zv f),(3,zv t),(4,ip 0),(9,iv j),(10,zv nx),(11,iv k)]
def Ia(i:Nat)(f t:Int)(j:Nat)(nx:Int):Live:=[(1,iv i),(2,zv f),(3,zv t),(4,ip 0),(9,iv j),(10,zv nx)]
def NS(z:T aa)(zn:Nat)(N:aM)(i:Nat)(f t:Int)(j:Nat)(r m:Int):fS:=⟨1,48,[],rJ i f t j m 0,[(0,N.cA N.u0 N.l1)],1,none,alt True ⟨.exit 2,Ia i f t j r,[(0,N.cA N.u0 N.l1)],1,z,zn⟩ .nil⟩
def ym(i k:Nat):Live:=[(1,iv i),(2,ip 0),(5,ip 1),(8,iv k)]
def LN(i:Nat):Live:=[(1,iv i),(2,ip 0),(5,ip 1)]
def Th(z:T aa)(zn:Nat)(N:aM)(i:Nat)(x:aH)(b:Bool):fS:=⟨2,177,[],ym i 0,[(0,N.cA N.u1 N.l1),(1,Gu x)],2,none,alt (b=true) ⟨.ret,[(4,I 19)],[],2,z,zn⟩ (alt (b=false) ⟨.exit 0,LN i,[(0,N.cA N.u1 N.l1),(1,Gu x)],2,z,zn⟩ .nil)⟩
def AA(i k:Nat):Live:=[(1,iv i),(2,ip 0),(5,ip 1),(10,iv k)]
def Tg(z:T aa)(zn:Nat)(N:aM)(i:Nat)(x:aH)(b:Bool):fS:=⟨2,177,[],AA i 0,[(0,N.cA N.u1 N.l1),(1,Gu x)],2,none,alt (b=true) ⟨.ret,[(4,I 6)],[],2,z,zn⟩ (alt (b=false) ⟨.exit 2,[],[],2,z,zn⟩ .nil)⟩
def Fg(n cp i:Nat):Live:=[(1,ip 0),(2,ip 1),(3,mp 2),(4,mp 3),(5,mp 4),(22,tb 0 n cp),(23,iv n),(24,iv i)]
def Uz(z:T aa)(zn:Nat)(N:aM)(u:Value)(r1 r2 r3:Int):fS:=⟨5,171,[],Fg N.nl N.lc 0,[(0,N.cA u N.l1),(1,c7 0 0 0),(2, .map [] 0),(3,bb []),(4,bb [])],5,none,alt True ⟨.ret,[(2,ip 1)],[(1,c7 r1 r2 r3)],5,z,zn⟩ (alt (r1=0/\r2=0/\r3=0) ⟨.exit 0,[(2,ip 1)],[(1,c7 0 0 0)],5,z,zn⟩ .nil)⟩
def Ff:Live:=[(1,ip 0),(2,ip 1),(3,mp 2),(4,mp 3),(5,mp 4),(22,az),(23,iv 0),(24,iv 0)]
def WX(z:T aa)(zn:Nat)(N:aM):fS:=⟨5,171,[],Ff,[(0,N.cA N.u0 az),(1,c7 0 0 0),(2, .map [] 0),(3,bb []),(4,bb [])],5,none,alt True ⟨.exit 0,[(2,ip 1)],[(1,c7 0 0 0)],5,z,zn⟩ .nil⟩
abbrev aM.p1(N:aM):Value:=tb 4 N.np N.pc
abbrev aM.iz(N:aM)(p:Value):List Value:=[.slice N.sa N.ns N.sc, .slice N.ra N.nr N.rc, .slice N.ua N.nu N.uc, .slice N.la N.nl N.lc,p, .slice N.fa N.nf N.fc,zv N.d,zv N.w,zv N.c]
abbrev aM.bW(N:aM)(p:Value):aa:=o6 31 (N.iz p)
def Au(n:Int)(m cp i:Nat):Live:=[(1,zv n),(6,mp 0),(11,tb 4 m cp),(12,iv m),(13,iv i)]
def PA(z:T aa)(zn m cp:Nat)(n:Int)(r1 r2:Int):fS:=⟨1,62,[],Au n m cp 0,[(0,bb [])],1,none,jd z zn 1 4 5 0 r1 r2⟩
def wK(n:Int):Live:=[(1,zv n),(6,mp 0),(11,az),(12,iv 0),(13,iv 0)]
def SW(z:T aa)(zn:Nat)(n:Int):fS:=⟨1,62,[],wK n,[(0,bb [])],1,none,alt True ⟨.exit 0,[],[],1,z,zn⟩ .nil⟩
def AE(m cp i:Nat):Live:=[(1,ip 0),(2,ip 1),(3,mp 2),(9,tb 4 m cp),(10,iv m),(11,iv i)]
def PK(z:T aa)(zn:Nat)(N:aM)(r1 r2 r3:Int):fS:=⟨3,78,[],AE N.np N.pc 0,[(0,N.bW N.p1),(1,c7 0 0 0),(2,bb [])],3,none,alt (r1≠0) ⟨.ret,[(2,ip 1)],[(1,c7 r1 r2 r3)],3,z,zn⟩ (alt (r1=0) ⟨.exit 0,[(1,ip 0),(2,ip 1)],[(0,N.bW N.p1),(1,c7 0 0 0)],3,z,zn⟩ .nil)⟩
def wS:Live:=[(1,ip 0),(2,ip 1),(3,mp 2),(9,az),(10,iv 0),(11,iv 0)]
def To(z:T aa)(zn:Nat)(N:aM):fS:=⟨3,78,[],wS,[(0,N.bW az),(1,c7 0 0 0),(2,bb [])],3,none,alt True ⟨.exit 0,[(1,ip 0),(2,ip 1)],[(0,N.bW az),(1,c7 0 0 0)],3,z,zn⟩ .nil⟩
def ux:Live:=[(0,az),(4,iv 0)]
def Tf(z:T aa)(zn slots:Nat):fS:=⟨0,slots,[],ux,[],0,none,alt True ⟨.exit 0,[],[],0,z,zn⟩ .nil⟩
def WZ(z:T aa)(zn:Nat)(d w c:Int):fS:=⟨1,88,[],ss 0,[(0,vQ az d w c)],1,none,alt True ⟨.exit 0,[],[],1,z,zn⟩ .nil⟩
def pk(c f a d:Int):Int:=if c≠0 then a else if f≠0 then d else 0
abbrev Ku(a b c d e f:Int):aa:= .aw ⟨[zv a,zv b,zv c,zv d,zv e,zv f],6,3,101,true,true,0,true⟩
def AB(i:Nat):Live:=[(2,ip 1),(5, .slice (some ⟨0,0,none⟩) 2 2),(6,iv 2),(7,iv i)]
def W0(z:T aa)(zn:Nat)(a b c d e f x y w:Int):fS:=⟨2,17,[],AB 0,[(0,Ku a b c d e f),(1,c7 0 0 0)],2,none,alt (x=pk c f a d/\y=pk c f b e/\w=pk c f c f) ⟨.ret,[(2,ip 1)],[(1,c7 x y w)],2,z,zn⟩ (alt (c=0/\f=0) ⟨.exit 0,[(2,ip 1)],[(1,c7 0 0 0)],2,z,zn⟩ .nil)⟩
def CB(i:Nat):Live:=[(1,ip 0),(7,iv i)]
def CA(i:Nat):Live:=[(1,ip 0),(8,iv i)]
def S9(z:T aa)(zn:Nat)(N:aM)(r e:Int):fS:=⟨1,84,[],CB 0,[(0,N.box)],1,none,alt (e≠0) ⟨.ret,[(2,I 2),(3,zv r),(4,zv e)],[],1,z,zn⟩ (alt (e=0) ⟨.exit 0,[(1,ip 0)],[(0,N.box)],1,z,zn⟩ .nil)⟩
def S8(z:T aa)(zn:Nat)(N:aM)(r e:Int):fS:=⟨1,84,[],CA 0,[(0,N.box)],1,none,alt (e≠0) ⟨.ret,[(2,I 3),(3,zv r),(4,zv e)],[],1,z,zn⟩ (alt (e=0) ⟨.exit 2,[(1,ip 0)],[(0,N.box)],1,z,zn⟩ .nil)⟩
structure cL where
 node:Int
 len:Int
 gm:Int
abbrev cL.row(x:cL):List Value:=[zv x.node,zv x.len,zv x.gm]
structure b8 where
 x:cL
 num:Int
abbrev b8.row(a:b8):List Value:=[zv a.x.node,zv a.x.len,zv a.x.gm,zv a.num]
def oq(a b:cL):Bool:=decide (a.len<b.len)||(decide (a.len=b.len) && decide (a.gm<b.gm))
def dK(a b:b8):Bool:=oq a.x b.x||(!oq b.x a.x && decide (a.num<b.num))
abbrev ID:Value:= .func (.func 125) #[] #[]
def gH:Nat->List Value->Option Value
 |125,[.agg ⟨[.int .i64 a, .int .i64 b, .int .i64 c]⟩, .agg ⟨[.int .i64 d, .int .i64 e, .int .i64 f]⟩]=>some (.bool (oq ⟨a,b,c⟩ ⟨d,e,f⟩))
 |_,_=>none
abbrev eE(s:Value)(p:Int):aa:=o6 211 [ID,s,zv p]
abbrev dR(cs:List Value)(c:Nat):aa:= .aw ⟨cs,c,4,213,false,false,0,true⟩
abbrev aX(b n c:Nat):Value:= .slice (some ⟨b,0,none⟩) n c
abbrev aF(ms:List b8):List Value:=(ms.map b8.row).flatten
def qP(i:Nat):Live:=[(0,ip 0),(4,iv i)]
def LU(z:T aa)(zn b i m c cc:Nat)(p:Int)(cs:List Value)(φ:List b8->Prop):fS:=⟨b,54,[],qP i,[(0,eE (aX b m c) p),(b,dR cs cc)],b+1,none,
 .cons (List b8) φ (fun ms=>⟨.exit 0,[(0,ip 0)],[(0,eE (aX b m c) p),(b,dR (aF ms) cc)],b+1,z,zn⟩) (fun _=> .fin [] [] [] [] 0 .leaf 0) .nil⟩
def Av(i:Nat):Live:=[(0,ip 0),(2,iv i)]
def PB(z:T aa)(zn i n c cc:Nat)(p:Int)(cs:List Value)(φ:List b8->Prop):fS:=⟨2,41,[],Av i,[(0,eE (aX 1 n c) p),(1,dR cs cc)],2,none,
 .cons (List b8) φ (fun ms=>⟨.ret,[(0,ip 0)],[(0,eE (aX 1 n c) p),(1,dR (aF ms) cc)],2,z,zn⟩) (fun _=> .fin [] [] [] [] 0 .leaf 0) .nil⟩
structure eF where
 fz1:Int
 aq:Int
 wt:Int
abbrev eF.row(e:eF):List Value:=[zv e.fz1,zv e.aq,zv e.wt]
abbrev aU(l:List cL):List Value:=(l.map cL.row).flatten
abbrev bC(l:List eF):List Value:=(l.map eF.row).flatten
abbrev ke(cs:List Value)(n:Nat):aa:= .aw ⟨cs,n*3,3,196,true,true,0,true⟩
abbrev Ft(cs:List Value)(n:Nat):aa:= .aw ⟨cs,n*1,1,3,true,true,0,true⟩
structure qx where
 n:Nat
 ms:List b8
 p:Int
abbrev xh(b:Nat)(s:qx):aa:=eE (aX b s.n s.ms.length) s.p
abbrev wD(s:qx):aa:=dR (aF s.ms) (s.ms.length*4)
abbrev eO:Tr:= .fin [] [] [] [] 0 .leaf 0
abbrev W4(a:cL):aa:=o6 196 a.row
def Fj(n fr i:Nat):Live:=[(0,iv n),(1,mp 0),(2,iv fr),(7,aX 1 n n),(17,iv n),(18,iv i)]
def W3(z:T aa)(zn n fr ck:Nat)(es:List MapEntry)(cs cs2:List Value):fS:=⟨2,82,[],Fj n fr 0,[(0, .map es ck),(1,ke cs n)],2,none,alt True ⟨.exit 0,[(1,mp 0),(2,iv fr),(7,aX 1 n n)],[(0, .map es ck),(1,ke cs2 n)],2,z,zn⟩ .nil⟩
def lK(n:Nat):Live:=[(1,mp 0),(7,aX 1 n n),(9,ip 2)]
def LW(z:T aa)(zn n ck:Nat)(es:List MapEntry)(cs:List Value)(h:aa)(ns:aa)(φ:List cL->Prop):fS:=⟨4,82,[],lK n,[(0, .map es ck),(1,ke cs n),(2,h),(4,ns)],5,none,
 .cons (List cL) φ (fun l=>⟨.ret,[(6,aX 1 n n)],[(0, .map es ck),(1,ke (aU l) n)],5,z,zn⟩) (fun _=>eO) .nil⟩
def CE(n k m j:Nat):Live:=[(1,mp 0),(7,aX 1 n n),(9,ip 2),(10,ip 5),(55,tb k m m),(56,iv m),(57,iv j)]
def wV(n:Nat):Live:=[(1,mp 0),(7,aX 1 n n),(9,ip 2),(10,ip 5),(55,az),(56,iv 0),(57,iv 0)]
abbrev qA(n ck:Nat)(es:List MapEntry)(cs:List Value)(a:cL)(h ns:aa):bS:=[(0, .map es ck),(1,ke cs n),(2,h),(5,W4 a),(6,ns)]
def Tu(z:T aa)(zn n k m ck:Nat)(es:List MapEntry)(cs:List Value)(a:cL)(h ns:aa)(φ:qx->Prop):fS:=⟨6,82,[],CE n k m 0,qA n ck es cs a h ns,7,none,
 .cons qx φ (fun s=>⟨.exit 4,lK n,[(0, .map es ck),(1,ke cs n),(2,xh 6 s),(6,wD s)],7,z,zn⟩) (fun _=>eO) .nil⟩
def Tt(z:T aa)(zn n ck:Nat)(es:List MapEntry)(cs:List Value)(a:cL)(h ns:aa):fS:=⟨6,82,[],wV n,qA n ck es cs a h ns,7,none,alt True ⟨.exit 4,lK n,[(0, .map es ck),(1,ke cs n),(2,h),(6,ns)],7,z,zn⟩ .nil⟩
def Fc(n i:Nat):Live:=[(3,aX 1 n n),(9,aX 0 n n),(10,iv n),(11,iv i)]
def WW(z:T aa)(zn n:Nat)(cs cs2 cs3:List Value):fS:=⟨2,23,[],Fc n 0,[(0,ke cs n),(1,Ft cs2 n)],2,none,alt True ⟨.exit 0,[(3,aX 1 n n)],[(1,Ft cs3 n)],2,z,zn⟩ .nil⟩
abbrev nW(cs:List Value)(n:Nat):aa:= .aw ⟨cs,n*3,3,175,true,true,0,true⟩
abbrev tH(cs:List Value)(n:Nat):aa:= .aw ⟨cs,n*1,1,160,true,true,0,true⟩
abbrev Gv(n:Nat):aa:=o6 3 [iv n]
abbrev Ak:Value:= .func (.func 123) #[] #[ip 1]
def wU(n m j:Nat):Live:=[(2,az),(7,Ak),(22,aX 0 m m),(23,iv m),(24,iv j)]
def wT:Live:=[(7,Ak),(47,az),(48,iv 0),(49,iv 0)]
def Tq(z:T aa)(zn n m:Nat)(cs:List Value):fS:=⟨2,57,[],wU n m 0,[(0,nW cs m),(1,Gv n)],2,none,alt True ⟨.exit 0,[(2,az),(7,Ak)],[(0,nW cs m),(1,Gv n)],2,z,zn⟩ .nil⟩
def Tp(z:T aa)(zn n m:Nat)(cs:List Value):fS:=⟨2,57,[],wT,[(0,nW cs m),(1,Gv n)],2,none,alt True ⟨.exit 2,[(7,Ak)],[(0,nW cs m),(1,Gv n)],2,z,zn⟩ .nil⟩
def CC(m j:Nat):Live:=[(1,F0),(5,mp 1),(9,aX 0 m m),(10,iv m),(11,iv j)]
structure oA where
 l:List (Int × Nat × List eF)
 z:T aa
 zn:Nat
def ff:Nat->List (Int × Nat × List eF)->List MapEntry
 |_,[]=>[]
 |i,(a,k,r)::l=>{key:=zv a,val:=tb k r.length r.length,born:=i}::ff (i+1) l
abbrev E2(l:List (Int × Nat × List eF)):aa:= .map (ff 0 l) l.length
def WV(z:T aa)(zn m:Nat)(cs:List Value)(φ:oA->Prop):fS:=⟨2,34,[],CC m 0,[(0,nW cs m),(1, .map [] 0)],2,none,
 .cons oA φ (fun s=>⟨.exit 0,[(5,mp 1)],[(0,nW cs m),(1,E2 s.l)],2,s.z,s.zn⟩) (fun _=>eO) .nil⟩
def AH(n i:Nat):Live:=[(0,iv n),(7,mp 1),(8,aX 2 n n),(21,iv n),(22,iv i)]
structure eh where
 cs:List Value
 z:T aa
 zn:Nat
def Tv(n ck:Nat)(es:List MapEntry)(cs:List Value)(z:T aa)(zn:Nat)(φ:eh->Prop):fS:=⟨3,35,[],AH n 0,[(1, .map es ck),(2,tH cs n)],3,none,
 .cons eh φ (fun s=>⟨.exit 0,[(8,aX 2 n n)],[(2,tH s.cs n)],3,s.z,s.zn⟩) (fun _=>eO) .nil⟩
def AD(m cp n:Nat)(b:Bool)(i:Nat):Live:=[(1,iv n),(2, .bool b),(7,mp 0),(19,tb 4 m cp),(20,iv m),(21,iv i)]
abbrev gp:=Int × Int × Int
abbrev Eo(x:gp):Value:= .agg ⟨[zv x.1,zv x.2.1,F0]⟩
def gM:Nat->List gp->List MapEntry
 |_,[]=>[]
 |i,x::l=>{key:=Eo x,val:=zv x.2.2,born:=i}::gM (i+1) l
abbrev T8(l:List gp):aa:= .map (gM 0 l) l.length
def Tn(z:T aa)(zn m cp n:Nat)(b:Bool)(l:List gp):fS:=⟨1,81,[],AD m cp n b 0,[(0, .map [] 0)],1,none,alt True ⟨.exit 0,[(1,iv n),(7,mp 0)],[(0,T8 l)],1,z,zn⟩ .nil⟩
def vO(n r mm:Nat):Live:=[(1,iv n),(13,aX 1 r mm),(59,ip 2)]
abbrev WM(ck:Nat)(seen:List Nat):aa:= .dC (some 0) ck seen ck
abbrev vH(mm ck:Nat)(es:List MapEntry)(cs:List Value)(seen:List Nat):bS:=[(0, .map es ck),(1,nW cs mm),(2,WM ck seen)]
def Tk(z:T aa)(zn n mm ck:Nat)(es:List MapEntry)(cs:List Value)(φ:List eF->Prop):fS:=⟨3,81,[],vO n 0 mm,vH mm ck es cs [],3,none,
 .cons (List eF) φ (fun l=>⟨.exit 2,[(1,iv n),(13,aX 1 mm mm)],[(0, .map es ck),(1,nW (bC l) mm)],3,z,zn⟩) (fun _=>eO) .nil⟩
abbrev UE(x:Nat × gp):MapEntry:={key:=Eo x.2,val:=zv x.2.2.2,born:=x.1}
abbrev oB(v:Value):aa:=o6 26 [v]
structure eR where
 oa:Option Addr
 k:Nat
 z:T aa
 zn:Nat
abbrev eR.v(s:eR):Value:= .slice s.oa s.k s.k
abbrev Ua:Value:= .func (.func 91) #[] #[ip 2]
def vP(n a:Nat):Live:=[(5,aX 0 n n),(6,aX 1 n n),(7,ip 2),(8,Ua),(21,iv n),(22,iv a)]
abbrev yZ(n:Nat)(A B:List Value)(v:Value):bS:=[(0,tH A n),(1,tH B n),(2,oB v)]
def PL(n:Nat)(A B:List Value)(z:T aa)(zn:Nat)(φ:eR->Prop):fS:=⟨3,66,[],vP n 0,yZ n A B az,3,none,
 .cons eR φ (fun s=>⟨.exit 0,[(7,ip 2)],[(2,oB s.v)],3,s.z,s.zn⟩) (fun _=>eO) .nil⟩
def AF(n a ka b:Nat):Live:=[(5,aX 0 n n),(6,aX 1 n n),(7,ip 2),(8,Ua),(9,iv a),(21,iv n),(22,iv a),(28,tb ka n n),(29,iv n),(30,iv b)]
def Ts(n a ka:Nat)(A B:List Value)(s0:eR)(φ:eR->Prop):fS:=⟨3,66,[],AF n a ka 0,yZ n A B s0.v,3,none,
 .cons eR φ (fun s=>⟨.exit 2,vP n a,yZ n A B s.v,3,s.z,s.zn⟩) (fun _=>eO) .nil⟩
abbrev PZ(cs:List Value)(n:Nat):aa:= .aw ⟨cs,n*4,4,134,false,false,0,true⟩
def CD(k r m cp i:Nat):Live:=[(0,tb 4 m cp),(28,tb k r r),(7,tb k r r),(29,iv r),(30,iv i)]
def Ti(z:T aa)(zn k r m cp:Nat)(b:Bool):fS:=⟨0,43,[],CD k r m cp 0,[],0,some (z,zn),alt (b=false) ⟨.ret,[(4,F0)],[],0,z,zn⟩ (alt (b=true) ⟨.exit 0,[],[],0,z,zn⟩ .nil)⟩
def og(v:Value):Live:=[(0,v),(28,az),(29,iv 0),(30,iv 0)]
def Ie(z:T aa)(zn:Nat)(v:Value):fS:=⟨0,43,[],og v,[],0,none,alt True ⟨.exit 0,[],[],0,z,zn⟩ .nil⟩
def wR(n:Nat)(b:Bool):Live:=[(1,iv n),(2, .bool b),(7,mp 0),(19,az),(20,iv 0),(21,iv 0)]
def Tl(z:T aa)(zn n:Nat)(b:Bool):fS:=⟨1,81,[],wR n b,[(0, .map [] 0)],1,none,alt True ⟨.exit 0,[(1,iv n),(7,mp 0)],[(0, .map [] 0)],1,z,zn⟩ .nil⟩
abbrev zP(cs:List Value)(k:Nat):aa:= .aw ⟨cs,k*1,1,3,false,false,0,true⟩
abbrev ES:aa:= .aw ⟨[],0,1,3,true,true,0,true⟩
abbrev Kx(cs:List Value)(k:Nat):aa:= .aw ⟨cs,k*1,1,160,false,false,0,true⟩
abbrev FJ:aa:= .aw ⟨[],0,1,160,true,true,0,true⟩
structure dy where
 bl:ba
 z:T aa
 zn:Nat
def pP(pv:Value)(n:Nat)(b:Bool)(i:Nat):Live:=[(0,pv),(1,iv n),(2, .bool b),(7,aX 1 i i),(8,iv i)]
def PE(z:T aa)(zn:Nat)(pv:Value)(n:Nat)(b:Bool)(φ:dy->Prop):fS:=⟨1,116,[],pP pv n b 0,[(1,FJ)],2,none,
 .cons dy φ (fun s=>⟨.exit 0,[(0,pv),(1,iv n),(2, .bool b),(7,aX 1 n n)],[(1, .aw s.bl)],2,s.z,s.zn⟩) (fun _=>eO) .nil⟩
def lJ(pv:Value)(n:Nat)(b:Bool)(i k:Nat):Live:=[(0,pv),(1,iv n),(2, .bool b),(7,aX 3 i i),(8,iv i),(9,aX 4 k k),(10,iv k)]
def PD(z:T aa)(zn:Nat)(pv:Value)(n:Nat)(b:Bool)(i:Nat)(d:aa)(cs:List Value):fS:=⟨3,116,[],lJ pv n b i 0,[(3,d),(4,ES)],5,none,
 alt True ⟨.exit 2,[(0,pv),(1,iv n),(2, .bool b),(7,aX 3 i i),(8,iv i),(9,aX 4 n n)],[(3,d),(4,zP cs n)],5,z,zn⟩ .nil⟩
def Aw(m cp n:Nat)(b:Bool)(i:Nat):Live:=[(0,tb 4 m cp),(1,iv n),(2, .bool b),(7,aX 1 n n),(11,iv i)]
def SY(m cp n:Nat)(b:Bool)(s:dy)(φ:T aa->Prop):fS:=⟨2,116,[],Aw m cp n b 0,[(1, .aw s.bl)],2,none,
 .cons (T aa) φ (fun z=>⟨.exit 4,[(1,iv n),(7,aX 1 n n)],[(1, .aw s.bl)],2,z,s.zn⟩) (fun _=>eO) .nil⟩
def qQ(n k:Nat):Live:=[(1,iv n),(7,aX 1 n n),(13,iv k)]
def PC(n:Nat)(s:dy)(φ:T aa->Prop):fS:=⟨2,116,[],qQ n 0,[(1, .aw s.bl)],2,none,
 .cons (T aa) φ (fun z=>⟨.exit 6,[(7,aX 1 n n)],[(1, .aw s.bl)],2,z,s.zn⟩) (fun _=>eO) .nil⟩
def yi(n k i:Nat):Live:=[(1,iv n),(7,aX 1 n n),(13,iv k),(14,iv i)]
def WS(zn n k:Nat)(bl:ba)(φ:T aa->Prop):fS:=⟨2,116,[],yi n k 0,[(1, .aw bl)],2,none,
 .cons (T aa) φ (fun z=>⟨.exit 8,qQ n k,[(1, .aw bl)],2,z,zn⟩) (fun _=>eO) .nil⟩
def E8(n k i j:Nat):Live:=[(1,iv n),(7,aX 1 n n),(13,iv k),(14,iv i),(15,iv j)]
def WR(zn n k i:Nat)(bl:ba)(φ:T aa->Prop):fS:=⟨2,116,[],E8 n k i 0,[(1, .aw bl)],2,none,
 .cons (T aa) φ (fun z=>⟨.exit 10,yi n k i,[(1, .aw bl)],2,z,zn⟩) (fun _=>eO) .nil⟩
def wL(n:Nat)(b:Bool)(i:Nat):Live:=[(0,az),(1,iv n),(2, .bool b),(7,aX 1 n n),(11,iv i)]
def SX(n:Nat)(b:Bool)(s:dy):fS:=⟨2,116,[],wL n b 0,[(1, .aw s.bl)],2,none,alt True ⟨.exit 4,[(1,iv n),(7,aX 1 n n)],[(1, .aw s.bl)],2,s.z,s.zn⟩ .nil⟩
structure qs where
 k:Nat
 bl:ba
abbrev Gw:ba:=⟨[],0,4,134,true,true,0,true⟩
abbrev Rh(cs:List Value)(k:Nat):ba:=⟨cs,k*4,4,134,false,false,0,true⟩
def Az(n k i:Nat):Live:=[(1,iv n),(5,aX 0 n n),(6,aX 1 n n),(7,aX 3 k k),(8,iv i)]
abbrev NI(d1 d2 o:ba):bS:=[(0, .aw d1),(1, .aw d2),(3, .aw o)]
def PH(z:T aa)(zn n:Nat)(d1 d2:ba)(φ:qs->Prop):fS:=⟨3,107,[],Az n 0 0,NI d1 d2 Gw,4,none,
 .cons qs φ (fun s=>⟨.exit 0,[(7,aX 3 s.k s.k)],[(3, .aw s.bl)],4,z,zn⟩) (fun _=>eO) .nil⟩
def vN(n k i j:Nat):Live:=[(1,iv n),(5,aX 0 n n),(6,aX 1 n n),(7,aX 4 k k),(8,iv i),(9,iv j)]
abbrev qz(d1 d2 o:ba):bS:=[(0, .aw d1),(1, .aw d2),(4, .aw o)]
def PG(z:T aa)(zn n k i:Nat)(d1 d2 o:ba)(φ:qs->Prop):fS:=⟨4,107,[],vN n k i 0,qz d1 d2 o,5,none,
 .cons qs φ (fun s=>⟨.exit 2,[(1,iv n),(5,aX 0 n n),(6,aX 1 n n),(7,aX 4 s.k s.k),(8,iv i)],qz d1 d2 s.bl,5,z,zn⟩) (fun _=>eO) .nil⟩
structure qy where
 k:Nat
 bl:ba
 z:T aa
 zn:Nat
abbrev ya(x:ae):aa:=o6 134 x.row
def mq(i:Nat):Live:=[(1,ip 0),(4,iv i)]
def yl(i k:Nat):Live:=[(1,ip 0),(4,iv i),(5,ip 1),(6,iv k)]
def LV(z:T aa)(zn:Nat)(N:aM)(v:Value)(r1 r2:Int):fS:=⟨1,111,[],mq 0,[(0,N.bW v)],1,none,alt (r2≠0) ⟨.ret,[(2,zv r1),(3,zv r2)],[],1,z,zn⟩ (alt (r1=0/\r2=0) ⟨.exit 0,[(1,ip 0)],[(0,N.bW v)],1,z,zn⟩ .nil)⟩
def PJ(z:T aa)(zn:Nat)(N:aM)(i:Nat)(x:ae)(b:Bool):fS:=⟨2,111,[],yl i 0,[(0,N.bW N.p1),(1,ya x)],2,none,alt (b=true) ⟨.ret,[(2,iv i),(3,I 6)],[],2,z,zn⟩ (alt (b=false) ⟨.exit 2,mq i,[(0,N.bW N.p1)],2,z,zn⟩ .nil)⟩
def su(k i:Nat):Live:=[(1,ip 0),(8,aX 1 k k),(9,iv i)]
def PI(N:aM)(v:Value)(b:Bool)(s:qy):fS:=⟨2,111,[],su s.k 0,[(0,N.bW v),(1, .aw s.bl)],2,none,alt (b=false) ⟨.ret,[(2,I 0),(3,I 18)],[],2,s.z,s.zn⟩ (alt (b=true) ⟨.exit 4,[],[],2,s.z,s.zn⟩ .nil)⟩
def Bk(a b:Int):Int:=if a<b then -1 else if b<a then 1 else 0
def Kv(x y z:Int):Int:=if x≠0 then x else if y≠0 then y else z
def qS(a b c d e f:Int):Int:=Kv (Bk a d) (Bk b e) (Bk c f)
abbrev iT:Value:= .func (.func 93) #[] #[]
def gS:Nat->List Value->Option Value
 |93,[.agg ⟨[.int .i64 a, .int .i64 b, .int .i64 c, .bool _]⟩, .agg ⟨[.int .i64 d, .int .i64 e, .int .i64 f, .bool _]⟩]=>some (zv (qS a b c d e f))
 |_,_=>none
abbrev KU:aa:=o6 3 [zv 0]
abbrev c3(x y w:Int)(i:Nat):Value:=match i with|0=>zv x|1=>zv y|_=>zv w
def Fb(i:Nat):Live:=[(3,I 0),(6,tb 0 3 3),(7,I 3),(8,iv i)]
def WU(z:T aa)(zn:Nat)(r:Int):fS:=⟨0,18,[],Fb 0,[],0,none,alt (r≠0) ⟨.ret,[(2,zv r)],[],0,z,zn⟩ (alt (r=0) ⟨.exit 0,[(3,I 0)],[],0,z,zn⟩ .nil)⟩
def pQ(v:Value)(n i:Nat):Live:=[(0,v),(1,I 0),(2,iv n),(3,iT),(8,iv i)]
def Fh(v:Value)(n i j:Nat):Live:=[(0,v),(1,I 0),(2,iv n),(3,iT),(8,iv i),(9,iv j)]
def Tj(z:T aa)(zn:Nat)(v:Value)(n:Nat):fS:=⟨0,53,[],pQ v n 1,[],0,none,alt True ⟨.exit 0,[],[],0,z,zn⟩ .nil⟩
def WY(z:T aa)(zn:Nat)(v:Value)(n i:Nat):fS:=⟨0,53,[],Fh v n i i,[],0,none,alt True ⟨.exit 2,pQ v n i,[],0,z,zn⟩ .nil⟩
def jL(kk n i j:Nat):Live:=[(0,tb kk n n),(1,I 0),(2,iv n),(3,iT),(9,iv i),(10,iv j)]
def Tb(z:T aa)(zn kk n:Nat):fS:=⟨0,141,[],jL kk n 1 0,[],0,none,alt True ⟨.ret,[(8,T1)],[],0,z,zn⟩ .nil⟩
def Ta(z:T aa)(zn kk n:Nat):fS:=⟨0,141,[],jL kk n 1 0,[],0,none,alt True ⟨.exit 2,jL kk n n 0,[],0,z,zn⟩ .nil⟩
def uw(v:Value)(n l:Nat):Live:=[(0,v),(1,I 0),(2,iv n),(3,iv l),(4,iT),(10,T1),(11,T1)]
def Te(z:T aa)(zn:Nat)(v:Value)(n l:Nat):fS:=⟨0,148,[],uw v n l,[],0,none,alt True ⟨.ret,[],[],0,z,zn⟩ .nil⟩
abbrev aM.l0(N:aM):Value:= .slice N.la N.nl N.lc
def E7:Live:=[(1,ip 0),(2,ip 1),(3,mp 2),(16,az),(17,iv 0),(18,iv 0)]
def WQ(z:T aa)(zn:Nat)(N:aM):fS:=⟨3,96,[],E7,[(0,N.cA az N.l0),(1,c7 0 0 0),(2,bb [])],3,none,alt True ⟨.exit 0,[(2,ip 1)],[(1,c7 0 0 0)],3,z,zn⟩ .nil⟩
end Go.Proofs.Nw
namespace Go.Proofs.Nw
open Go Go.AV Tryz
set_option maxRecDepth 1000000
noncomputable section
abbrev YU:Value:=PT 1
abbrev YV:Prop:=Rs YU
abbrev YW:List Value:=[YM,YM,YM]
abbrev YX:Prop:=Rs (BQ YW 3 1 101)
abbrev YY:Nat × Value:=(2,YU)
abbrev YZ:List (Nat × Value):=[YY]
abbrev Ya:Nat × aa:=(1,BQ YW 3 1 101)
noncomputable abbrev Yb:Code:=ah (ag f45) 0
abbrev Yc:Nat × aa:=(1,c7 0 0 0)
abbrev Yd(N:aM):List (Nat × aa):=[(0,N.cA az N.l0),Yc,(2,bb [])]
abbrev Ye:Nat × Nat:=(1,1)
abbrev Yf:List (Nat × Nat):=[Ye]
theorem ruz(z:T aa)(zn:Nat)(N:aM)(Q:QL)(hyp:E6 96 z zn (YV/\YX/\Q YO YZ [Ya] 3 z zn)):ew prog gP z Yb 96 E7 z (Yd N) 3 zn 3 Q:=K1t hyp (tA 2 (tE Yf [] YZ [Ya] 3 z zn))
abbrev Yg:Prop:=Rf 3
abbrev Yh:List (Nat × Value):=[(2,ip 1)]
abbrev Yi:Value:=PT 0
abbrev Yj:Value:=MP 2
abbrev Yk:Value:=Value.slice none 0 0
abbrev Yl:Nat × Nat:=(2,2)
abbrev Ym:List (Nat × Nat):=[YB,Ye,Yl]
abbrev Yn:Nat->Option Nat:=aA Ym []
abbrev Yo(N:aM):Value:=Value.slice N.sa N.ns N.sc
abbrev Yp(N:aM):Value:=Value.slice N.ra N.nr N.rc
abbrev Yq(N:aM):Value:=Value.slice N.la N.nl N.lc
abbrev Yr(N:aM):Value:=Value.slice N.pa N.np N.pc
abbrev Ys(N:aM):Value:=Value.slice N.fa N.nf N.fc
abbrev Yt:aa:=aa.map [] 0
abbrev Yu:Prop:=Rs Yt
abbrev Yv:Value:=AG YW
abbrev Yw:Prop:=Rs Yv
abbrev Yx:Unit->Prop:=fun(x:Unit)=>True
noncomputable abbrev Yy(z:T aa)(zn:Nat):Unit->Tr:=fun(x:Unit)=>tA 1 (tR [] [] Yv [] 0 z zn)
theorem fuz(z:T aa)(zn:Nat)(N:aM)(Q:QF)(hyp:Yg/\ai prog Yb 3 96 E7 (Yd N) 3 z zn (alt True (ax.mk YO Yh [Yc] 3 z zn) Al.nil).R/\E6 96 z zn (R6 Yi YU Yj Yk YM YM (KO Yn (BQ [Yo N,Yp N,Yk,Yq N,Yr N,Ys N,ZV N.d,ZV N.w,ZV N.c] 9 1 31)/\YX/\Yu/\ ∀(x:Unit),True->E6 96 z zn (Yw/\Q Yv [] 0 z zn)))):ed prog gP z f45 [AG (N.eA az N.l0)] z [] 0 zn Q:=K1t hyp (tA 4 (Tr.lp 3 96 Ym [] E7 (Yd N) 3 z zn (Al.cons Unit Yx (fun(x:Unit)=>ax.mk YO Yh [Yc] 3 z zn) (Yy z zn) Al.nil)))
end
noncomputable section
abbrev Yz(b:Nat):Prop:=Rf (↑b:Int)
abbrev Y0(kk:Nat):Prop:=Rf (tF kk)
abbrev Y1(kb:ba):aa:=aa.aw kb
abbrev Y2(z:T aa)(kk:Nat)(kb:ba):Prop:=z.get kk=some (Y1 kb)
abbrev Y3(y:ae):Value:=AG [ZV y.fz1,ZV y.aq,ZV y.aK,Value.bool y.sf]
abbrev Y4(kb:ba)(b:Nat)(y:ae):Prop:=aE prog kb 134 (0+b*4)=some (Y3 y)
abbrev Y5(y x:ae):Prop:=gS 93 [Y3 y,Y3 x]=some (ZV (qS y.fz1 y.aq y.aK x.fz1 x.aq x.aK))
abbrev Y6:Prop:=Rs (BQ [YM] 1 1 3)
abbrev Y7:List (Nat × aa):=[(0,BQ [YM] 1 1 3)]
abbrev Y8:Value:=ip 0
noncomputable abbrev Y9(b:Nat):An:=An.idx b
noncomputable abbrev Zl(y x:ae):An:=An.cl (ZV (qS y.fz1 y.aq y.aK x.fz1 x.aq x.aK))
noncomputable abbrev GP:An:=An.val F0
theorem jo2(z:T aa)(zn kk n a b:Nat)(kb:ba)(x y:ae)(Q:QF)(hyp:Yz b/\b<n/\Y0 kk/\Y2 z kk kb/\Y4 kb b y/\Yz a/\a<n/\Y0 kk/\Y2 z kk kb/\Y4 kb a x/\Rf z/\Y5 y x/\Value.bool (decide (qS y.fz1 y.aq y.aK x.fz1 x.aq x.aK<0))=F0/\E6 32 z zn (Y6/\Rs (TP [IV a,IV b])/\Q (TP [IV a,IV b]) Y7 1 z zn)):ed prog gS z f137 [tb kk n n,iv a,iv b,Y8,iT] z [(0,KU)] 1 zn Q:=K1t hyp (tO (Y9 b) (tO (An.ld kk kb (AG y.row)) (tO (Y9 a) (tO (An.ld kk kb (AG x.row)) (tO (Zl y x) (tO GP (tA 1 (tR YC [] (TP [IV a,IV b]) Y7 1 z zn))))))))
abbrev eJ(kk n:Nat):Value:=SL (tF kk) n n
abbrev Sg:Array Value:=Array.mk []
abbrev ic:Value:=Value.func (Fn.func 93) Sg Sg
abbrev Q6(a b:Nat):Unit->Value:=fun(x:Unit)=>TP [IV a,IV b]
abbrev sF:Unit->List (Nat × aa):=fun(x:Unit)=>Y7
abbrev Zk(z:T aa)(zn kk n a b:Nat):Prop:=aT prog z zn 137 [eJ kk n,IV a,IV b,Yi,ic] Y7 1 1 Yx (Q6 a b) sF
noncomputable abbrev Zj(kk n a b:Nat):Cm:=Cm.mk [eJ kk n,IV a,IV b,Yi,ic] Y7 1 1 YC YC 1
abbrev fZ(z:T aa):Unit->T aa:=fun(x:Unit)=>z
abbrev fY(zn:Nat):Unit->Nat:=fun(x:Unit)=>zn
theorem jmd(z:T aa)(zn kk n a b c:Nat)(Q:QF)(hyp:Zk z zn kk n a b/\Rs [eJ kk n,IV a,IV b,Yi,ic]/\Y6/\ ∀(x:Unit),True->Rs (TP [IV a,IV b])/\Y6/\Zk z zn kk n b c/\Rs [eJ kk n,IV b,IV c,Yi,ic]/\Y6/\ ∀(x:Unit),True->Rs (TP [IV b,IV c])/\Y6/\Zk z zn kk n a b/\Rs [eJ kk n,IV a,IV b,Yi,ic]/\Y6/\ ∀(x:Unit),True->Rs (TP [IV a,IV b])/\Y6/\E6 41 z zn (Y6/\Rs (IV b)/\Q (IV b) Y7 1 z zn)):ed prog gS z f132 [tb kk n n,iv a,iv b,iv c,Y8,iT] z [(0,KU)] 1 zn Q:=K1t hyp (Tr.cm (Zj kk n a b) Unit Yx (Q6 a b) sF (Q6 a b) sF (fZ z) (fY zn) fun(x:Unit)=>Tr.cm (Zj kk n b c) Unit Yx (Q6 b c) sF (Q6 b c) sF (fZ z) (fY zn) fun(x:Unit)=>Tr.cm (Zj kk n a b) Unit Yx (Q6 a b) sF (Q6 a b) sF (fZ z) (fY zn) fun(x:Unit)=>tR YC [] (IV b) Y7 1 z zn)
theorem jma(z:T aa)(zn kk n a:Nat)(Q:QF)(hyp:WQ1 ((↑(a+1):Int) - 1)/\ZV (IntKind.i64.wrap ((↑(a+1):Int)+1))=IV (a+1+1)/\aT prog z zn 132 [eJ kk n,ZV ((↑(a+1):Int) - 1),IV (a+1),IV (a+1+1),Yi,ic] Y7 1 1 Yx (fun(x:Unit)=>IV (a+1)) sF/\Rs [eJ kk n,ZV ((↑(a+1):Int) - 1),IV (a+1),IV (a+1+1),Yi,ic]/\Y6/\ ∀(x:Unit),True->Rs (IV (a+1))/\Y6/\E6 18 z zn (Y6/\Rs (IV (a+1))/\Q (IV (a+1)) Y7 1 z zn)):ed prog gS z f131 [tb kk n n,iv (a+1),Y8,iT] z [(0,KU)] 1 zn Q:=K1t hyp (tO (An.val (ZV ((↑(a+1):Int) - 1))) (tO (An.val (IV (a+1+1))) (Tr.cm (Cm.mk [eJ kk n,ZV ((↑(a+1):Int) - 1),IV (a+1),IV (a+1+1),Yi,ic] Y7 1 1 YC YC 1) Unit Yx (fun(x:Unit)=>IV (a+1)) sF (fun(x:Unit)=>IV (a+1)) sF (fZ z) (fY zn) fun(x:Unit)=>tR YC [] (IV (a+1)) Y7 1 z zn)))
noncomputable abbrev Sf:An:=An.val T1
theorem jcp(z:T aa)(zn kk n i j k:Nat)(Q:QF)(hyp:WQ1 ((↑n:Int) - 0)/\WQ1 (((↑n:Int) - 0).tdiv 4)/\WQ1 (((↑n:Int) - 0).tdiv 4*1)/\WQ1 (0+((↑n:Int) - 0).tdiv 4*1)/\WQ1 (((↑n:Int) - 0).tdiv 4)/\WQ1 (((↑n:Int) - 0).tdiv 4*2)/\WQ1 (0+((↑n:Int) - 0).tdiv 4*2)/\WQ1 (((↑n:Int) - 0).tdiv 4)/\WQ1 (((↑n:Int) - 0).tdiv 4*3)/\WQ1 (0+((↑n:Int) - 0).tdiv 4*3)/\Value.bool (decide ((↑n:Int) - 0>=8))=T1/\Br (decide ((↑n:Int) - 0>=50)) (aT prog z zn 131 [eJ kk n,ZV (0+((↑n:Int) - 0).tdiv 4*1),Yi,ic] Y7 1 1 Yx (fun(x:Unit)=>ZV (0+((↑n:Int) - 0).tdiv 4*1)) sF/\Rs [eJ kk n,ZV (0+((↑n:Int) - 0).tdiv 4*1),Yi,ic]/\Y6/\ ∀(x:Unit),True->Rs (ZV (0+((↑n:Int) - 0).tdiv 4*1))/\Y6/\aT prog z zn 131 [eJ kk n,ZV (0+((↑n:Int) - 0).tdiv 4*2),Yi,ic] Y7 1 1 Yx (fun(x:Unit)=>ZV (0+((↑n:Int) - 0).tdiv 4*2)) sF/\Rs [eJ kk n,ZV (0+((↑n:Int) - 0).tdiv 4*2),Yi,ic]/\Y6/\ ∀(x:Unit),True->Rs (ZV (0+((↑n:Int) - 0).tdiv 4*2))/\Y6/\aT prog z zn 131 [eJ kk n,ZV (0+((↑n:Int) - 0).tdiv 4*3),Yi,ic] Y7 1 1 Yx (fun(x:Unit)=>ZV (0+((↑n:Int) - 0).tdiv 4*3)) sF/\Rs [eJ kk n,ZV (0+((↑n:Int) - 0).tdiv 4*3),Yi,ic]/\Y6/\ ∀(x:Unit),True->Rs (ZV (0+((↑n:Int) - 0).tdiv 4*3))/\Y6/\aT prog z zn 132 [eJ kk n,ZV (0+((↑n:Int) - 0).tdiv 4*1),ZV (0+((↑n:Int) - 0).tdiv 4*2),ZV (0+((↑n:Int) - 0).tdiv 4*3),Yi,ic] Y7 1 1 Yx (fun(x:Unit)=>ZV (0+((↑n:Int) - 0).tdiv 4*2)) sF/\Rs [eJ kk n,ZV (0+((↑n:Int) - 0).tdiv 4*1),ZV (0+((↑n:Int) - 0).tdiv 4*2),ZV (0+((↑n:Int) - 0).tdiv 4*3),Yi,ic]/\Y6/\ ∀(x:Unit),True->Rs (ZV (0+((↑n:Int) - 0).tdiv 4*2))/\Y6/\E6 63 z zn (Rs (TP [ZV (0+((↑n:Int) - 0).tdiv 4*2),I 1])/\Q (TP [ZV (0+((↑n:Int) - 0).tdiv 4*2),I 1]) [] 1 z zn)) (aT prog z zn 132 [eJ kk n,ZV (0+((↑n:Int) - 0).tdiv 4*1),ZV (0+((↑n:Int) - 0).tdiv 4*2),ZV (0+((↑n:Int) - 0).tdiv 4*3),Yi,ic] Y7 1 1 Yx (fun(x:Unit)=>ZV (0+((↑n:Int) - 0).tdiv 4*2)) sF/\Rs [eJ kk n,ZV (0+((↑n:Int) - 0).tdiv 4*1),ZV (0+((↑n:Int) - 0).tdiv 4*2),ZV (0+((↑n:Int) - 0).tdiv 4*3),Yi,ic]/\Y6/\ ∀(x:Unit),True->Rs (ZV (0+((↑n:Int) - 0).tdiv 4*2))/\Y6/\E6 63 z zn (Rs (TP [ZV (0+((↑n:Int) - 0).tdiv 4*2),I 1])/\Q (TP [ZV (0+((↑n:Int) - 0).tdiv 4*2),I 1]) [] 1 z zn))):ed prog gS z f117 [tb kk n n,YM,iv n,iT] z [] 0 zn Q:=K1t hyp (tO (An.val (ZV ((↑n:Int) - 0))) (tO (An.val (ZV (((↑n:Int) - 0).tdiv 4))) (tO (An.val (ZV (((↑n:Int) - 0).tdiv 4*1))) (tO (An.val (ZV (0+((↑n:Int) - 0).tdiv 4*1))) (tO (An.val (ZV (((↑n:Int) - 0).tdiv 4))) (tO (An.val (ZV (((↑n:Int) - 0).tdiv 4*2))) (tO (An.val (ZV (0+((↑n:Int) - 0).tdiv 4*2))) (tO (An.val (ZV (((↑n:Int) - 0).tdiv 4))) (tO
 (An.val (ZV (((↑n:Int) - 0).tdiv 4*3))) (tO (An.val (ZV (0+((↑n:Int) - 0).tdiv 4*3))) (tO Sf (tA 1 ((tA 1 (Tr.cm (Cm.mk [eJ kk n,ZV (0+((↑n:Int) - 0).tdiv 4*1),Yi,ic] Y7 1 1 YC YC 1) Unit Yx (fun(x:Unit)=>ZV (0+((↑n:Int) - 0).tdiv 4*1)) sF (fun(x:Unit)=>ZV (0+((↑n:Int) - 0).tdiv 4*1)) sF (fZ z) (fY zn) fun(x:Unit)=>Tr.cm (Cm.mk [eJ kk n,ZV (0+((↑n:Int) - 0).tdiv 4*2),Yi,ic] Y7 1 1 YC YC 1) Unit Yx (fun(x:Unit)=>ZV (0+((↑n:Int) - 0).tdiv 4*2)) sF (fun(x:Unit)=>ZV (0+((↑n:Int) - 0).tdiv 4*2)) sF (fZ z) (fY zn) fun(x:Unit)=>Tr.cm (Cm.mk [eJ kk n,ZV (0+((↑n:Int) - 0).tdiv 4*3),Yi,ic] Y7 1 1 YC YC 1) Unit Yx (fun(x:Unit)=>ZV (0+((↑n:Int) - 0).tdiv 4*3)) sF (fun(x:Unit)=>ZV (0+((↑n:Int) - 0).tdiv 4*3)) sF (fZ z) (fY zn) fun(x:Unit)=>Tr.cm (Cm.mk [eJ kk n,ZV (0+((↑n:Int) - 0).tdiv 4*1),ZV (0+((↑n:Int) - 0).tdiv 4*2),ZV (0+((↑n:Int) - 0).tdiv 4*3),Yi,ic] Y7 1 1 YC YC 1) Unit Yx (fun(x:Unit)=>ZV (0+((↑n:Int) - 0).tdiv 4*2)) sF (fun(x:Unit)=>ZV (0+((↑n:Int) - 0).tdiv 4*2)) sF (fZ z) (fY zn) fun(x:Unit)=>tA 3 (tR [] [] (TP [ZV (0+((↑n:Int) - 0).tdiv 4*2),I 1]) [] 1 z zn))).fork (tA 1 (Tr.cm (Cm.mk [eJ kk n,ZV (0+((↑n:Int) - 0).tdiv 4*1),ZV (0+((↑n:Int) - 0).tdiv 4*2),ZV (0+((↑n:Int) - 0).tdiv 4*3),Yi,ic] Y7 1 1 YC YC 1) Unit Yx (fun(x:Unit)=>ZV (0+((↑n:Int) - 0).tdiv 4*2)) sF (fun(x:Unit)=>ZV (0+((↑n:Int) - 0).tdiv 4*2)) sF (fZ z) (fY zn) fun(x:Unit)=>tA 3 (tR [] [] (TP [ZV (0+((↑n:Int) - 0).tdiv 4*2),I 1]) [] 1 z zn))))))))))))))))
end
noncomputable section
abbrev ja:af:=af.exit 2
abbrev V0(kk n i:Nat):List (Nat × Value):=[(0,eJ kk n),(1,YM),(2,IV n),(3,ic),(8,IV i)]
noncomputable abbrev Se:Code:=ah (ag f114) 0
theorem ji1(z:T aa)(zn kk n i j:Nat)(kb:ba)(x y:ae)(Q:QL)(hyp:Br (decide ((↑(j+1):Int)>0)) (Rf (↑(j+1):Int)/\j+1<n/\Y0 kk/\Y2 z kk kb/\aE prog kb 134 (0+(j+1)*4)=some (Y3 y)/\WQ1 ((↑(j+1):Int) - 1)/\(↑(j+1):Int) - 1=(↑j:Int)/\j<n/\Y0 kk/\Y2 z kk kb/\Y4 kb j x/\Rf z/\Y5 y x/\Value.bool (decide (qS y.fz1 y.aq y.aK x.fz1 x.aq x.aK<0))=F0/\E6 53 z zn (R5 (eJ kk n) YM (IV n) ic (IV i) (Q ja (V0 kk n i) [] 0 z zn))) (E6 53 z zn (R5 (eJ kk n) YM (IV n) ic (IV i) (Q ja (V0 kk n i) [] 0 z zn)))):ew prog gS z (ah Se 0) 53 (Fh (tb kk n n) n i (j+1)) z [] 0 zn 0 Q:=K1t hyp ((tA 4 (tO (An.idx (j+1)) (tA 1 (tO (An.ld kk kb (AG y.row)) (tA 3 (tO (An.val (ZV ((↑(j+1):Int) - 1))) (tA 1 (tO (Y9 j) (tA 1 (tO (An.ld kk kb (AG x.row)) (tA 1 (tO (Zl y x) (tA 1 (tO GP (tA 2 (tE [] [] (V0 kk n i) [] 0 z zn)))))))))))))))).fork (tA 14 (tE [] [] (V0 kk n i) [] 0 z zn)))
abbrev r9:Prop:=Rf 0
abbrev Gk(i:Nat):Nat × Value:=(8,IV (i+1))
noncomputable abbrev dS(i:Nat):An:=An.val (IV (i+1))
noncomputable abbrev Q5(z:T aa)(zn:Nat):Tr:=tA 1 (tE [] [] [] [] 0 z zn)
theorem ji0(z:T aa)(zn kk n i:Nat)(Q:QL)(hyp:Br (decide ((↑i:Int)<(↑n:Int))) (r9/\ai prog (ah Se 0) 0 53 (Fh (tb kk n n) n i i) [] 0 z zn (alt True (ax.mk ja (pQ (tb kk n n) n i) [] 0 z zn) Al.nil).R/\E6 53 z zn (R6 (eJ kk n) YM (IV n) ic (IV i) (IV i) (∀(x:Unit),True->ZV (IntKind.i64.wrap ((↑i:Int)+1))=IV (i+1)/\E6 53 z zn (R5 (eJ kk n) YM (IV n) ic (IV (i+1)) (Q aN [(0,eJ kk n),(1,YM),(2,IV n),(3,ic),Gk i] [] 0 z zn))))) (E6 53 z zn (Q YO [] [] 0 z zn))):ew prog gS z Se 53 (pQ (tb kk n n) n i) z [] 0 zn 0 Q:=K1t hyp ((tA 1 (Tr.lp 0 53 [] [] (Fh (tb kk n n) n i i) [] 0 z zn (Al.cons Unit Yx (fun(x:Unit)=>ax.mk ja (pQ (tb kk n n) n i) [] 0 z zn) (fun(x:Unit)=>tO (dS i) (tE [] [] [(0,eJ kk n),(1,YM),(2,IV n),(3,ic),Gk i] [] 0 z zn)) Al.nil))).fork (Q5 z zn))
theorem Xd(z:T aa)(zn:Nat)(Q:QL)(hyp:E6 53 z zn (Q YO [] [] 0 z zn)):ew prog gS z Se 53 (pQ az 0 1) z [] 0 zn 0 Q:=K1t hyp (tA 2 (tE [] [] [] [] 0 z zn))
noncomputable abbrev VZ(z:T aa)(zn:Nat):ax->Prop:=(alt True (ax.mk YO [] [] 0 z zn) Al.nil).R
abbrev nX:Value:=TP []
abbrev mA:Prop:=Rs nX
noncomputable abbrev Q4(z:T aa)(zn:Nat):Unit->ax:=fun(x:Unit)=>ax.mk YO [] [] 0 z zn
noncomputable abbrev Us(z:T aa)(zn:Nat):Unit->Tr:=fun(x:Unit)=>tR [] [] nX [] 0 z zn
theorem ji(z:T aa)(zn kk n:Nat)(Q:QF)(hyp:r9/\ai prog Se 0 53 (pQ (tb kk n n) n 1) [] 0 z zn (VZ z zn)/\E6 53 z zn (R5 (eJ kk n) YM (IV n) ic (I 1) (∀(x:Unit),True->E6 53 z zn (mA/\Q nX [] 0 z zn)))):ed prog gS z f114 [tb kk n n,YM,iv n,iT] z [] 0 zn Q:=K1t hyp (tA 1 (Tr.lp 0 53 [] [] (pQ (tb kk n n) n 1) [] 0 z zn (Al.cons Unit Yx (Q4 z zn) (Us z zn) Al.nil)))
theorem jiz(z:T aa)(zn:Nat)(Q:QF)(hyp:r9/\ai prog Se 0 53 (pQ az 0 1) [] 0 z zn (VZ z zn)/\E6 53 z zn (R5 Yk YM YM ic (I 1) (∀(x:Unit),True->E6 53 z zn (mA/\Q nX [] 0 z zn)))):ed prog gS z f114 [az,YM,iv 0,iT] z [] 0 zn Q:=K1t hyp (tA 1 (Tr.lp 0 53 [] [] (pQ az 0 1) [] 0 z zn (Al.cons Unit Yx (Q4 z zn) (Us z zn) Al.nil)))
abbrev Gj(i:Nat):Nat × Value:=(9,IV (i+1))
noncomputable abbrev VY:Code:=ah (ag f119) 0
theorem ZZ(z:T aa)(zn kk n i:Nat)(kb:ba)(x y:ae)(Q:QL)(hyp:Br (decide ((↑(i+1):Int)<(↑n:Int))) (Rf (↑(i+1):Int)/\i+1<n/\Y0 kk/\Y2 z kk kb/\aE prog kb 134 (0+(i+1)*4)=some (Y3 y)/\WQ1 ((↑(i+1):Int) - 1)/\(↑(i+1):Int) - 1=(↑i:Int)/\i<n/\Y0 kk/\Y2 z kk kb/\Y4 kb i x/\Rf z/\Y5 y x/\Value.bool (decide (qS y.fz1 y.aq y.aK x.fz1 x.aq x.aK<0))=F0/\ZV (IntKind.i64.wrap ((↑(i+1):Int)+1))=IV (i+1+1)/\E6 141 z zn (R6 (eJ kk n) YM (IV n) ic (IV (i+1+1)) YM (Q aN [(0,eJ kk n),(1,YM),(2,IV n),(3,ic),(9,IV (i+1+1)),(10,YM)] [] 0 z zn))) (E6 141 z zn (R6 (eJ kk n) YM (IV n) ic (IV (i+1)) YM (Q ja [(0,eJ kk n),(1,YM),(2,IV n),(3,ic),Gj i,(10,YM)] [] 0 z zn)))):ew prog gS z (ah VY 0) 141 (jL kk n (i+1) 0) z [] 0 zn 0 Q:=K1t hyp ((tA 4 (tO (An.idx (i+1)) (tA 1 (tO (An.ld kk kb (AG y.row)) (tA 3 (tO (An.val (ZV ((↑(i+1):Int) - 1))) (tA 1 (tO (Y9 i) (tA 1 (tO (An.ld kk kb (AG x.row)) (tA 1 (tO (Zl y x) (tA 1 (tO GP (tA 3 (tO (An.val (IV (i+1+1))) (tE [] [] [(0,eJ kk n),(1,YM),(2,IV n),(3,ic),(9,IV (i+1+1)),(10,YM)] [] 0 z zn))))))))))))))))).fork (tA 15 (tE [] [] [(0,eJ kk n),(1,YM),(2,IV n),(3,ic),Gj i,(10,YM)] [] 0 z zn)))
theorem jq0(z:T aa)(zn kk n:Nat)(Q:QL)(hyp:r9/\ai prog (ah VY 0) 0 141 (jL kk n 1 0) [] 0 z zn (alt True (ax.mk ja (jL kk n n 0) [] 0 z zn) Al.nil).R/\E6 141 z zn (R6 (eJ kk n) YM (IV n) ic (I 1) YM (∀(x:Unit),True->Value.bool ((↑n:Int)==(↑n:Int))=T1/\E6 141 z zn (YA/\Q af.ret [(8,T1)] [] 0 z zn)))):ew prog gS z VY 141 (jL kk n 1 0) z [] 0 zn 0 Q:=K1t hyp (tA 2 (Tr.lp 0 141 [] [] (jL kk n 1 0) [] 0 z zn (Al.cons Unit Yx (fun(x:Unit)=>ax.mk ja (jL kk n n 0) [] 0 z zn) (fun(x:Unit)=>tO Sf (tA 1 (tE [] [] [(8,T1)] [] 0 z zn))) Al.nil)))
theorem jq(z:T aa)(zn kk n:Nat)(Q:QF)(hyp:r9/\ai prog VY 0 141 (jL kk n 1 0) [] 0 z zn (alt True (ax.mk af.ret [(8,T1)] [] 0 z zn) Al.nil).R/\E6 141 z zn (R6 (eJ kk n) YM (IV n) ic (I 1) YM (∀(x:Unit),True->E6 141 z zn (YA/\Q T1 [] 0 z zn)))):ed prog gS z f119 [tb kk n n,YM,iv n,iT] z [] 0 zn Q:=K1t hyp (tA 1 (Tr.lp 0 141 [] [] (jL kk n 1 0) [] 0 z zn (Al.cons Unit Yx (fun(x:Unit)=>ax.mk af.ret [(8,T1)] [] 0 z zn) (fun(x:Unit)=>tR [] [] T1 [] 0 z zn) Al.nil)))
abbrev Nu(kk n:Nat):List Value:=[eJ kk n,YM,IV n,ic]
abbrev mz:Unit->Value:=fun(x:Unit)=>nX
abbrev db:Unit->List (Nat × aa):=fun(x:Unit)=>[]
noncomputable abbrev VX:Code:=ah (ag f105) 0
theorem jp0(z:T aa)(zn kk n l p:Nat)(Q:QL)(hyp:WQ1 ((↑n:Int) - 0)/\Br (decide ((↑n:Int) - 0<=12)) (aT prog z zn 114 (Nu kk n) [] 0 0 Yx mz db/\Rs (Nu kk n)/\ ∀(x:Unit),True->mA/\E6 148 z zn (Q af.ret [] [] 0 z zn)) (Value.bool ((↑l:Int)==0)=F0/\aT prog z zn 117 (Nu kk n) [] 0 1 Yx (fun(x:Unit)=>TP [iv p,I 1]) db/\Rs (Nu kk n)/\ ∀(x:Unit),True->Rs (TP [IV p,I 1])/\aT prog z zn 119 (Nu kk n) [] 0 0 Yx (fun(x:Unit)=>T1) db/\Rs (Nu kk n)/\ ∀(x:Unit),True->YA/\E6 148 z zn (Q af.ret [] [] 0 z zn))):ew prog gS z VX 148 (uw (tb kk n n) n l) z [] 0 zn 0 Q:=K1t hyp (tO (An.val (ZV ((↑n:Int) - 0))) ((tA 1 (Tr.cm (Cm.mk (Nu kk n) [] 0 0 [] [] 0) Unit Yx mz db mz db (fZ z) (fY zn) fun(x:Unit)=>tE [] [] [] [] 0 z zn)).fork (tA 1 (tO GP (tA 2 (Tr.cm (Cm.mk (Nu kk n) [] 0 1 [] YC 1) Unit Yx (fun(x:Unit)=>TP [iv p,I 1]) db (fun(x:Unit)=>TP [IV p,I 1]) db (fZ z) (fY zn) fun(x:Unit)=>tA 9 (Tr.cm (Cm.mk (Nu kk n) [] 0 0 [] [] 1) Unit Yx (fun(x:Unit)=>T1) db (fun(x:Unit)=>T1) db (fZ z) (fY zn) fun(x:Unit)=>Q5 z zn)))))))
theorem Xa(z:T aa)(zn l:Nat)(Q:QL)(hyp:aT prog z zn 114 [Yk,YM,YM,ic] [] 0 0 Yx mz db/\Rs [Yk,YM,YM,ic]/\ ∀(x:Unit),True->mA/\E6 148 z zn (Q af.ret [] [] 0 z zn)):ew prog gS z VX 148 (uw az 0 l) z [] 0 zn 0 Q:=K1t hyp (tA 3 (Tr.cm (Cm.mk [Yk,YM,YM,ic] [] 0 0 [] [] 0) Unit Yx mz db mz db (fZ z) (fY zn) fun(x:Unit)=>tE [] [] [] [] 0 z zn))
noncomputable abbrev YBe(z:T aa)(zn:Nat):Al:=Al.cons Unit Yx (fun(x:Unit)=>ax.mk af.ret [] [] 0 z zn) (Us z zn) Al.nil
theorem jp(z:T aa)(zn n l kk:Nat)(Q:QF)(hyp:r9/\ai prog VX 0 148 (uw (tb kk n n) n l) [] 0 z zn (alt True (ax.mk af.ret [] [] 0 z zn) Al.nil).R/\E6 148 z zn (R7 (eJ kk n) YM (IV n) (IV l) ic T1 T1 (∀(x:Unit),True->E6 148 z zn (mA/\Q nX [] 0 z zn)))):ed prog gS z f105 [tb kk n n,YM,iv n,iv l,iT] z [] 0 zn Q:=K1t hyp (Tr.lp 0 148 [] [] (uw (tb kk n n) n l) [] 0 z zn (YBe z zn))
theorem jpz(z:T aa)(zn l:Nat)(Q:QF)(hyp:r9/\ai prog VX 0 148 (uw az 0 l) [] 0 z zn (alt True (ax.mk af.ret [] [] 0 z zn) Al.nil).R/\E6 148 z zn (R7 Yk YM YM (IV l) ic T1 T1 (∀(x:Unit),True->E6 148 z zn (mA/\Q nX [] 0 z zn)))):ed prog gS z f105 [az,YM,iv 0,iv l,iT] z [] 0 zn Q:=K1t hyp (Tr.lp 0 148 [] [] (uw az 0 l) [] 0 z zn (YBe z zn))
abbrev Zi(n:Nat):List Value:=[Value.int IntKind.u64 (IntKind.u64.wrap (↑n:Int))]
abbrev Sd(l:Nat):Unit->Value:=fun(x:Unit)=>iv l
theorem js(z:T aa)(zn kk n l:Nat)(Q:QF)(hyp:aT prog z zn 106 (Zi n) [] 0 0 Yx (Sd l) db/\Rs (Zi n)/\ ∀(x:Unit),True->Rs (IV l)/\aT prog z zn 105 [eJ kk n,YM,IV n,IV l,ic] [] 0 0 Yx mz db/\Rs [eJ kk n,YM,IV n,IV l,ic]/\ ∀(x:Unit),True->mA/\E6 14 z zn (mA/\Q nX [] 0 z zn)):ed prog gS z f92 [tb kk n n,iT] z [] 0 zn Q:=K1t hyp (Tr.cm (Cm.mk (Zi n) [] 0 0 [] [] 0) Unit Yx (Sd l) db (fun(x:Unit)=>IV l) db (fZ z) (fY zn) fun(x:Unit)=>Tr.cm (Cm.mk [eJ kk n,YM,IV n,IV l,ic] [] 0 0 [] [] 0) Unit Yx mz db mz db (fZ z) (fY zn) (Us z zn))
abbrev Zh:List Value:=[Value.int IntKind.u64 0]
theorem jsz(z:T aa)(zn l:Nat)(Q:QF)(hyp:aT prog z zn 106 Zh [] 0 0 Yx (Sd l) db/\Rs Zh/\ ∀(x:Unit),True->Rs (IV l)/\aT prog z zn 105 [Yk,YM,YM,IV l,ic] [] 0 0 Yx mz db/\Rs [Yk,YM,YM,IV l,ic]/\ ∀(x:Unit),True->mA/\E6 14 z zn (mA/\Q nX [] 0 z zn)):ed prog gS z f92 [az,iT] z [] 0 zn Q:=K1t hyp (Tr.cm (Cm.mk Zh [] 0 0 [] [] 0) Unit Yx (Sd l) db (fun(x:Unit)=>IV l) db (fZ z) (fY zn) fun(x:Unit)=>Tr.cm (Cm.mk [Yk,YM,YM,IV l,ic] [] 0 0 [] [] 0) Unit Yx mz db mz db (fZ z) (fY zn) (Us z zn))
end
noncomputable section
abbrev GO:Unit->Value:=fun(x:Unit)=>F0
abbrev Ki:Prop:=Rs YM
abbrev GN:Nat->List Value->Option Value:=fun(x:Nat)(x_1:List Value)=>none
theorem Xe(z:T aa)(zn:Nat)(a b:Int)(Q:QF)(hyp:aT prog z zn 107 [ZV a] [] 0 0 Yx GO db/\Rs [ZV a]/\ ∀(x:Unit),True->YQ/\aT prog z zn 107 [ZV b] [] 0 0 Yx GO db/\Rs [ZV b]/\ ∀(x:Unit),True->YQ/\Br (decide (a<b)) (E6 20 z zn (Rs (J 0)/\Q (J 0) [] 0 z zn)) (Br (decide (a>b)) (E6 20 z zn (Rs (I 1)/\Q (I 1) [] 0 z zn)) (E6 20 z zn (Ki/\Q YM [] 0 z zn)))):ed prog GN z f95 [zv a,zv b] z [] 0 zn Q:=K1t hyp (Tr.cm (Cm.mk [ZV a] [] 0 0 [] [] 0) Unit Yx GO db GO db (fZ z) (fY zn) fun(x:Unit)=>Tr.cm (Cm.mk [ZV b] [] 0 0 [] [] 0) Unit Yx GO db GO db (fZ z) (fY zn) fun(x:Unit)=>tA 2 ((tA 1 (tR [] [] (J 0) [] 0 z zn)).fork (tA 1 ((tA 1 (tR [] [] (I 1) [] 0 z zn)).fork (tA 1 (tR [] [] YM [] 0 z zn))))))
noncomputable abbrev GM(z:T aa)(zn:Nat):Tr:=tR [] [] F0 [] 0 z zn
theorem Xc(z:T aa)(zn:Nat)(a:Int)(Q:QF)(hyp:Br (a !=a) (E6 6 z zn (YA/\Q T1 [] 0 z zn)) (E6 6 z zn (YQ/\Q F0 [] 0 z zn))):ed prog GN z f107 [zv a] z [] 0 zn Q:=K1t hyp ((tR [] [] T1 [] 0 z zn).fork (GM z zn))
abbrev KN:Prop:=Rf 510
abbrev KM(z:T aa)(kb:ba):Prop:=z.get 0=some (Y1 kb)
abbrev ou(kb:ba)(i:Nat)(x:Int):Prop:=aE prog kb 3 (0+i*1)=some (ZV x)
theorem Xb(z:T aa)(zn i:Nat)(kb:ba)(x r:Int)(Q:QL)(hyp:Br (decide ((↑i:Int)<3)) (Yz i/\i<3/\KN/\KM z kb/\ou kb i x/\Br (x !=0) (E6 18 z zn (Rs (ZV x)/\Q af.ret [(2,ZV x)] [] 0 z zn)) (ZV (IntKind.i64.wrap ((↑i:Int)+1))=IV (i+1)/\E6 18 z zn (R4 YM (SL 510 3 3) (I 3) (IV (i+1)) (Q aN [(3,YM),(6,SL 510 3 3),(7,I 3),Gk i] [] 0 z zn)))) (E6 18 z zn (Ki/\Q YO [(3,YM)] [] 0 z zn))):ew prog GN z (ah (ag f94) 0) 18 (Fb i) z [] 0 zn 0 Q:=K1t hyp ((tA 1 (tO (Y9 i) (tO (An.ld 0 kb (zv x)) ((tA 1 (tE [] [] [(2,ZV x)] [] 0 z zn)).fork (tA 1 (tO (dS i) (tE [] [] [(3,YM),(6,SL 510 3 3),(7,I 3),Gk i] [] 0 z zn))))))).fork (tA 1 (tE [] [] [(3,YM)] [] 0 z zn)))
abbrev Ur(r:Int):Unit->Prop:=fun(x:Unit)=>r≠0
abbrev Uq(r:Int):Unit->Prop:=fun(x:Unit)=>r=0
noncomputable abbrev VW(z:T aa)(zn:Nat):Unit->Tr:=fun(x:Unit)=>tR [] [] YM [] 0 z zn
theorem jor(z:T aa)(zn:Nat)(r:Int)(Q:QF)(hyp:r9/\ai prog (ah (ag f94) 0) 0 18 (Fb 0) [] 0 z zn (alt (r≠0) (ax.mk af.ret [(2,zv r)] [] 0 z zn) (alt (r=0) (ax.mk YO [(3,YM)] [] 0 z zn) Al.nil)).R/\E6 18 z zn (R4 YM (SL 510 3 3) (I 3) YM ((∀(x:Unit),r≠0->E6 18 z zn (Rs (ZV r)/\Q (ZV r) [] 0 z zn))/\ ∀(x:Unit),r=0->E6 18 z zn (Ki/\Q YM [] 0 z zn)))):ed prog GN z f94 [tb 0 3 3] z [] 0 zn Q:=K1t hyp (Tr.lp 0 18 [] [] (Fb 0) [] 0 z zn (Al.cons Unit (Ur r) (fun(x:Unit)=>ax.mk af.ret [(2,zv r)] [] 0 z zn) (fun(x:Unit)=>tR [] [] (ZV r) [] 0 z zn) (Al.cons Unit (Uq r) (fun(x:Unit)=>ax.mk YO [(3,YM)] [] 0 z zn) (VW z zn) Al.nil)))
end
noncomputable section
noncomputable abbrev Zg(z:T aa)(zn:Nat):Tr:=(tA 3 ((tA 1 (tR [] [] T1 [] 0 z zn)).fork (tA 1 (GM z zn)))).fork (tA 4 (GM z zn))
theorem gwi(z:T aa)(zn:Nat)(a b:Int)(Q:QF)(hyp:Br (decide (a>=0)) (Br (decide (a<b)) (E6 12 z zn (YA/\Q T1 [] 0 z zn)) (E6 12 z zn (YQ/\Q F0 [] 0 z zn))) (E6 12 z zn (YQ/\Q F0 [] 0 z zn))):ed prog GN z f61 [zv a,zv b] z [] 0 zn Q:=K1t hyp (Zg z zn)
theorem gin(z:T aa)(zn:Nat)(n a b:Int)(Q:QF)(hyp:Br (decide (n>=a)) (Br (decide (n<=b)) (E6 15 z zn (YA/\Q T1 [] 0 z zn)) (E6 15 z zn (YQ/\Q F0 [] 0 z zn))) (E6 15 z zn (YQ/\Q F0 [] 0 z zn))):ed prog GN z f82 [zv n,zv a,zv b] z [] 0 zn Q:=K1t hyp (Zg z zn)
theorem gpw(z:T aa)(zn:Nat)(n a b:Int)(Q:QF)(hyp:Br (decide (n>=a)) (Br (decide (n<=b)) (E6 15 z zn (YA/\Q T1 [] 0 z zn)) (E6 15 z zn (YQ/\Q F0 [] 0 z zn))) (E6 15 z zn (YQ/\Q F0 [] 0 z zn))):ed prog GN z f63 [zv n,zv a,zv b] z [] 0 zn Q:=K1t hyp (Zg z zn)
theorem gkn(z:T aa)(zn:Nat)(n:Int)(Q:QF)(hyp:Br (decide (n>=0)) (Br (decide (n<8)) (E6 9 z zn (YA/\Q T1 [] 0 z zn)) (E6 9 z zn (YQ/\Q F0 [] 0 z zn))) (E6 9 z zn (YQ/\Q F0 [] 0 z zn))):ed prog GN z f59 [zv n] z [] 0 zn Q:=K1t hyp ((tA 2 ((tA 1 (tR [] [] T1 [] 0 z zn)).fork (tA 1 (GM z zn)))).fork (tA 3 (GM z zn)))
abbrev vu(a b c:Int):Value:=AG [ZV a,ZV b,ZV c]
theorem gof(z:T aa)(zn:Nat)(a b c:Int)(Q:QF)(hyp:E6 11 z zn (Rs (vu a b c)/\Q (vu a b c) [] 0 z zn)):ed prog GN z f44 [zv a,zv b,zv c] z [] 0 zn Q:=K1t hyp (tA 1 (tR [] [] (vu a b c) [] 0 z zn))
end
end Go.Proofs.Nw
namespace Go.Proofs.Nw
open Go.RowKit Tryz
set_option maxRecDepth 1000000
theorem D6(s:ByteArray)(k:Nat)(h:k<s.size):(s.data.toList.drop k).all mh=(mh (s[k]'h) && (s.data.toList.drop (k+1)).all mh):=by
 have e:s.data.toList.drop k=(s[k]'h)::s.data.toList.drop (k+1):=by rw[List.drop_eq_getElem_cons (by simpa using h)];rfl
 rw[e];rfl
theorem IW(s:ByteArray)(k:Nat)(h:s.size<=k):(s.data.toList.drop k).all mh=true:=by
 rw[List.drop_of_length_le (by simpa using h)];rfl
theorem fN(c:UInt8):mh c=true↔((97<=c.toNat/\c.toNat<=122)\/(65<=c.toNat/\c.toNat<=90)\/(48<=c.toNat/\c.toNat<=57)\/c.toNat=45\/c.toNat=95\/c.toNat=46):=by
 simp[mh,or_assoc]
theorem dh(c:UInt8):mh c=false↔ ¬((97<=c.toNat/\c.toNat<=122)\/(65<=c.toNat/\c.toNat<=90)\/(48<=c.toNat/\c.toNat<=57)\/c.toNat=45\/c.toNat=95\/c.toNat=46):=by
 rw[←fN];simp
set_option maxHeartbeats 8000000 in
theorem GX(s:ByteArray)(w:World)(hs:s.size<=9223372036854775807):Calls prog 50 #[.string s] w fun e w'=>e= .returned (.bool (bK s))/\w=w':=by
 go_enter func50,ntmps50
 go_wp2
 go_loop [3] (fun i=> ∃k:Nat,k<=s.size/\i= .int .i64 k/\(s.data.toList.drop k).all mh=s.data.toList.all mh) (fun i=>s.size - (intOf i).toNat)
 case atStart=>exact⟨0,Nat.zero_le _,rfl,rfl⟩
 case round=>
  obtain⟨k,hk,rfl,hv⟩:=hrel
  have HV:=Lib.hid hv
  clear hv
  by_cases hlt:k<s.size
  ·have HD:=Lib.hid (D6 s k hlt)
   have hb:(s[k]'hlt).toNat<256:=(s[k]'hlt).toNat_lt
   have hcat:(0<=(s[k]'hlt).toNat/\(s[k]'hlt).toNat<=44)\/(45<=(s[k]'hlt).toNat/\(s[k]'hlt).toNat<=45)\/(46<=(s[k]'hlt).toNat/\(s[k]'hlt).toNat<=46)\/(47<=(s[k]'hlt).toNat/\(s[k]'hlt).toNat<=47)\/(48<=(s[k]'hlt).toNat/\(s[k]'hlt).toNat<=57)\/(58<=(s[k]'hlt).toNat/\(s[k]'hlt).toNat<=64)\/(65<=(s[k]'hlt).toNat/\(s[k]'hlt).toNat<=90)\/(91<=(s[k]'hlt).toNat/\(s[k]'hlt).toNat<=94)\/(95<=(s[k]'hlt).toNat/\(s[k]'hlt).toNat<=95)\/(96<=(s[k]'hlt).toNat/\(s[k]'hlt).toNat<=96)\/(97<=(s[k]'hlt).toNat/\(s[k]'hlt).toNat<=122)\/(123<=(s[k]'hlt).toNat/\(s[k]'hlt).toNat<=255):=by omega
   rcases hcat with hcat|hcat|hcat|hcat|hcat|hcat|hcat|hcat|hcat|hcat|hcat|hcat
   ·have x0: ¬97<=(s[k]'hlt).toNat:=by omega
    have y0: ¬(97:Int)<=(((s[k]'hlt).toNat:Nat):Int):=by omega
    have x1: ¬65<=(s[k]'hlt).toNat:=by omega
    have y1: ¬(65:Int)<=(((s[k]'hlt).toNat:Nat):Int):=by omega
    have x2: ¬48<=(s[k]'hlt).toNat:=by omega
    have y2: ¬(48:Int)<=(((s[k]'hlt).toNat:Nat):Int):=by omega
    have e45: ¬(s[k]'hlt).toNat=45:=by omega
    have f45: ¬(((s[k]'hlt).toNat:Nat):Int)=45:=by omega
    have e95: ¬(s[k]'hlt).toNat=95:=by omega
    have f95: ¬(((s[k]'hlt).toNat:Nat):Int)=95:=by omega
    have e46: ¬(s[k]'hlt).toNat=46:=by omega
    have f46: ¬(((s[k]'hlt).toNat:Nat):Int)=46:=by omega
    have OK:=Lib.hid (show mh (s[k]'hlt)=false by rw[dh];omega)
    have HR:=Lib.hid (show bK s=false by unfold bK;rw[←HV.out,HD.out,OK.out];simp)
    go_wp2
    go_ret
    exact⟨by rw[HR.out];rfl,rfl⟩
   ·have x0: ¬97<=(s[k]'hlt).toNat:=by omega
    have y0: ¬(97:Int)<=(((s[k]'hlt).toNat:Nat):Int):=by omega
    have x1: ¬65<=(s[k]'hlt).toNat:=by omega
    have y1: ¬(65:Int)<=(((s[k]'hlt).toNat:Nat):Int):=by omega
    have x2: ¬48<=(s[k]'hlt).toNat:=by omega
    have y2: ¬(48:Int)<=(((s[k]'hlt).toNat:Nat):Int):=by omega
    have e45:(s[k]'hlt).toNat=45:=by omega
    have f45:(((s[k]'hlt).toNat:Nat):Int)=45:=by omega
    have e95: ¬(s[k]'hlt).toNat=95:=by omega
    have f95: ¬(((s[k]'hlt).toNat:Nat):Int)=95:=by omega
    have e46: ¬(s[k]'hlt).toNat=46:=by omega
    have f46: ¬(((s[k]'hlt).toNat:Nat):Int)=46:=by omega
    have OK:=Lib.hid (show mh (s[k]'hlt)=true by rw[fN];omega)
    go_wp2
    exact⟨⟨k+1,by omega,by simp,by rw[←HV.out,HD.out,OK.out,Bool.true_and]⟩,by simp[intOf];omega⟩
   ·have x0: ¬97<=(s[k]'hlt).toNat:=by omega
    have y0: ¬(97:Int)<=(((s[k]'hlt).toNat:Nat):Int):=by omega
    have x1: ¬65<=(s[k]'hlt).toNat:=by omega
    have y1: ¬(65:Int)<=(((s[k]'hlt).toNat:Nat):Int):=by omega
    have x2: ¬48<=(s[k]'hlt).toNat:=by omega
    have y2: ¬(48:Int)<=(((s[k]'hlt).toNat:Nat):Int):=by omega
    have e45: ¬(s[k]'hlt).toNat=45:=by omega
    have f45: ¬(((s[k]'hlt).toNat:Nat):Int)=45:=by omega
    have e95: ¬(s[k]'hlt).toNat=95:=by omega
    have f95: ¬(((s[k]'hlt).toNat:Nat):Int)=95:=by omega
    have e46:(s[k]'hlt).toNat=46:=by omega
    have f46:(((s[k]'hlt).toNat:Nat):Int)=46:=by omega
    have OK:=Lib.hid (show mh (s[k]'hlt)=true by rw[fN];omega)
    go_wp2
    exact⟨⟨k+1,by omega,by simp,by rw[←HV.out,HD.out,OK.out,Bool.true_and]⟩,by simp[intOf];omega⟩
   ·have x0: ¬97<=(s[k]'hlt).toNat:=by omega
    have y0: ¬(97:Int)<=(((s[k]'hlt).toNat:Nat):Int):=by omega
    have x1: ¬65<=(s[k]'hlt).toNat:=by omega
    have y1: ¬(65:Int)<=(((s[k]'hlt).toNat:Nat):Int):=by omega
    have x2: ¬48<=(s[k]'hlt).toNat:=by omega
    have y2: ¬(48:Int)<=(((s[k]'hlt).toNat:Nat):Int):=by omega
    have e45: ¬(s[k]'hlt).toNat=45:=by omega
    have f45: ¬(((s[k]'hlt).toNat:Nat):Int)=45:=by omega
    have e95: ¬(s[k]'hlt).toNat=95:=by omega
    have f95: ¬(((s[k]'hlt).toNat:Nat):Int)=95:=by omega
    have e46: ¬(s[k]'hlt).toNat=46:=by omega
    have f46: ¬(((s[k]'hlt).toNat:Nat):Int)=46:=by omega
    have OK:=Lib.hid (show mh (s[k]'hlt)=false by rw[dh];omega)
    have HR:=Lib.hid (show bK s=false by unfold bK;rw[←HV.out,HD.out,OK.out];simp)
    go_wp2
    go_ret
    exact⟨by rw[HR.out];rfl,rfl⟩
   ·have x0: ¬97<=(s[k]'hlt).toNat:=by omega
    have y0: ¬(97:Int)<=(((s[k]'hlt).toNat:Nat):Int):=by omega
    have x1: ¬65<=(s[k]'hlt).toNat:=by omega
    have y1: ¬(65:Int)<=(((s[k]'hlt).toNat:Nat):Int):=by omega
    have x2:48<=(s[k]'hlt).toNat:=by omega
    have y2:(48:Int)<=(((s[k]'hlt).toNat:Nat):Int):=by omega
    have x3:(s[k]'hlt).toNat<=57:=by omega
    have y3:(((s[k]'hlt).toNat:Nat):Int)<=(57:Int):=by omega
    have OK:=Lib.hid (show mh (s[k]'hlt)=true by rw[fN];omega)
    go_wp2
    exact⟨⟨k+1,by omega,by simp,by rw[←HV.out,HD.out,OK.out,Bool.true_and]⟩,by simp[intOf];omega⟩
   ·have x0: ¬97<=(s[k]'hlt).toNat:=by omega
    have y0: ¬(97:Int)<=(((s[k]'hlt).toNat:Nat):Int):=by omega
    have x1: ¬65<=(s[k]'hlt).toNat:=by omega
    have y1: ¬(65:Int)<=(((s[k]'hlt).toNat:Nat):Int):=by omega
    have x2:48<=(s[k]'hlt).toNat:=by omega
    have y2:(48:Int)<=(((s[k]'hlt).toNat:Nat):Int):=by omega
    have x3: ¬(s[k]'hlt).toNat<=57:=by omega
    have y3: ¬(((s[k]'hlt).toNat:Nat):Int)<=(57:Int):=by omega
    have e45: ¬(s[k]'hlt).toNat=45:=by omega
    have f45: ¬(((s[k]'hlt).toNat:Nat):Int)=45:=by omega
    have e95: ¬(s[k]'hlt).toNat=95:=by omega
    have f95: ¬(((s[k]'hlt).toNat:Nat):Int)=95:=by omega
    have e46: ¬(s[k]'hlt).toNat=46:=by omega
    have f46: ¬(((s[k]'hlt).toNat:Nat):Int)=46:=by omega
    have OK:=Lib.hid (show mh (s[k]'hlt)=false by rw[dh];omega)
    have HR:=Lib.hid (show bK s=false by unfold bK;rw[←HV.out,HD.out,OK.out];simp)
    go_wp2
    go_ret
    exact⟨by rw[HR.out];rfl,rfl⟩
   ·have x0: ¬97<=(s[k]'hlt).toNat:=by omega
    have y0: ¬(97:Int)<=(((s[k]'hlt).toNat:Nat):Int):=by omega
    have x1:65<=(s[k]'hlt).toNat:=by omega
    have y1:(65:Int)<=(((s[k]'hlt).toNat:Nat):Int):=by omega
    have x2:(s[k]'hlt).toNat<=90:=by omega
    have y2:(((s[k]'hlt).toNat:Nat):Int)<=(90:Int):=by omega
    have OK:=Lib.hid (show mh (s[k]'hlt)=true by rw[fN];omega)
    go_wp2
    exact⟨⟨k+1,by omega,by simp,by rw[←HV.out,HD.out,OK.out,Bool.true_and]⟩,by simp[intOf];omega⟩
   ·have x0: ¬97<=(s[k]'hlt).toNat:=by omega
    have y0: ¬(97:Int)<=(((s[k]'hlt).toNat:Nat):Int):=by omega
    have x1:65<=(s[k]'hlt).toNat:=by omega
    have y1:(65:Int)<=(((s[k]'hlt).toNat:Nat):Int):=by omega
    have x2: ¬(s[k]'hlt).toNat<=90:=by omega
    have y2: ¬(((s[k]'hlt).toNat:Nat):Int)<=(90:Int):=by omega
    have x3:48<=(s[k]'hlt).toNat:=by omega
    have y3:(48:Int)<=(((s[k]'hlt).toNat:Nat):Int):=by omega
    have x4: ¬(s[k]'hlt).toNat<=57:=by omega
    have y4: ¬(((s[k]'hlt).toNat:Nat):Int)<=(57:Int):=by omega
    have e45: ¬(s[k]'hlt).toNat=45:=by omega
    have f45: ¬(((s[k]'hlt).toNat:Nat):Int)=45:=by omega
    have e95: ¬(s[k]'hlt).toNat=95:=by omega
    have f95: ¬(((s[k]'hlt).toNat:Nat):Int)=95:=by omega
    have e46: ¬(s[k]'hlt).toNat=46:=by omega
    have f46: ¬(((s[k]'hlt).toNat:Nat):Int)=46:=by omega
    have OK:=Lib.hid (show mh (s[k]'hlt)=false by rw[dh];omega)
    have HR:=Lib.hid (show bK s=false by unfold bK;rw[←HV.out,HD.out,OK.out];simp)
    go_wp2
    go_ret
    exact⟨by rw[HR.out];rfl,rfl⟩
   ·have x0: ¬97<=(s[k]'hlt).toNat:=by omega
    have y0: ¬(97:Int)<=(((s[k]'hlt).toNat:Nat):Int):=by omega
    have x1:65<=(s[k]'hlt).toNat:=by omega
    have y1:(65:Int)<=(((s[k]'hlt).toNat:Nat):Int):=by omega
    have x2: ¬(s[k]'hlt).toNat<=90:=by omega
    have y2: ¬(((s[k]'hlt).toNat:Nat):Int)<=(90:Int):=by omega
    have x3:48<=(s[k]'hlt).toNat:=by omega
    have y3:(48:Int)<=(((s[k]'hlt).toNat:Nat):Int):=by omega
    have x4: ¬(s[k]'hlt).toNat<=57:=by omega
    have y4: ¬(((s[k]'hlt).toNat:Nat):Int)<=(57:Int):=by omega
    have e45: ¬(s[k]'hlt).toNat=45:=by omega
    have f45: ¬(((s[k]'hlt).toNat:Nat):Int)=45:=by omega
    have e95:(s[k]'hlt).toNat=95:=by omega
    have f95:(((s[k]'hlt).toNat:Nat):Int)=95:=by omega
    have e46: ¬(s[k]'hlt).toNat=46:=by omega
    have f46: ¬(((s[k]'hlt).toNat:Nat):Int)=46:=by omega
    have OK:=Lib.hid (show mh (s[k]'hlt)=true by rw[fN];omega)
    go_wp2
    exact⟨⟨k+1,by omega,by simp,by rw[←HV.out,HD.out,OK.out,Bool.true_and]⟩,by simp[intOf];omega⟩
   ·have x0: ¬97<=(s[k]'hlt).toNat:=by omega
    have y0: ¬(97:Int)<=(((s[k]'hlt).toNat:Nat):Int):=by omega
    have x1:65<=(s[k]'hlt).toNat:=by omega
    have y1:(65:Int)<=(((s[k]'hlt).toNat:Nat):Int):=by omega
    have x2: ¬(s[k]'hlt).toNat<=90:=by omega
    have y2: ¬(((s[k]'hlt).toNat:Nat):Int)<=(90:Int):=by omega
    have x3:48<=(s[k]'hlt).toNat:=by omega
    have y3:(48:Int)<=(((s[k]'hlt).toNat:Nat):Int):=by omega
    have x4: ¬(s[k]'hlt).toNat<=57:=by omega
    have y4: ¬(((s[k]'hlt).toNat:Nat):Int)<=(57:Int):=by omega
    have e45: ¬(s[k]'hlt).toNat=45:=by omega
    have f45: ¬(((s[k]'hlt).toNat:Nat):Int)=45:=by omega
    have e95: ¬(s[k]'hlt).toNat=95:=by omega
    have f95: ¬(((s[k]'hlt).toNat:Nat):Int)=95:=by omega
    have e46: ¬(s[k]'hlt).toNat=46:=by omega
    have f46: ¬(((s[k]'hlt).toNat:Nat):Int)=46:=by omega
    have OK:=Lib.hid (show mh (s[k]'hlt)=false by rw[dh];omega)
    have HR:=Lib.hid (show bK s=false by unfold bK;rw[←HV.out,HD.out,OK.out];simp)
    go_wp2
    go_ret
    exact⟨by rw[HR.out];rfl,rfl⟩
   ·have x0:97<=(s[k]'hlt).toNat:=by omega
    have y0:(97:Int)<=(((s[k]'hlt).toNat:Nat):Int):=by omega
    have x1:(s[k]'hlt).toNat<=122:=by omega
    have y1:(((s[k]'hlt).toNat:Nat):Int)<=(122:Int):=by omega
    have OK:=Lib.hid (show mh (s[k]'hlt)=true by rw[fN];omega)
    go_wp2
    exact⟨⟨k+1,by omega,by simp,by rw[←HV.out,HD.out,OK.out,Bool.true_and]⟩,by simp[intOf];omega⟩
   ·have x0:97<=(s[k]'hlt).toNat:=by omega
    have y0:(97:Int)<=(((s[k]'hlt).toNat:Nat):Int):=by omega
    have x1: ¬(s[k]'hlt).toNat<=122:=by omega
    have y1: ¬(((s[k]'hlt).toNat:Nat):Int)<=(122:Int):=by omega
    have x2:65<=(s[k]'hlt).toNat:=by omega
    have y2:(65:Int)<=(((s[k]'hlt).toNat:Nat):Int):=by omega
    have x3: ¬(s[k]'hlt).toNat<=90:=by omega
    have y3: ¬(((s[k]'hlt).toNat:Nat):Int)<=(90:Int):=by omega
    have x4:48<=(s[k]'hlt).toNat:=by omega
    have y4:(48:Int)<=(((s[k]'hlt).toNat:Nat):Int):=by omega
    have x5: ¬(s[k]'hlt).toNat<=57:=by omega
    have y5: ¬(((s[k]'hlt).toNat:Nat):Int)<=(57:Int):=by omega
    have e45: ¬(s[k]'hlt).toNat=45:=by omega
    have f45: ¬(((s[k]'hlt).toNat:Nat):Int)=45:=by omega
    have e95: ¬(s[k]'hlt).toNat=95:=by omega
    have f95: ¬(((s[k]'hlt).toNat:Nat):Int)=95:=by omega
    have e46: ¬(s[k]'hlt).toNat=46:=by omega
    have f46: ¬(((s[k]'hlt).toNat:Nat):Int)=46:=by omega
    have OK:=Lib.hid (show mh (s[k]'hlt)=false by rw[dh];omega)
    have HR:=Lib.hid (show bK s=false by unfold bK;rw[←HV.out,HD.out,OK.out];simp)
    go_wp2
    go_ret
    exact⟨by rw[HR.out];rfl,rfl⟩
  ·have he:s.data.toList.all mh=true:=by rw[←HV.out];exact IW s k (by omega)
   by_cases h0:0<s.size
   ·by_cases h1:s.size<=32
    ·have HR:=Lib.hid (show bK s=true by unfold bK;rw[he];simp[h0,h1])
     clear he
     have h0':(0:Int)<(s.size:Int):=by omega
     have h1':(s.size:Int)<=32:=by omega
     go_wp2
     go_ret
     exact⟨by rw[HR.out];rfl,rfl⟩
    ·have HR:=Lib.hid (show bK s=false by unfold bK;rw[he];simp[h0,h1])
     clear he
     have h0':(0:Int)<(s.size:Int):=by omega
     have h1': ¬(s.size:Int)<=32:=by omega
     go_wp2
     go_ret
     exact⟨by rw[HR.out];rfl,rfl⟩
   ·have HR:=Lib.hid (show bK s=false by unfold bK;rw[he];simp[h0])
    clear he
    have h0': ¬(0:Int)<(s.size:Int):=by omega
    go_wp2
    go_ret
    exact⟨by rw[HR.out];rfl,rfl⟩
set_option maxHeartbeats 8000000 in
theorem OY(s:ByteArray)(w:World)(hs:s.size<=9223372036854775807):Calls prog 81 #[.string s] w fun e w'=>e= .returned (.bool (bK s))/\w=w':=by
 by_cases h0:0<s.size
 case neg=>
  have HR:=Lib.hid (show bK s=false by unfold bK;simp[h0])
  have h0':(s.size:Int)<1:=by omega
  go_enter func81,ntmps81
  go_wp2
  go_ret
  exact⟨by rw[HR.out];rfl,rfl⟩
 by_cases h1:s.size<=32
 case neg=>
  have HR:=Lib.hid (show bK s=false by unfold bK;simp[h1])
  have h0': ¬(s.size:Int)<1:=by omega
  have h1':(32:Int)<(s.size:Int):=by omega
  go_enter func81,ntmps81
  go_wp2
  go_ret
  exact⟨by rw[HR.out];rfl,rfl⟩
 have h0': ¬(s.size:Int)<1:=by omega
 have h1': ¬(32:Int)<(s.size:Int):=by omega
 go_enter func81,ntmps81
 go_wp2
 go_loop [3] (fun i=> ∃k:Nat,k<=s.size/\i= .int .i64 k/\(s.data.toList.drop k).all mh=s.data.toList.all mh) (fun i=>s.size - (intOf i).toNat)
 case atStart=>exact⟨0,Nat.zero_le _,rfl,rfl⟩
 case round=>
  obtain⟨k,hk,rfl,hv⟩:=hrel
  have HV:=Lib.hid hv
  clear hv
  by_cases hlt:k<s.size
  ·have HD:=Lib.hid (D6 s k hlt)
   have hb:(s[k]'hlt).toNat<256:=(s[k]'hlt).toNat_lt
   have hcat:(0<=(s[k]'hlt).toNat/\(s[k]'hlt).toNat<=44)\/(45<=(s[k]'hlt).toNat/\(s[k]'hlt).toNat<=45)\/(46<=(s[k]'hlt).toNat/\(s[k]'hlt).toNat<=46)\/(47<=(s[k]'hlt).toNat/\(s[k]'hlt).toNat<=47)\/(48<=(s[k]'hlt).toNat/\(s[k]'hlt).toNat<=57)\/(58<=(s[k]'hlt).toNat/\(s[k]'hlt).toNat<=64)\/(65<=(s[k]'hlt).toNat/\(s[k]'hlt).toNat<=90)\/(91<=(s[k]'hlt).toNat/\(s[k]'hlt).toNat<=94)\/(95<=(s[k]'hlt).toNat/\(s[k]'hlt).toNat<=95)\/(96<=(s[k]'hlt).toNat/\(s[k]'hlt).toNat<=96)\/(97<=(s[k]'hlt).toNat/\(s[k]'hlt).toNat<=122)\/(123<=(s[k]'hlt).toNat/\(s[k]'hlt).toNat<=255):=by omega
   rcases hcat with hcat|hcat|hcat|hcat|hcat|hcat|hcat|hcat|hcat|hcat|hcat|hcat
   ·have x0: ¬97<=(s[k]'hlt).toNat:=by omega
    have y0: ¬(97:Int)<=(((s[k]'hlt).toNat:Nat):Int):=by omega
    have x1: ¬65<=(s[k]'hlt).toNat:=by omega
    have y1: ¬(65:Int)<=(((s[k]'hlt).toNat:Nat):Int):=by omega
    have x2: ¬48<=(s[k]'hlt).toNat:=by omega
    have y2: ¬(48:Int)<=(((s[k]'hlt).toNat:Nat):Int):=by omega
    have e45: ¬(s[k]'hlt).toNat=45:=by omega
    have f45: ¬(((s[k]'hlt).toNat:Nat):Int)=45:=by omega
    have g45:((((s[k]'hlt).toNat:Nat):Int) !=45)=true:=by rw[bne_iff_ne];exact f45
    have e95: ¬(s[k]'hlt).toNat=95:=by omega
    have f95: ¬(((s[k]'hlt).toNat:Nat):Int)=95:=by omega
    have g95:((((s[k]'hlt).toNat:Nat):Int) !=95)=true:=by rw[bne_iff_ne];exact f95
    have e46: ¬(s[k]'hlt).toNat=46:=by omega
    have f46: ¬(((s[k]'hlt).toNat:Nat):Int)=46:=by omega
    have g46:((((s[k]'hlt).toNat:Nat):Int) !=46)=true:=by rw[bne_iff_ne];exact f46
    have OK:=Lib.hid (show mh (s[k]'hlt)=false by rw[dh];omega)
    have HR:=Lib.hid (show bK s=false by unfold bK;rw[←HV.out,HD.out,OK.out];simp)
    go_wp2
    go_ret
    exact⟨by rw[HR.out];rfl,rfl⟩
   ·have x0: ¬97<=(s[k]'hlt).toNat:=by omega
    have y0: ¬(97:Int)<=(((s[k]'hlt).toNat:Nat):Int):=by omega
    have x1: ¬65<=(s[k]'hlt).toNat:=by omega
    have y1: ¬(65:Int)<=(((s[k]'hlt).toNat:Nat):Int):=by omega
    have x2: ¬48<=(s[k]'hlt).toNat:=by omega
    have y2: ¬(48:Int)<=(((s[k]'hlt).toNat:Nat):Int):=by omega
    have e45:(s[k]'hlt).toNat=45:=by omega
    have f45:(((s[k]'hlt).toNat:Nat):Int)=45:=by omega
    have g45:((((s[k]'hlt).toNat:Nat):Int) !=45)=false:=by rw[f45];rfl
    have e95: ¬(s[k]'hlt).toNat=95:=by omega
    have f95: ¬(((s[k]'hlt).toNat:Nat):Int)=95:=by omega
    have g95:((((s[k]'hlt).toNat:Nat):Int) !=95)=true:=by rw[bne_iff_ne];exact f95
    have e46: ¬(s[k]'hlt).toNat=46:=by omega
    have f46: ¬(((s[k]'hlt).toNat:Nat):Int)=46:=by omega
    have g46:((((s[k]'hlt).toNat:Nat):Int) !=46)=true:=by rw[bne_iff_ne];exact f46
    have OK:=Lib.hid (show mh (s[k]'hlt)=true by rw[fN];omega)
    go_wp2
    exact⟨⟨k+1,by omega,by simp,by rw[←HV.out,HD.out,OK.out,Bool.true_and]⟩,by simp[intOf];omega⟩
   ·have x0: ¬97<=(s[k]'hlt).toNat:=by omega
    have y0: ¬(97:Int)<=(((s[k]'hlt).toNat:Nat):Int):=by omega
    have x1: ¬65<=(s[k]'hlt).toNat:=by omega
    have y1: ¬(65:Int)<=(((s[k]'hlt).toNat:Nat):Int):=by omega
    have x2: ¬48<=(s[k]'hlt).toNat:=by omega
    have y2: ¬(48:Int)<=(((s[k]'hlt).toNat:Nat):Int):=by omega
    have e45: ¬(s[k]'hlt).toNat=45:=by omega
    have f45: ¬(((s[k]'hlt).toNat:Nat):Int)=45:=by omega
    have g45:((((s[k]'hlt).toNat:Nat):Int) !=45)=true:=by rw[bne_iff_ne];exact f45
    have e95: ¬(s[k]'hlt).toNat=95:=by omega
    have f95: ¬(((s[k]'hlt).toNat:Nat):Int)=95:=by omega
    have g95:((((s[k]'hlt).toNat:Nat):Int) !=95)=true:=by rw[bne_iff_ne];exact f95
    have e46:(s[k]'hlt).toNat=46:=by omega
    have f46:(((s[k]'hlt).toNat:Nat):Int)=46:=by omega
    have g46:((((s[k]'hlt).toNat:Nat):Int) !=46)=false:=by rw[f46];rfl
    have OK:=Lib.hid (show mh (s[k]'hlt)=true by rw[fN];omega)
    go_wp2
    exact⟨⟨k+1,by omega,by simp,by rw[←HV.out,HD.out,OK.out,Bool.true_and]⟩,by simp[intOf];omega⟩
   ·have x0: ¬97<=(s[k]'hlt).toNat:=by omega
    have y0: ¬(97:Int)<=(((s[k]'hlt).toNat:Nat):Int):=by omega
    have x1: ¬65<=(s[k]'hlt).toNat:=by omega
    have y1: ¬(65:Int)<=(((s[k]'hlt).toNat:Nat):Int):=by omega
    have x2: ¬48<=(s[k]'hlt).toNat:=by omega
    have y2: ¬(48:Int)<=(((s[k]'hlt).toNat:Nat):Int):=by omega
    have e45: ¬(s[k]'hlt).toNat=45:=by omega
    have f45: ¬(((s[k]'hlt).toNat:Nat):Int)=45:=by omega
    have g45:((((s[k]'hlt).toNat:Nat):Int) !=45)=true:=by rw[bne_iff_ne];exact f45
    have e95: ¬(s[k]'hlt).toNat=95:=by omega
    have f95: ¬(((s[k]'hlt).toNat:Nat):Int)=95:=by omega
    have g95:((((s[k]'hlt).toNat:Nat):Int) !=95)=true:=by rw[bne_iff_ne];exact f95
    have e46: ¬(s[k]'hlt).toNat=46:=by omega
    have f46: ¬(((s[k]'hlt).toNat:Nat):Int)=46:=by omega
    have g46:((((s[k]'hlt).toNat:Nat):Int) !=46)=true:=by rw[bne_iff_ne];exact f46
    have OK:=Lib.hid (show mh (s[k]'hlt)=false by rw[dh];omega)
    have HR:=Lib.hid (show bK s=false by unfold bK;rw[←HV.out,HD.out,OK.out];simp)
    go_wp2
    go_ret
    exact⟨by rw[HR.out];rfl,rfl⟩
   ·have x0: ¬97<=(s[k]'hlt).toNat:=by omega
    have y0: ¬(97:Int)<=(((s[k]'hlt).toNat:Nat):Int):=by omega
    have x1: ¬65<=(s[k]'hlt).toNat:=by omega
    have y1: ¬(65:Int)<=(((s[k]'hlt).toNat:Nat):Int):=by omega
    have x2:48<=(s[k]'hlt).toNat:=by omega
    have y2:(48:Int)<=(((s[k]'hlt).toNat:Nat):Int):=by omega
    have x3:(s[k]'hlt).toNat<=57:=by omega
    have y3:(((s[k]'hlt).toNat:Nat):Int)<=(57:Int):=by omega
    have OK:=Lib.hid (show mh (s[k]'hlt)=true by rw[fN];omega)
    go_wp2
    exact⟨⟨k+1,by omega,by simp,by rw[←HV.out,HD.out,OK.out,Bool.true_and]⟩,by simp[intOf];omega⟩
   ·have x0: ¬97<=(s[k]'hlt).toNat:=by omega
    have y0: ¬(97:Int)<=(((s[k]'hlt).toNat:Nat):Int):=by omega
    have x1: ¬65<=(s[k]'hlt).toNat:=by omega
    have y1: ¬(65:Int)<=(((s[k]'hlt).toNat:Nat):Int):=by omega
    have x2:48<=(s[k]'hlt).toNat:=by omega
    have y2:(48:Int)<=(((s[k]'hlt).toNat:Nat):Int):=by omega
    have x3: ¬(s[k]'hlt).toNat<=57:=by omega
    have y3: ¬(((s[k]'hlt).toNat:Nat):Int)<=(57:Int):=by omega
    have e45: ¬(s[k]'hlt).toNat=45:=by omega
    have f45: ¬(((s[k]'hlt).toNat:Nat):Int)=45:=by omega
    have g45:((((s[k]'hlt).toNat:Nat):Int) !=45)=true:=by rw[bne_iff_ne];exact f45
    have e95: ¬(s[k]'hlt).toNat=95:=by omega
    have f95: ¬(((s[k]'hlt).toNat:Nat):Int)=95:=by omega
    have g95:((((s[k]'hlt).toNat:Nat):Int) !=95)=true:=by rw[bne_iff_ne];exact f95
    have e46: ¬(s[k]'hlt).toNat=46:=by omega
    have f46: ¬(((s[k]'hlt).toNat:Nat):Int)=46:=by omega
    have g46:((((s[k]'hlt).toNat:Nat):Int) !=46)=true:=by rw[bne_iff_ne];exact f46
    have OK:=Lib.hid (show mh (s[k]'hlt)=false by rw[dh];omega)
    have HR:=Lib.hid (show bK s=false by unfold bK;rw[←HV.out,HD.out,OK.out];simp)
    go_wp2
    go_ret
    exact⟨by rw[HR.out];rfl,rfl⟩
   ·have x0: ¬97<=(s[k]'hlt).toNat:=by omega
    have y0: ¬(97:Int)<=(((s[k]'hlt).toNat:Nat):Int):=by omega
    have x1:65<=(s[k]'hlt).toNat:=by omega
    have y1:(65:Int)<=(((s[k]'hlt).toNat:Nat):Int):=by omega
    have x2:(s[k]'hlt).toNat<=90:=by omega
    have y2:(((s[k]'hlt).toNat:Nat):Int)<=(90:Int):=by omega
    have OK:=Lib.hid (show mh (s[k]'hlt)=true by rw[fN];omega)
    go_wp2
    exact⟨⟨k+1,by omega,by simp,by rw[←HV.out,HD.out,OK.out,Bool.true_and]⟩,by simp[intOf];omega⟩
   ·have x0: ¬97<=(s[k]'hlt).toNat:=by omega
    have y0: ¬(97:Int)<=(((s[k]'hlt).toNat:Nat):Int):=by omega
    have x1:65<=(s[k]'hlt).toNat:=by omega
    have y1:(65:Int)<=(((s[k]'hlt).toNat:Nat):Int):=by omega
    have x2: ¬(s[k]'hlt).toNat<=90:=by omega
    have y2: ¬(((s[k]'hlt).toNat:Nat):Int)<=(90:Int):=by omega
    have x3:48<=(s[k]'hlt).toNat:=by omega
    have y3:(48:Int)<=(((s[k]'hlt).toNat:Nat):Int):=by omega
    have x4: ¬(s[k]'hlt).toNat<=57:=by omega
    have y4: ¬(((s[k]'hlt).toNat:Nat):Int)<=(57:Int):=by omega
    have e45: ¬(s[k]'hlt).toNat=45:=by omega
    have f45: ¬(((s[k]'hlt).toNat:Nat):Int)=45:=by omega
    have g45:((((s[k]'hlt).toNat:Nat):Int) !=45)=true:=by rw[bne_iff_ne];exact f45
    have e95: ¬(s[k]'hlt).toNat=95:=by omega
    have f95: ¬(((s[k]'hlt).toNat:Nat):Int)=95:=by omega
    have g95:((((s[k]'hlt).toNat:Nat):Int) !=95)=true:=by rw[bne_iff_ne];exact f95
    have e46: ¬(s[k]'hlt).toNat=46:=by omega
    have f46: ¬(((s[k]'hlt).toNat:Nat):Int)=46:=by omega
    have g46:((((s[k]'hlt).toNat:Nat):Int) !=46)=true:=by rw[bne_iff_ne];exact f46
    have OK:=Lib.hid (show mh (s[k]'hlt)=false by rw[dh];omega)
    have HR:=Lib.hid (show bK s=false by unfold bK;rw[←HV.out,HD.out,OK.out];simp)
    go_wp2
    go_ret
    exact⟨by rw[HR.out];rfl,rfl⟩
   ·have x0: ¬97<=(s[k]'hlt).toNat:=by omega
    have y0: ¬(97:Int)<=(((s[k]'hlt).toNat:Nat):Int):=by omega
    have x1:65<=(s[k]'hlt).toNat:=by omega
    have y1:(65:Int)<=(((s[k]'hlt).toNat:Nat):Int):=by omega
    have x2: ¬(s[k]'hlt).toNat<=90:=by omega
    have y2: ¬(((s[k]'hlt).toNat:Nat):Int)<=(90:Int):=by omega
    have x3:48<=(s[k]'hlt).toNat:=by omega
    have y3:(48:Int)<=(((s[k]'hlt).toNat:Nat):Int):=by omega
    have x4: ¬(s[k]'hlt).toNat<=57:=by omega
    have y4: ¬(((s[k]'hlt).toNat:Nat):Int)<=(57:Int):=by omega
    have e45: ¬(s[k]'hlt).toNat=45:=by omega
    have f45: ¬(((s[k]'hlt).toNat:Nat):Int)=45:=by omega
    have g45:((((s[k]'hlt).toNat:Nat):Int) !=45)=true:=by rw[bne_iff_ne];exact f45
    have e95:(s[k]'hlt).toNat=95:=by omega
    have f95:(((s[k]'hlt).toNat:Nat):Int)=95:=by omega
    have g95:((((s[k]'hlt).toNat:Nat):Int) !=95)=false:=by rw[f95];rfl
    have e46: ¬(s[k]'hlt).toNat=46:=by omega
    have f46: ¬(((s[k]'hlt).toNat:Nat):Int)=46:=by omega
    have g46:((((s[k]'hlt).toNat:Nat):Int) !=46)=true:=by rw[bne_iff_ne];exact f46
    have OK:=Lib.hid (show mh (s[k]'hlt)=true by rw[fN];omega)
    go_wp2
    exact⟨⟨k+1,by omega,by simp,by rw[←HV.out,HD.out,OK.out,Bool.true_and]⟩,by simp[intOf];omega⟩
   ·have x0: ¬97<=(s[k]'hlt).toNat:=by omega
    have y0: ¬(97:Int)<=(((s[k]'hlt).toNat:Nat):Int):=by omega
    have x1:65<=(s[k]'hlt).toNat:=by omega
    have y1:(65:Int)<=(((s[k]'hlt).toNat:Nat):Int):=by omega
    have x2: ¬(s[k]'hlt).toNat<=90:=by omega
    have y2: ¬(((s[k]'hlt).toNat:Nat):Int)<=(90:Int):=by omega
    have x3:48<=(s[k]'hlt).toNat:=by omega
    have y3:(48:Int)<=(((s[k]'hlt).toNat:Nat):Int):=by omega
    have x4: ¬(s[k]'hlt).toNat<=57:=by omega
    have y4: ¬(((s[k]'hlt).toNat:Nat):Int)<=(57:Int):=by omega
    have e45: ¬(s[k]'hlt).toNat=45:=by omega
    have f45: ¬(((s[k]'hlt).toNat:Nat):Int)=45:=by omega
    have g45:((((s[k]'hlt).toNat:Nat):Int) !=45)=true:=by rw[bne_iff_ne];exact f45
    have e95: ¬(s[k]'hlt).toNat=95:=by omega
    have f95: ¬(((s[k]'hlt).toNat:Nat):Int)=95:=by omega
    have g95:((((s[k]'hlt).toNat:Nat):Int) !=95)=true:=by rw[bne_iff_ne];exact f95
    have e46: ¬(s[k]'hlt).toNat=46:=by omega
    have f46: ¬(((s[k]'hlt).toNat:Nat):Int)=46:=by omega
    have g46:((((s[k]'hlt).toNat:Nat):Int) !=46)=true:=by rw[bne_iff_ne];exact f46
    have OK:=Lib.hid (show mh (s[k]'hlt)=false by rw[dh];omega)
    have HR:=Lib.hid (show bK s=false by unfold bK;rw[←HV.out,HD.out,OK.out];simp)
    go_wp2
    go_ret
    exact⟨by rw[HR.out];rfl,rfl⟩
   ·have x0:97<=(s[k]'hlt).toNat:=by omega
    have y0:(97:Int)<=(((s[k]'hlt).toNat:Nat):Int):=by omega
    have x1:(s[k]'hlt).toNat<=122:=by omega
    have y1:(((s[k]'hlt).toNat:Nat):Int)<=(122:Int):=by omega
    have OK:=Lib.hid (show mh (s[k]'hlt)=true by rw[fN];omega)
    go_wp2
    exact⟨⟨k+1,by omega,by simp,by rw[←HV.out,HD.out,OK.out,Bool.true_and]⟩,by simp[intOf];omega⟩
   ·have x0:97<=(s[k]'hlt).toNat:=by omega
    have y0:(97:Int)<=(((s[k]'hlt).toNat:Nat):Int):=by omega
    have x1: ¬(s[k]'hlt).toNat<=122:=by omega
    have y1: ¬(((s[k]'hlt).toNat:Nat):Int)<=(122:Int):=by omega
    have x2:65<=(s[k]'hlt).toNat:=by omega
    have y2:(65:Int)<=(((s[k]'hlt).toNat:Nat):Int):=by omega
    have x3: ¬(s[k]'hlt).toNat<=90:=by omega
    have y3: ¬(((s[k]'hlt).toNat:Nat):Int)<=(90:Int):=by omega
    have x4:48<=(s[k]'hlt).toNat:=by omega
    have y4:(48:Int)<=(((s[k]'hlt).toNat:Nat):Int):=by omega
    have x5: ¬(s[k]'hlt).toNat<=57:=by omega
    have y5: ¬(((s[k]'hlt).toNat:Nat):Int)<=(57:Int):=by omega
    have e45: ¬(s[k]'hlt).toNat=45:=by omega
    have f45: ¬(((s[k]'hlt).toNat:Nat):Int)=45:=by omega
    have g45:((((s[k]'hlt).toNat:Nat):Int) !=45)=true:=by rw[bne_iff_ne];exact f45
    have e95: ¬(s[k]'hlt).toNat=95:=by omega
    have f95: ¬(((s[k]'hlt).toNat:Nat):Int)=95:=by omega
    have g95:((((s[k]'hlt).toNat:Nat):Int) !=95)=true:=by rw[bne_iff_ne];exact f95
    have e46: ¬(s[k]'hlt).toNat=46:=by omega
    have f46: ¬(((s[k]'hlt).toNat:Nat):Int)=46:=by omega
    have g46:((((s[k]'hlt).toNat:Nat):Int) !=46)=true:=by rw[bne_iff_ne];exact f46
    have OK:=Lib.hid (show mh (s[k]'hlt)=false by rw[dh];omega)
    have HR:=Lib.hid (show bK s=false by unfold bK;rw[←HV.out,HD.out,OK.out];simp)
    go_wp2
    go_ret
    exact⟨by rw[HR.out];rfl,rfl⟩
  ·have he:s.data.toList.all mh=true:=by rw[←HV.out];exact IW s k (by omega)
   have HR:=Lib.hid (show bK s=true by unfold bK;rw[he];simp[h0,h1])
   clear he
   go_wp2
   go_ret
   exact⟨by rw[HR.out];rfl,rfl⟩
end Go.Proofs.Nw
namespace Go.Proofs.Nw
open Go Go.AV Tryz
set_option maxRecDepth 1000000
noncomputable section
abbrev Up(N:aM):Value:=Value.slice N.ua N.nu N.uc
abbrev xL(N:aM):List Value:=[Yo N,Yp N,Up N,Yq N,Yr N,Ys N,ZV N.d,ZV N.w,ZV N.c]
abbrev ON(e:Int):Unit->Value:=fun(x:Unit)=>zv e
abbrev cC:Value:=I 2
abbrev Sc(N:aM):Prop:=KO YD (BQ (xL N) 9 1 31)
abbrev pf:Nat × Value:=(1,Yi)
abbrev OQ(N:aM):List (Nat × aa):=[(0,BQ (xL N) 9 1 31)]
abbrev B6:Prop:=Rs Yi
theorem ZN(z:T aa)(zn i:Nat)(N:aM)(e:Int)(Q:QL)(hyp:Br (decide ((↑i:Int)<(↑N.nu:Int))) (aT prog z zn 69 [AG (xL N),IV i] [] 0 0 Yx (ON e) db/\bz (sig []) [AG (xL N),IV i]=some [AG (xL N),IV i]/\ ∀(x:Unit),True->Rs (ZV e)/\Br (e !=0) (E6 84 z zn (R3 cC (IV i) (ZV e) (Q af.ret [(2,cC),(3,IV i),(4,ZV e)] [] 1 z zn))) (ZV (IntKind.i64.wrap ((↑i:Int)+1))=IV (i+1)/\E6 84 z zn (R2 Yi (IV (i+1)) (Sc N/\Q aN [pf,(7,IV (i+1))] (OQ N) 1 z zn)))) (E6 84 z zn (B6/\Sc N/\Q YO [pf] (OQ N) 1 z zn))):ew prog gP z (ah (ag f54) 0) 84 (CB i) z [(0,N.box)] 1 zn 1 Q:=K1t hyp (tA 1 ((tA 2 (Tr.cm (Cm.mk [AG (xL N),IV i] [] 0 0 [] [] 1) Unit Yx (ON e) db (fun(x:Unit)=>ZV e) db (fZ z) (fY zn) fun(x:Unit)=>(tA 1 (tE [] [] [(2,cC),(3,IV i),(4,ZV e)] [] 1 z zn)).fork (tA 1 (tO (dS i) (tE YC [] [pf,(7,IV (i+1))] (OQ N) 1 z zn))))).fork (tA 1 (tE YC [] [pf] (OQ N) 1 z zn))))
theorem ZM(z:T aa)(zn i:Nat)(N:aM)(e:Int)(Q:QL)(hyp:Br (decide ((↑i:Int)<(↑N.nl:Int))) (aT prog z zn 70 [AG (xL N),IV i] [] 0 0 Yx (ON e) db/\bz (sig []) [AG (xL N),IV i]=some [AG (xL N),IV i]/\ ∀(x:Unit),True->Rs (ZV e)/\Br (e !=0) (E6 84 z zn (R3 (I 3) (IV i) (ZV e) (Q af.ret [(2,I 3),(3,IV i),(4,ZV e)] [] 1 z zn))) (ZV (IntKind.i64.wrap ((↑i:Int)+1))=IV (i+1)/\E6 84 z zn (R2 Yi (IV (i+1)) (Sc N/\Q aN [pf,Gk i] (OQ N) 1 z zn)))) (E6 84 z zn (B6/\Sc N/\Q ja [pf] (OQ N) 1 z zn))):ew prog gP z (ah (ag f54) 1) 84 (CA i) z [(0,N.box)] 1 zn 1 Q:=K1t hyp (tA 1 ((tA 2 (Tr.cm (Cm.mk [AG (xL N),IV i] [] 0 0 [] [] 1) Unit Yx (ON e) db (fun(x:Unit)=>ZV e) db (fZ z) (fY zn) fun(x:Unit)=>(tA 1 (tE [] [] [(2,I 3),(3,IV i),(4,ZV e)] [] 1 z zn)).fork (tA 1 (tO (dS i) (tE YC [] [pf,Gk i] (OQ N) 1 z zn))))).fork (tA 1 (tE YC [] [pf] (OQ N) 1 z zn))))
abbrev B5(s1 s2:Int):Unit->Value:=fun(x:Unit)=>TP [zv s1,zv s2]
abbrev GQ(s1 s2:Int):Value:=TP [ZV s1,ZV s2]
abbrev BK(s1 s2:Int):Prop:=Rs (GQ s1 s2)
abbrev Ut(N:aM):Prop:=bz (sig []) [AG (xL N)]=some [AG (xL N)]
abbrev OP(N:aM):List Value:=[AG [Ys N,ZV N.d,ZV N.w,ZV N.c]]
abbrev OO(s1 s2:Int):Unit->Value:=fun(x:Unit)=>GQ s1 s2
theorem TK(z:T aa)(zn:Nat)(N:aM)(s1 s2 r1 r2 u1 u2 k1 k2 p1 p2 f1 f2:Int)(Q:QF)(hyp:aT prog z zn 67 [Yo N] [] 0 0 Yx (B5 s1 s2) db/\bz (sig []) [Yo N]=some [Yo N]/\ ∀(x:Unit),True->BK s1 s2/\Br (s2 !=0) (E6 84 z zn (Rs (TP [YM,ZV s1,ZV s2])/\Q (TP [YM,ZV s1,ZV s2]) [] 0 z zn)) (aT prog z zn 68 [Yp N] [] 0 0 Yx (B5 r1 r2) db/\bz (sig []) [Yp N]=some [Yp N]/\ ∀(x:Unit),True->BK r1 r2/\Br (r2 !=0) (E6 84 z zn (Rs (TP [I 1,ZV r1,ZV r2])/\Q (TP [I 1,ZV r1,ZV r2]) [] 0 z zn)) (Br (decide ((↑N.nu:Int)>1024)) (E6 84 z zn (Rs (TP [cC,YM,I 5])/\Q (TP [cC,YM,I 5]) [] 0 z zn)) (YP/\ai prog (ah (ag f54) 0) 1 84 (CB 0) [(0,N.box)] 1 z zn (alt (u2≠0) (ax.mk af.ret [(2,cC),(3,zv u1),(4,zv u2)] [] 1 z zn) (alt (u2=0) (ax.mk YO [(1,Y8)] [(0,N.box)] 1 z zn) Al.nil)).R/\E6 84 z zn (R2 Yi YM (Sc N/\(∀(x:Unit),u2≠0->E6 84 z zn (Rs (TP [cC,ZV u1,ZV u2])/\Q (TP [cC,ZV u1,ZV u2]) [] 0 z zn))/\ ∀(x:Unit),u2=0->Br (decide ((↑N.nl:Int)>1024)) (E6 84 z zn (Rs (TP [I 3,YM,I 5])/\Q (TP [I 3,YM,I 5]) [] 0 z zn)) (YP/\ai prog (ah (ag f54) 1) 1 84 (CA 0) [(0,N.box)] 1 z zn (alt (k2≠0) (ax.mk af.ret [(2,I 3),(3,zv k1),(4,zv k2)] [] 1 z zn) (alt (k2=0) (ax.mk ja [(1,Y8)] [(0,N.box)] 1 z zn) Al.nil)).R/\E6 84 z zn (R2 Yi YM (Sc N/\(∀(x:Unit),k2≠0->E6 84 z zn (Rs (TP [I 3,ZV k1,ZV k2])/\Q (TP [I 3,ZV k1,ZV k2]) [] 0 z zn))/\ ∀(x:Unit),k2=0->aT prog z zn 71 [AG (xL N)] [] 0 0 Yx (B5 p1 p2) db/\Ut N/\ ∀(x:Unit),True->BK p1 p2/\Br (p2 !=0) (E6 84 z zn (Rs (TP [I 4,ZV p1,ZV p2])/\Q (TP [I 4,ZV p1,ZV p2]) [] 0 z zn)) (aT prog z zn 72 (OP N) [] 0 0 Yx (B5 f1 f2) db/\bz (sig []) (OP N)=some (OP N)/\ ∀(x:Unit),True->BK f1 f2/\Br (f2 !=0) (E6 84 z zn (Rs (TP [I 5,ZV f1,ZV f2])/\Q (TP [I 5,ZV f1,ZV f2]) [] 0 z zn)) (E6 84 z zn (Rs (TP YW)/\Q (TP YW) [] 0 z zn)))))))))))):ed prog gP z f54 [AG N.cells] z [] 0 zn Q:=K1t hyp (tA 1 (Tr.cm (Cm.mk [Yo N] [] 0 0 [] [] 1) Unit Yx (B5 s1 s2) db (OO s1 s2) db (fZ z) (fY zn) fun(x:Unit)=>(tA 1 (tR [] [] (TP [YM,ZV s1,ZV s2]) [] 0 z zn)).fork (tA 2 (Tr.cm (Cm.mk [Yp N] [] 0 0 [] [] 1) Unit Yx (B5 r1 r2) db (OO r1 r2) db (fZ z) (fY zn) fun(x:Unit)=>(tA 1 (tR [] [] (TP [I 1,ZV r1,ZV r2]) [] 0 z zn)).fork (tA 2 ((tA 1 (tR [] [] (TP [cC,YM,I 5]) [] 0 z zn)).fork (tA 1 (Tr.lp 1 84 YC [] (CB 0) [(0,N.box)] 1 z zn (Al.cons Unit (Ur u2) (fun(x:Unit)=>ax.mk af.ret [(2,cC),(3,zv u1),(4,zv u2)] [] 1 z zn) (fun(x:Unit)=>tR [] [] (TP [cC,ZV u1,ZV u2]) [] 0 z zn) (Al.cons Unit (Uq u2) (fun(x:Unit)=>ax.mk YO [(1,Y8)] [(0,N.box)] 1 z zn) (fun(x:Unit)=>tA 1 ((tA 1 (tR [] [] (TP [I 3,YM,I 5]) [] 0 z zn)).fork (tA 1 (Tr.lp 1 84 YC [] (CA 0) [(0,N.box)] 1 z zn (Al.cons Unit (Ur k2) (fun(x:Unit)=>ax.mk af.ret [(2,I 3),(3,zv k1),(4,zv k2)] [] 1 z zn) (fun(x:Unit)=>tR [] [] (TP [I 3,ZV k1,ZV k2]) [] 0 z zn) (Al.cons Unit (Uq k2) (fun(x:Unit)=>ax.mk ja [(1,Y8)] [(0,N.box)] 1 z zn) (fun(x:Unit)=>tA 1 (Tr.cm (Cm.mk
 [AG (xL N)] [] 0 0 [] [] 1) Unit Yx (B5 p1 p2) db (OO p1 p2) db (fZ z) (fY zn) fun(x:Unit)=>(tA 1 (tR [] [] (TP [I 4,ZV p1,ZV p2]) [] 0 z zn)).fork (tA 2 (Tr.cm (Cm.mk (OP N) [] 0 0 [] [] 1) Unit Yx (B5 f1 f2) db (OO f1 f2) db (fZ z) (fY zn) fun(x:Unit)=>(tA 1 (tR [] [] (TP [I 5,ZV f1,ZV f2]) [] 0 z zn)).fork (tA 1 (tR [] [] (TP YW) [] 0 z zn)))))) Al.nil)))))) Al.nil))))))))))
end
noncomputable section
abbrev Zm(a b c d e f:Int):Prop:=Rs (BQ [ZV a,ZV b,ZV c,ZV d,ZV e,ZV f] 6 3 101)
abbrev V1(a b c d e f:Int):List (Nat × aa):=[(0,BQ [ZV a,ZV b,ZV c,ZV d,ZV e,ZV f] 6 3 101),Ya]
noncomputable abbrev VT:Code:=ah (ag f43) 0
abbrev dq:List (Nat × Nat):=[YB,Ye]
theorem Ww(z:T aa)(zn i:Nat)(a b c d e f x y w:Int)(Q:QL)(hyp:Br (c !=0) (E6 17 z zn (YV/\Rs (BQ [ZV a,ZV b,ZV c] 3 1 101)/\Q af.ret YZ [(1,BQ [ZV a,ZV b,ZV c] 3 1 101)] 2 z zn)) (E6 17 z zn (R4 YU (SL 0 2 2) cC (I 1) (Zm a b c d e f/\YX/\Q aN [YY,(5,SL 0 2 2),(6,cC),(7,I 1)] (V1 a b c d e f) 2 z zn)))):ew prog gP z VT 17 (AB 0) z [(0,Ku a b c d e f),Yc] 2 zn 2 Q:=K1t hyp (tA 6 ((tA 3 (tE Yf [] YZ [(1,BQ [ZV a,ZV b,ZV c] 3 1 101)] 2 z zn)).fork (tA 2 (tE dq [] [YY,(5,SL 0 2 2),(6,cC),(7,I 1)] (V1 a b c d e f) 2 z zn))))
theorem Wv(z:T aa)(zn i:Nat)(a b c d e f x y w:Int)(Q:QL)(hyp:Br (f !=0) (E6 17 z zn (YV/\Rs (BQ [ZV d,ZV e,ZV f] 3 1 101)/\Q af.ret YZ [(1,BQ [ZV d,ZV e,ZV f] 3 1 101)] 2 z zn)) (E6 17 z zn (R4 YU (SL 0 2 2) cC cC (Zm a b c d e f/\YX/\Q aN [YY,(5,SL 0 2 2),(6,cC),(7,cC)] (V1 a b c d e f) 2 z zn)))):ew prog gP z VT 17 (AB 1) z [(0,Ku a b c d e f),Yc] 2 zn 2 Q:=K1t hyp (tA 6 ((tA 3 (tE Yf [] YZ [(1,BQ [ZV d,ZV e,ZV f] 3 1 101)] 2 z zn)).fork (tA 2 (tE dq [] [YY,(5,SL 0 2 2),(6,cC),(7,cC)] (V1 a b c d e f) 2 z zn))))
theorem Wu(z:T aa)(zn i:Nat)(a b c d e f x y w:Int)(Q:QL)(hyp:E6 17 z zn (YV/\YX/\Q YO YZ [Ya] 2 z zn)):ew prog gP z VT 17 (AB 2) z [(0,Ku a b c d e f),Yc] 2 zn 2 Q:=K1t hyp (tA 2 (tE Yf [] YZ [Ya] 2 z zn))
abbrev sZ:Prop:=Rf 2
abbrev Q3(c f:Int):Unit->Prop:=fun(x:Unit)=>c=0/\f=0
theorem ffi(z:T aa)(zn i:Nat)(a b c d e f x y w:Int)(Q:QF)(hyp:sZ/\ai prog VT 2 17 (AB 0) [(0,Ku a b c d e f),Yc] 2 z zn (alt (x=pk c f a d/\y=pk c f b e/\w=pk c f c f) (ax.mk af.ret Yh [(1,c7 x y w)] 2 z zn) (alt (c=0/\f=0) (ax.mk YO Yh [Yc] 2 z zn) Al.nil)).R/\E6 17 z zn (R4 YU (SL 0 2 2) cC YM (Zm a b c d e f/\YX/\(∀(x_1:Unit),x=pk c f a d/\y=pk c f b e/\w=pk c f c f->E6 17 z zn (Rs (vu x y w)/\Q (vu x y w) [] 1 z zn))/\ ∀(x:Unit),c=0/\f=0->E6 17 z zn (Yw/\Q Yv [] 1 z zn)))):ed prog gP z f43 [SL 0 2 2] z [(0,Ku a b c d e f)] 1 zn Q:=K1t hyp (Tr.lp 2 17 [Ye,YB] [] (AB 0) [(0,Ku a b c d e f),Yc] 2 z zn (Al.cons Unit (fun(x_1:Unit)=>x=pk c f a d/\y=pk c f b e/\w=pk c f c f) (fun(x_1:Unit)=>ax.mk af.ret Yh [(1,c7 x y w)] 2 z zn) (fun(x_1:Unit)=>tR [] [] (vu x y w) [] 1 z zn) (Al.cons Unit (Q3 c f) (fun(x:Unit)=>ax.mk YO Yh [Yc] 2 z zn) (fun(x:Unit)=>tA 1 (tR [] [] Yv [] 1 z zn)) Al.nil)))
abbrev Sb(u1 u2 u3:Int):Unit->Value:=fun(x:Unit)=>AG [zv u1,zv u2,zv u3]
abbrev BJ:List (Nat × Nat):=[(1,0)]
noncomputable abbrev Zf(N:aM):Cm:=Cm.mk [AG (xL N)] [] 0 0 [] [] 3
theorem XK(z:T aa)(zn:Nat)(N:aM)(s1 s2 r1 r2 f1 f2 u1 u2 u3 k1 k2 k3 p1 p2 p3:Int)(Q:QF)(hyp:aT prog z zn 41 [Yo N] [] 0 0 Yx (B5 s1 s2) db/\bz (sig []) [Yo N]=some [Yo N]/\ ∀(x:Unit),True->BK s1 s2/\aT prog z zn 42 [Yp N] [] 0 0 Yx (B5 r1 r2) db/\bz (sig []) [Yp N]=some [Yp N]/\ ∀(x:Unit),True->BK r1 r2/\Rf z/\gP 44 [YM,ZV s1,ZV s2]=some (AG [YM,ZV s1,ZV s2])/\Rf z/\gP 44 [I 1,ZV r1,ZV r2]=some (AG [I 1,ZV r1,ZV r2])/\aT prog z zn 43 [SL 0 2 2] [(0,BQ [YM,ZV s1,ZV s2,I 1,ZV r1,ZV r2] 6 3 101)] 1 1 Yx (fun(x:Unit)=>AG [zv (pk s2 r2 0 1),zv (pk s2 r2 s1 r1),zv (pk s2 r2 s2 r2)]) db/\Rs [SL 1 2 2]/\Rs (BQ [YM,ZV s1,ZV s2,I 1,ZV r1,ZV r2] 6 3 101)/\ ∀(x:Unit),True->Rs (AG [ZV (pk s2 r2 0 1),ZV (pk s2 r2 s1 r1),ZV (pk s2 r2 s2 r2)])/\Br (pk s2 r2 s2 r2==0) (aT prog z zn 45 [AG (xL N)] [] 0 0 Yx (Sb u1 u2 u3) db/\Ut N/\ ∀(x:Unit),True->Rs (vu u1 u2 u3)/\Br (u3==0) (aT prog z zn 46 [AG (xL N)] [] 0 0 Yx (Sb k1 k2 k3) db/\Ut N/\ ∀(x:Unit),True->Rs (vu k1 k2 k3)/\Br (k3==0) (aT prog z zn 47 (OP N) [] 0 0 Yx (B5 f1 f2) db/\bz (sig []) (OP N)=some (OP N)/\ ∀(x:Unit),True->BK f1 f2/\aT prog z zn 48 [AG (xL N)] [] 0 0 Yx (Sb p1 p2 p3) db/\Ut N/\ ∀(x:Unit),True->Rs (vu p1 p2 p3)/\Rf z/\gP 44 [I 5,ZV f1,ZV f2]=some (AG [I 5,ZV f1,ZV f2])/\aT prog z zn 43 [SL 0 2 2] [(0,BQ [ZV p1,ZV p2,ZV p3,I 5,ZV f1,ZV f2] 6 3 101)] 1 1 Yx (fun(x:Unit)=>AG [zv (pk p3 f2 p1 5),zv (pk p3 f2 p2 f1),zv (pk p3 f2 p3 f2)]) db/\Rs [SL 3 2 2]/\Rs (BQ [ZV p1,ZV p2,ZV p3,I 5,ZV f1,ZV f2] 6 3 101)/\ ∀(x:Unit),True->Rs (AG [ZV (pk p3 f2 p1 5),ZV (pk p3 f2 p2 f1),ZV (pk p3 f2 p3 f2)])/\E6 64 z zn (Rs (TP [ZV (pk p3 f2 p1 5),ZV (pk p3 f2 p2 f1),ZV (pk p3 f2 p3 f2)])/\Q (TP [ZV (pk p3 f2 p1 5),ZV (pk p3 f2 p2 f1),ZV (pk p3 f2 p3 f2)]) [] 0 z zn)) (E6 64 z zn (Rs (TP [ZV k1,ZV k2,ZV k3])/\Q (TP [ZV k1,ZV k2,ZV k3]) [] 0 z zn))) (Value.bool (u3==0)=F0/\E6 64 z zn (Rs (TP [ZV u1,ZV u2,ZV u3])/\Q (TP [ZV u1,ZV u2,ZV u3]) [] 0 z zn))) (Value.bool (pk s2 r2 s2 r2==0)=F0/\Value.bool (pk s2 r2 s2 r2==0)=F0/\E6 64 z zn (Rs (TP [ZV (pk s2 r2 0 1),ZV (pk s2 r2 s1 r1),ZV (pk s2 r2 s2 r2)])/\Q (TP [ZV (pk s2 r2 0 1),ZV (pk s2 r2 s1 r1),ZV (pk s2 r2 s2 r2)]) [] 0 z zn))):ed prog gP z f26 [AG N.cells] z [] 0 zn Q:=K1t hyp (tA 1 (Tr.cm (Cm.mk [Yo N] [] 0 0 [] [] 1) Unit Yx (B5 s1 s2) db (OO s1 s2) db (fZ z) (fY zn) fun(x:Unit)=>tA 1 (Tr.cm (Cm.mk [Yp N] [] 0 0 [] [] 1) Unit Yx (B5 r1 r2) db (OO r1 r2) db (fZ z) (fY zn) fun(x:Unit)=>tO (An.cl (AG [YM,ZV s1,ZV s2])) (tO (An.cl (AG [I 1,ZV r1,ZV r2])) (Tr.cm (Cm.mk [SL 0 2 2] [(0,BQ [YM,ZV s1,ZV s2,I 1,ZV r1,ZV r2] 6 3 101)] 1 1 [(0,1)] BJ 2) Unit Yx (fun(x:Unit)=>AG [zv (pk s2 r2 0 1),zv (pk s2 r2 s1 r1),zv (pk s2 r2 s2 r2)]) db (fun(x:Unit)=>AG [ZV (pk s2 r2 0 1),ZV (pk s2 r2 s1 r1),ZV (pk s2 r2 s2 r2)]) db (fZ z) (fY zn) fun(x:Unit)=>tA 2 ((tA 2 (Tr.cm (Zf N) Unit Yx (Sb u1 u2 u3) db (fun(x:Unit)=>vu u1 u2 u3) db (fZ z) (fY zn) fun(x:Unit)=>tA 2
 ((tA 2 (Tr.cm (Zf N) Unit Yx (Sb k1 k2 k3) db (fun(x:Unit)=>vu k1 k2 k3) db (fZ z) (fY zn) fun(x:Unit)=>tA 2 ((tA 2 (Tr.cm (Cm.mk (OP N) [] 0 0 [] [] 3) Unit Yx (B5 f1 f2) db (OO f1 f2) db (fZ z) (fY zn) fun(x:Unit)=>tA 1 (Tr.cm (Zf N) Unit Yx (Sb p1 p2 p3) db (fun(x:Unit)=>vu p1 p2 p3) db (fZ z) (fY zn) fun(x:Unit)=>tO (An.cl (AG [I 5,ZV f1,ZV f2])) (Tr.cm (Cm.mk [SL 0 2 2] [(0,BQ [ZV p1,ZV p2,ZV p3,I 5,ZV f1,ZV f2] 6 3 101)] 1 1 [(0,3)] [(3,0)] 4) Unit Yx (fun(x:Unit)=>AG [zv (pk p3 f2 p1 5),zv (pk p3 f2 p2 f1),zv (pk p3 f2 p3 f2)]) db (fun(x:Unit)=>AG [ZV (pk p3 f2 p1 5),ZV (pk p3 f2 p2 f1),ZV (pk p3 f2 p3 f2)]) db (fZ z) (fY zn) fun(x:Unit)=>tA 4 (tR [] [] (TP [ZV (pk p3 f2 p1 5),ZV (pk p3 f2 p2 f1),ZV (pk p3 f2 p3 f2)]) [] 0 z zn))))).fork (tA 4 (tR [] [] (TP [ZV k1,ZV k2,ZV k3]) [] 0 z zn))))).fork (tA 2 (tO GP (tA 4 (tR [] [] (TP [ZV u1,ZV u2,ZV u3]) [] 0 z zn))))))).fork (tA 2 (tO GP (tA 2 (tO GP (tA 4 (tR [] [] (TP [ZV (pk s2 r2 0 1),ZV (pk s2 r2 s1 r1),ZV (pk s2 r2 s2 r2)]) [] 0 z zn))))))))))))
end
noncomputable section
noncomputable abbrev Sa:Code:=ah (ag f67) 0
theorem Wm(z:T aa)(zn:Nat)(Q:QL)(hyp:E6 57 z zn (Q YO [] [] 0 z zn)):ew prog gP z Sa 57 ux z [] 0 zn 0 Q:=K1t hyp (tA 2 (tE [] [] [] [] 0 z zn))
abbrev sY:Value:=TP [YM,YM]
abbrev vW:Prop:=Rs sY
noncomputable abbrev KL(z:T aa)(zn:Nat):Unit->Tr:=fun(x:Unit)=>tR [] [] sY [] 0 z zn
theorem Xx(z:T aa)(zn:Nat)(Q:QF)(hyp:r9/\ai prog Sa 0 57 ux [] 0 z zn (VZ z zn)/\E6 57 z zn (R2 Yk YM (∀(x:Unit),True->E6 57 z zn (vW/\Q sY [] 0 z zn)))):ed prog gP z f67 [az] z [] 0 zn Q:=K1t hyp (tA 2 (Tr.lp 0 57 [] [] ux [] 0 z zn (Al.cons Unit Yx (Q4 z zn) (KL z zn) Al.nil)))
noncomputable abbrev R9:Code:=ah (ag f68) 0
theorem Wn(z:T aa)(zn:Nat)(Q:QL)(hyp:E6 48 z zn (Q YO [] [] 0 z zn)):ew prog gP z R9 48 ux z [] 0 zn 0 Q:=K1t hyp (tA 2 (tE [] [] [] [] 0 z zn))
theorem Xy(z:T aa)(zn:Nat)(Q:QF)(hyp:r9/\ai prog R9 0 48 ux [] 0 z zn (VZ z zn)/\E6 48 z zn (R2 Yk YM (∀(x:Unit),True->E6 48 z zn (vW/\Q sY [] 0 z zn)))):ed prog gP z f68 [az] z [] 0 zn Q:=K1t hyp (tA 2 (Tr.lp 0 48 [] [] ux [] 0 z zn (Al.cons Unit Yx (Q4 z zn) (KL z zn) Al.nil)))
noncomputable abbrev RZ:Code:=ah (ag f72) 0
theorem Wo(z:T aa)(zn:Nat)(d w c:Int)(Q:QL)(hyp:E6 88 z zn (Q YO [] [] 1 z zn)):ew prog gP z RZ 88 (ss 0) z [(0,vQ az d w c)] 1 zn 1 Q:=K1t hyp (tA 3 (tE [] [] [] [] 1 z zn))
abbrev Ze(d:Int):Value:=Value.bool (decide (0<=d) && decide (d<=1000000))
abbrev VS(d:Int):Prop:=gP 82 [ZV d,YM,I 1000000]=some (Ze d)
abbrev EF:Value:=TP [J 0,cC]
abbrev GL:Prop:=Rs EF
abbrev OL(w:Int):Value:=Value.bool (decide (0<=w) && decide (w<=86400))
noncomputable abbrev VQ(z:T aa)(zn:Nat):ax->Prop:=(alt True (ax.mk YO [] [] 1 z zn) Al.nil).R
noncomputable abbrev OJ(d:Int):An:=An.cl (Ze d)
noncomputable abbrev cH:An:=An.bool true
noncomputable abbrev RY(z:T aa)(zn:Nat):Tr:=tR [] [] EF [] 0 z zn
noncomputable abbrev VP(z:T aa)(zn:Nat):Tr:=tO cH (tO cH (tO cH (tO cH (tA 6 (RY z zn)))))
noncomputable abbrev bO:An:=An.bool false
noncomputable abbrev VO(z:T aa)(zn:Nat):Tr:=tO cH (tO cH (tO cH (tO cH (tA 1 (RY z zn)))))
noncomputable abbrev VN(z:T aa)(zn:Nat):Al:=Al.cons Unit Yx (fun(x:Unit)=>ax.mk YO [] [] 1 z zn) (KL z zn) Al.nil
theorem Xz(z:T aa)(zn:Nat)(d w c:Int)(Q:QF)(hyp:Rf z/\VS d/\Br (!(decide (0<=d) && decide (d<=1000000))) ((!(decide (0<=d) && decide (d<=1000000)))=true/\(!(decide (0<=d) && decide (d<=1000000)))=true/\(!(decide (0<=d) && decide (d<=1000000)))=true/\(!(decide (0<=d) && decide (d<=1000000)))=true/\E6 88 z zn (GL/\Q EF [] 0 z zn)) ((!(decide (0<=d) && decide (d<=1000000)))=false/\(!(decide (0<=d) && decide (d<=1000000)))=false/\Rf z/\gP 82 [ZV w,YM,I 86400]=some (OL w)/\(!(decide (0<=d) && decide (d<=1000000)))=false/\(!(decide (0<=d) && decide (d<=1000000)))=false/\Br (!(decide (0<=w) && decide (w<=86400))) ((!(decide (0<=w) && decide (w<=86400)))=true/\(!(decide (0<=w) && decide (w<=86400)))=true/\(!(decide (0<=w) && decide (w<=86400)))=true/\(!(decide (0<=w) && decide (w<=86400)))=true/\E6 88 z zn (GL/\Q EF [] 0 z zn)) ((!(decide (0<=w) && decide (w<=86400)))=false/\(!(decide (0<=w) && decide (w<=86400)))=false/\Rf z/\VS c/\(!(decide (0<=w) && decide (w<=86400)))=false/\(!(decide (0<=w) && decide (w<=86400)))=false/\Br (!(decide (0<=c) && decide (c<=1000000))) (E6 88 z zn (GL/\Q EF [] 0 z zn)) (YP/\ai prog RZ 1 88 (ss 0) [(0,vQ az d w c)] 1 z zn (VQ z zn)/\E6 88 z zn (R2 Yi YM (Rs (BQ [Yk,ZV d,ZV w,ZV c] 4 1 29)/\ ∀(x:Unit),True->E6 88 z zn (vW/\Q sY [] 0 z zn))))))):ed prog gP z f72 [AG [az,zv d,zv w,zv c]] z [] 0 zn Q:=K1t hyp (tA 1 (tO (OJ d) ((VP z zn).fork (tO bO (tA 1 (tO bO (tO (An.cl (OL w)) (tO bO (tO bO ((VO z zn).fork (tO bO (tA 1 (tO bO (tO (OJ c) (tO bO (tO bO ((RY z zn).fork (tA 3 (Tr.lp 1 88 YC [] (ss 0) [(0,vQ az d w c)] 1 z zn (VN z zn))))))))))))))))))))
end
noncomputable section
abbrev OI:Prop:=Rf 1534
abbrev OH(z:T aa)(kb:ba):Prop:=z.get 4=some (Y1 kb)
abbrev Gi(i:Nat):List (Nat × Value):=[(4,IV i),(5,I 9)]
abbrev OG(x:ae):Value:=AG [ZV x.fz1,ZV x.aq,T1]
abbrev eB(ks:List Value):List MapEntry:=kv 0 ks
abbrev GK(p:Nat × Value):Nat->Prop:=fun(x:Nat)=>p=(x,T1)
abbrev GJ(i_1:Nat):Option (Option (Nat × Value)):=some (some (i_1,T1))
abbrev fJ(m cp:Nat):Value:=SL 1534 m cp
abbrev VM(n:Int)(m cp i:Nat):List (Nat × Value):=[(1,ZV n),(6,YK),(11,fJ m cp),(12,IV m),(13,IV (i+1))]
abbrev sE(x:ae):Value:=AG [ZV x.fz1,ZV x.aq,F0]
noncomputable abbrev VL:Code:=ah (ag f75) 0
noncomputable abbrev OE(kb:ba)(x:ae):An:=An.ld 4 kb (AG x.row)
noncomputable abbrev OD(i:Nat)(z:T aa)(zn:Nat):Tr:=tA 2 (tE [] [] (Gi i) [] 1 z zn)
noncomputable abbrev BI:An:=An.XF none
noncomputable abbrev Uo(z:T aa)(zn:Nat):Tr:=tA 1 (tE [] [] [] [] 1 z zn)
theorem Zs(z:T aa)(zn i m cp:Nat)(n:Int)(kb:ba)(x:ae)(ks:List Value)(Q:QL)(hyp:Br (decide ((↑i:Int)<(↑m:Int))) (Yz i/\i<m/\OI/\OH z kb/\Y4 kb i x/\Br x.sf (Br (decide (x.fz1<0)) (E6 62 z zn (R2 (IV i) (I 9) (Q af.ret (Gi i) [] 1 z zn))) (Br (decide (x.fz1>=n)) (E6 62 z zn (R2 (IV i) (I 9) (Q af.ret (Gi i) [] 1 z zn))) (Br (decide (x.aq<0)) (E6 62 z zn (R2 (IV i) (I 9) (Q af.ret (Gi i) [] 1 z zn))) (Br (decide (x.aq>=n)) (E6 62 z zn (R2 (IV i) (I 9) (Q af.ret (Gi i) [] 1 z zn))) (Br (x.fz1==x.aq) (E6 62 z zn (R2 (IV i) (I 9) (Q af.ret (Gi i) [] 1 z zn))) (Br (decide (x.aK<1)) (E6 62 z zn (R2 (IV i) cC (Q af.ret [(4,IV i),(5,cC)] [] 1 z zn))) (Br (decide (x.aK>14400)) (E6 62 z zn (R2 (IV i) cC (Q af.ret [(4,IV i),(5,cC)] [] 1 z zn))) (aC prog 156 (OG x) (eB ks) 0≠none/\(∀(p:Nat × Value),aC prog 156 (OG x) (eB ks) 0=YH p->Exists (GK p))/\(∀(i_1:Nat),aC prog 156 (OG x) (eB ks) 0=GJ i_1->E6 62 z zn (R2 (IV i) (I 6) (Q af.ret [(4,IV i),(5,I 6)] [] 1 z zn)))/\(aC prog 156 (OG x) (eB ks) 0=YL->aC prog 156 (OG x) (eB ks) 0=YL/\ZV (IntKind.i64.wrap ((↑i:Int)+1))=IV (i+1)/\E6 62 z zn (R5 (ZV n) YK (fJ m cp) (IV m) (IV (i+1)) (KO YD (aa.map (eB ks++[MapEntry.mk (OG x) T1 ks.length]) (ks.length+1))/\Q aN (VM n m cp i) [(0,aa.map (eB ks++[MapEntry.mk (OG x) T1 ks.length]) (ks.length+1))] 1 z zn))))))))))) (Br (decide (x.fz1<0)) (E6 62 z zn (R2 (IV i) (I 9) (Q af.ret (Gi i) [] 1 z zn))) (Br (decide (x.fz1>=n)) (E6 62 z zn (R2 (IV i) (I 9) (Q af.ret (Gi i) [] 1 z zn))) (Br (decide (x.aq<0)) (E6 62 z zn (R2 (IV i) (I 9) (Q af.ret (Gi i) [] 1 z zn))) (Br (decide (x.aq>=n)) (E6 62 z zn (R2 (IV i) (I 9) (Q af.ret (Gi i) [] 1 z zn))) (Br (x.fz1==x.aq) (E6 62 z zn (R2 (IV i) (I 9) (Q af.ret (Gi i) [] 1 z zn))) (Br (decide (x.aK<1)) (E6 62 z zn (R2 (IV i) cC (Q af.ret [(4,IV i),(5,cC)] [] 1 z zn))) (Br (decide (x.aK>14400)) (E6 62 z zn (R2 (IV i) cC (Q af.ret [(4,IV i),(5,cC)] [] 1 z zn))) (aC prog 156 (sE x) (eB ks) 0≠none/\(∀(p:Nat × Value),aC prog 156 (sE x) (eB ks) 0=YH p->Exists (GK p))/\(∀(i_1:Nat),aC prog 156 (sE x) (eB ks) 0=GJ i_1->E6 62 z zn (R2 (IV i) (I 6) (Q af.ret [(4,IV i),(5,I 6)] [] 1 z zn)))/\(aC prog 156 (sE x) (eB ks) 0=YL->aC prog 156 (sE x) (eB ks) 0=YL/\ZV (IntKind.i64.wrap ((↑i:Int)+1))=IV (i+1)/\E6 62 z zn (R5 (ZV n) YK (fJ m cp) (IV m) (IV (i+1)) (KO YD (aa.map (eB ks++[MapEntry.mk (sE x) T1 ks.length]) (ks.length+1))/\Q aN (VM n m cp i) [(0,aa.map (eB ks++[MapEntry.mk (sE x) T1 ks.length]) (ks.length+1))] 1 z zn)))))))))))) (E6 62 z zn (Q YO [] [] 1 z zn))):ew prog gP z VL 62 (Au n m cp i) z [(0,bb ks)] 1 zn 1 Q:=K1t hyp ((tA 1 (tO (Y9 i) (tO (OE kb x) (tA 3 ((tA 2 ((OD i z zn).fork (tA 2 ((OD i z zn).fork (tA 2 ((OD i z zn).fork (tA 2 ((OD i z zn).fork (tA 3 ((tA 1 (tE [] [] (Gi i) [] 1 z zn)).fork
 (tA 2 ((tA 2 (tE [] [] [(4,IV i),(5,cC)] [] 1 z zn)).fork (tA 2 ((tA 1 (tE [] [] [(4,IV i),(5,cC)] [] 1 z zn)).fork (tA 2 (Tr.find Nat (fun(x:Nat)=>(x,T1)) (fun(i_1:Nat)=>tA 1 (tE [] [] [(4,IV i),(5,I 6)] [] 1 z zn)) (tA 2 (tO BI (tO (dS i) (tE YC [] (VM n m cp i) [(0,aa.map (eB ks++[MapEntry.mk (OG x) T1 ks.length]) (ks.length+1))] 1 z zn)))))))))))))))))))).fork (tA 2 ((OD i z zn).fork (tA 2 ((OD i z zn).fork (tA 2 ((OD i z zn).fork (tA 2 ((OD i z zn).fork (tA 3 ((tA 1 (tE [] [] (Gi i) [] 1 z zn)).fork (tA 2 ((tA 2 (tE [] [] [(4,IV i),(5,cC)] [] 1 z zn)).fork (tA 2 ((tA 1 (tE [] [] [(4,IV i),(5,cC)] [] 1 z zn)).fork (tA 2 (Tr.find Nat (fun(x:Nat)=>(x,T1)) (fun(i_1:Nat)=>tA 1 (tE [] [] [(4,IV i),(5,I 6)] [] 1 z zn)) (tA 2 (tO BI (tO (dS i) (tE YC [] (VM n m cp i) [(0,aa.map (eB ks++[MapEntry.mk (sE x) T1 ks.length]) (ks.length+1))] 1 z zn))))))))))))))))))))))))).fork (Uo z zn))
abbrev Dl:List (Nat × aa):=[(0,bb [])]
noncomputable abbrev RX(r1 r2:Int)(z:T aa)(zn:Nat):Unit->Tr:=fun(x:Unit)=>tR [] [] (GQ r1 r2) [] 0 z zn
theorem fso(z:T aa)(zn m cp:Nat)(n r1 r2:Int)(Q:QF)(hyp:YP/\ai prog VL 1 62 (Au n m cp 0) Dl 1 z zn (jd z zn 1 4 5 0 r1 r2).R/\E6 62 z zn (R5 (ZV n) YK (fJ m cp) (IV m) YM (Yu/\(∀(x:Unit),True->E6 62 z zn (BK r1 r2/\Q (GQ r1 r2) [] 0 z zn))/\ ∀(x:Unit),r1=0/\r2=0->E6 62 z zn (vW/\Q sY [] 0 z zn)))):ed prog gP z f75 [tb 4 m cp,zv n] z [] 0 zn Q:=K1t hyp (Tr.lp 1 62 YC [] (Au n m cp 0) Dl 1 z zn (Al.cons Unit Yx (fun(x:Unit)=>ax.mk af.ret [(4,zv r1),(5,zv r2)] [] 1 z zn) (RX r1 r2 z zn) (Al.cons Unit (Q3 r1 r2) (fun(x:Unit)=>ax.mk YO [] [] 1 z zn) (KL z zn) Al.nil)))
theorem Wh(z:T aa)(zn:Nat)(n:Int)(Q:QL)(hyp:E6 62 z zn (Q YO [] [] 1 z zn)):ew prog gP z VL 62 (wK n) z Dl 1 zn 1 Q:=K1t hyp (tA 2 (tE [] [] [] [] 1 z zn))
theorem Xt(z:T aa)(zn:Nat)(n:Int)(Q:QF)(hyp:YP/\ai prog VL 1 62 (wK n) Dl 1 z zn (VQ z zn)/\E6 62 z zn (R5 (ZV n) YK Yk YM YM (Yu/\ ∀(x:Unit),True->E6 62 z zn (vW/\Q sY [] 0 z zn)))):ed prog gP z f75 [az,zv n] z [] 0 zn Q:=K1t hyp (Tr.lp 1 62 YC [] (wK n) Dl 1 z zn (VN z zn))
abbrev VK(x:ae)(N:aM):Value:=Value.bool (decide (0<=x.fz1) && decide (x.fz1<(↑N.ns:Int)))
abbrev RW(i:Nat):Prop:=gP 44 [I 4,IV i,I 9]=some (AG [I 4,IV i,I 9])
abbrev RV(i:Nat):Prop:=Rs (BQ [I 4,IV i,I 9] 3 1 101)
abbrev Nt(i:Nat):List (Nat × aa):=[(1,BQ [I 4,IV i,I 9] 3 1 101)]
abbrev VI(x:ae)(N:aM):Value:=Value.bool (decide (0<=x.aq) && decide (x.aq<(↑N.ns:Int)))
abbrev VH(i:Nat):Prop:=gP 44 [I 4,IV i,cC]=some (AG [I 4,IV i,cC])
abbrev VG(i:Nat):Prop:=Rs (BQ [I 4,IV i,cC] 3 1 101)
abbrev OC(i:Nat):List (Nat × aa):=[(1,BQ [I 4,IV i,cC] 3 1 101)]
abbrev OB(x:ae):Value:=AG [ZV x.fz1,ZV x.aq,YM,T1]
abbrev YC0(i:Nat):Prop:=gP 44 [I 4,IV i,I 6]=some (AG [I 4,IV i,I 6])
abbrev Kh(N:aM):Value:=SL 1534 N.np N.pc
abbrev mw(N:aM):aa:=BQ [Yo N,Yp N,Up N,Yq N,Kh N,Ys N,ZV N.d,ZV N.w,ZV N.c] 9 1 31
abbrev VV(N:aM)(i:Nat):List (Nat × Value):=[pf,YY,(3,Yj),(9,Kh N),(10,IV N.np),(11,IV (i+1))]
abbrev OM(x:ae):Value:=AG [ZV x.fz1,ZV x.aq,YM,F0]
abbrev nS:Nat->Option Nat:=aA dq []
noncomputable abbrev VU:Code:=ah (ag f48) 0
abbrev zl(N:aM):Nat × aa:=(0,N.bW N.p1)
noncomputable abbrev YC8(i:Nat)(z:T aa)(zn:Nat):Tr:=tO cH (tO cH (tO cH (tO cH (tO cH (tO cH (tO cH (tA 7 (tO (An.cl (AG [I 4,IV i,I 9])) (tA 1 (tE Yf [] YZ (Nt i) 3 z zn))))))))))
noncomputable abbrev YC9(i:Nat)(z:T aa)(zn:Nat):Tr:=tO cH (tO cH (tO cH (tO cH (tO cH (tA 1 (tO (An.cl (AG [I 4,IV i,I 9])) (tA 1 (tE Yf [] YZ (Nt i) 3 z zn))))))))
noncomputable abbrev YDA(i:Nat)(z:T aa)(zn:Nat):Tr:=tO bO (tA 1 (tO (An.cl (AG [I 4,IV i,I 9])) (tA 1 (tE Yf [] YZ (Nt i) 3 z zn))))
noncomputable abbrev YDB(i:Nat)(z:T aa)(zn:Nat):Nat->Tr:=fun(i_1:Nat)=>tA 1 (tO (An.cl (AG [I 4,IV i,I 6])) (tA 1 (tE Yf [] YZ [(1,BQ [I 4,IV i,I 6] 3 1 101)] 3 z zn)))
theorem ZK(z:T aa)(zn i:Nat)(N:aM)(kb:ba)(x:ae)(ks:List Value)(Q:QL)(hyp:Br (decide ((↑i:Int)<(↑N.np:Int))) (Yz i/\i<N.np/\OI/\OH z kb/\Y4 kb i x/\Br x.sf (Rf z/\gP 61 [ZV x.fz1,IV N.ns]=some (VK x N)/\Br (!(decide (0<=x.fz1) && decide (x.fz1<(↑N.ns:Int)))) ((!(decide (0<=x.fz1) && decide (x.fz1<(↑N.ns:Int))))=true/\(!(decide (0<=x.fz1) && decide (x.fz1<(↑N.ns:Int))))=true/\(!(decide (0<=x.fz1) && decide (x.fz1<(↑N.ns:Int))))=true/\(!(decide (0<=x.fz1) && decide (x.fz1<(↑N.ns:Int))))=true/\(!(decide (0<=x.fz1) && decide (x.fz1<(↑N.ns:Int))))=true/\(!(decide (0<=x.fz1) && decide (x.fz1<(↑N.ns:Int))))=true/\(!(decide (0<=x.fz1) && decide (x.fz1<(↑N.ns:Int))))=true/\Rf z/\RW i/\E6 78 z zn (YV/\RV i/\Q af.ret YZ (Nt i) 3 z zn)) ((!(decide (0<=x.fz1) && decide (x.fz1<(↑N.ns:Int))))=false/\(!(decide (0<=x.fz1) && decide (x.fz1<(↑N.ns:Int))))=false/\(!(decide (0<=x.fz1) && decide (x.fz1<(↑N.ns:Int))))=false/\(!(decide (0<=x.fz1) && decide (x.fz1<(↑N.ns:Int))))=false/\(!(decide (0<=x.fz1) && decide (x.fz1<(↑N.ns:Int))))=false/\Rf z/\gP 61 [ZV x.aq,IV N.ns]=some (VI x N)/\(!(decide (0<=x.fz1) && decide (x.fz1<(↑N.ns:Int))))=false/\(!(decide (0<=x.fz1) && decide (x.fz1<(↑N.ns:Int))))=false/\Br (!(decide (0<=x.aq) && decide (x.aq<(↑N.ns:Int)))) ((!(decide (0<=x.aq) && decide (x.aq<(↑N.ns:Int))))=true/\(!(decide (0<=x.aq) && decide (x.aq<(↑N.ns:Int))))=true/\(!(decide (0<=x.aq) && decide (x.aq<(↑N.ns:Int))))=true/\(!(decide (0<=x.aq) && decide (x.aq<(↑N.ns:Int))))=true/\(!(decide (0<=x.aq) && decide (x.aq<(↑N.ns:Int))))=true/\Rf z/\RW i/\E6 78 z zn (YV/\RV i/\Q af.ret YZ (Nt i) 3 z zn)) ((!(decide (0<=x.aq) && decide (x.aq<(↑N.ns:Int))))=false/\(!(decide (0<=x.aq) && decide (x.aq<(↑N.ns:Int))))=false/\(!(decide (0<=x.aq) && decide (x.aq<(↑N.ns:Int))))=false/\(!(decide (0<=x.aq) && decide (x.aq<(↑N.ns:Int))))=false/\Br (x.fz1==x.aq) ((!(decide (0<=x.aq) && decide (x.aq<(↑N.ns:Int))))=false/\Rf z/\RW i/\E6 78 z zn (YV/\RV i/\Q af.ret YZ (Nt i) 3 z zn)) ((!(decide (0<=x.aq) && decide (x.aq<(↑N.ns:Int))))=false/\Br (decide (x.aK<1)) (Rf z/\VH i/\E6 78 z zn (YV/\VG i/\Q af.ret YZ (OC i) 3 z zn)) (Br (decide (x.aK>14400)) (Rf z/\VH i/\E6 78 z zn (YV/\VG i/\Q af.ret YZ (OC i) 3 z zn)) (aC prog 134 (OB x) (eB ks) 0≠none/\(∀(p:Nat × Value),aC prog 134 (OB x) (eB ks) 0=YH p->Exists (GK p))/\(∀(i_1:Nat),aC prog 134 (OB x) (eB ks) 0=GJ i_1->Rf z/\YC0 i/\E6 78 z zn (YV/\Rs (BQ [I 4,IV i,I 6] 3 1 101)/\Q af.ret YZ [(1,BQ [I 4,IV i,I 6] 3 1 101)] 3 z zn))/\(aC prog 134 (OB x) (eB ks) 0=YL->aC prog 134 (OB x) (eB ks) 0=YL/\ZV (IntKind.i64.wrap ((↑i:Int)+1))=IV (i+1)/\E6 78 z zn (R6 Yi YU Yj (Kh N) (IV N.np) (IV (i+1)) (KO Yn (mw N)/\YX/\KO Yn (aa.map (eB ks++[MapEntry.mk (OB x) T1 ks.length]) (ks.length+1))/\Q aN (VV N i) [(0,mw N),Ya,(2,aa.map (eB ks++[MapEntry.mk (OB x) T1 ks.length])
 (ks.length+1))] 3 z zn))))))))) (Rf z/\gP 61 [ZV x.fz1,IV N.ns]=some (VK x N)/\Br (!(decide (0<=x.fz1) && decide (x.fz1<(↑N.ns:Int)))) ((!(decide (0<=x.fz1) && decide (x.fz1<(↑N.ns:Int))))=true/\(!(decide (0<=x.fz1) && decide (x.fz1<(↑N.ns:Int))))=true/\(!(decide (0<=x.fz1) && decide (x.fz1<(↑N.ns:Int))))=true/\(!(decide (0<=x.fz1) && decide (x.fz1<(↑N.ns:Int))))=true/\(!(decide (0<=x.fz1) && decide (x.fz1<(↑N.ns:Int))))=true/\(!(decide (0<=x.fz1) && decide (x.fz1<(↑N.ns:Int))))=true/\(!(decide (0<=x.fz1) && decide (x.fz1<(↑N.ns:Int))))=true/\Rf z/\RW i/\E6 78 z zn (YV/\RV i/\Q af.ret YZ (Nt i) 3 z zn)) ((!(decide (0<=x.fz1) && decide (x.fz1<(↑N.ns:Int))))=false/\(!(decide (0<=x.fz1) && decide (x.fz1<(↑N.ns:Int))))=false/\(!(decide (0<=x.fz1) && decide (x.fz1<(↑N.ns:Int))))=false/\(!(decide (0<=x.fz1) && decide (x.fz1<(↑N.ns:Int))))=false/\(!(decide (0<=x.fz1) && decide (x.fz1<(↑N.ns:Int))))=false/\Rf z/\gP 61 [ZV x.aq,IV N.ns]=some (VI x N)/\(!(decide (0<=x.fz1) && decide (x.fz1<(↑N.ns:Int))))=false/\(!(decide (0<=x.fz1) && decide (x.fz1<(↑N.ns:Int))))=false/\Br (!(decide (0<=x.aq) && decide (x.aq<(↑N.ns:Int)))) ((!(decide (0<=x.aq) && decide (x.aq<(↑N.ns:Int))))=true/\(!(decide (0<=x.aq) && decide (x.aq<(↑N.ns:Int))))=true/\(!(decide (0<=x.aq) && decide (x.aq<(↑N.ns:Int))))=true/\(!(decide (0<=x.aq) && decide (x.aq<(↑N.ns:Int))))=true/\(!(decide (0<=x.aq) && decide (x.aq<(↑N.ns:Int))))=true/\Rf z/\RW i/\E6 78 z zn (YV/\RV i/\Q af.ret YZ (Nt i) 3 z zn)) ((!(decide (0<=x.aq) && decide (x.aq<(↑N.ns:Int))))=false/\(!(decide (0<=x.aq) && decide (x.aq<(↑N.ns:Int))))=false/\(!(decide (0<=x.aq) && decide (x.aq<(↑N.ns:Int))))=false/\(!(decide (0<=x.aq) && decide (x.aq<(↑N.ns:Int))))=false/\Br (x.fz1==x.aq) ((!(decide (0<=x.aq) && decide (x.aq<(↑N.ns:Int))))=false/\Rf z/\RW i/\E6 78 z zn (YV/\RV i/\Q af.ret YZ (Nt i) 3 z zn)) ((!(decide (0<=x.aq) && decide (x.aq<(↑N.ns:Int))))=false/\Br (decide (x.aK<1)) (Rf z/\VH i/\E6 78 z zn (YV/\VG i/\Q af.ret YZ (OC i) 3 z zn)) (Br (decide (x.aK>14400)) (Rf z/\VH i/\E6 78 z zn (YV/\VG i/\Q af.ret YZ (OC i) 3 z zn)) (aC prog 134 (OM x) (eB ks) 0≠none/\(∀(p:Nat × Value),aC prog 134 (OM x) (eB ks) 0=YH p->Exists (GK p))/\(∀(i_1:Nat),aC prog 134 (OM x) (eB ks) 0=GJ i_1->Rf z/\YC0 i/\E6 78 z zn (YV/\Rs (BQ [I 4,IV i,I 6] 3 1 101)/\Q af.ret YZ [(1,BQ [I 4,IV i,I 6] 3 1 101)] 3 z zn))/\(aC prog 134 (OM x) (eB ks) 0=YL->aC prog 134 (OM x) (eB ks) 0=YL/\ZV (IntKind.i64.wrap ((↑i:Int)+1))=IV (i+1)/\E6 78 z zn (R6 Yi YU Yj (Kh N) (IV N.np) (IV (i+1)) (KO Yn (mw N)/\YX/\KO Yn (aa.map (eB ks++[MapEntry.mk (OM x) T1 ks.length]) (ks.length+1))/\Q aN (VV N i) [(0,mw N),Ya,(2,aa.map (eB ks++[MapEntry.mk (OM x) T1 ks.length]) (ks.length+1))] 3 z zn)))))))))) (E6 78 z zn (R2 Yi YU (KO nS (mw N)/\YX/\Q YO [pf,YY] [(0,mw N),Ya] 3 z zn)))):ew prog gP z VU 78 (AE N.np
 N.pc i) z [zl N,Yc,(2,bb ks)] 3 zn 3 Q:=K1t hyp ((tA 1 (tO (Y9 i) (tO (OE kb x) (tA 3 ((tA 3 (tO (An.cl (VK x N)) ((YC8 i z zn).fork (tO bO (tA 1 (tO bO (tO bO (tA 1 (tO bO (tO bO (tO (An.cl (VI x N)) (tO bO (tO bO ((YC9 i z zn).fork (tO bO (tA 1 (tO bO (tO bO (tA 1 (tO bO ((YDA i z zn).fork (tO bO (tA 2 ((tA 5 (tO (An.cl (AG [I 4,IV i,cC])) (tA 1 (tE Yf [] YZ (OC i) 3 z zn)))).fork (tA 4 ((tA 2 (tO (An.cl (AG [I 4,IV i,cC])) (tA 1 (tE Yf [] YZ (OC i) 3 z zn)))).fork (tA 3 (Tr.find Nat (fun(x:Nat)=>(x,T1)) (YDB i z zn) (tA 2 (tO BI (tO (dS i) (tE Ym [] (VV N i) [(0,mw N),Ya,(2,aa.map (eB ks++[MapEntry.mk (OB x) T1 ks.length]) (ks.length+1))] 3 z zn)))))))))))))))))))))))))))))))).fork (tA 3 (tO (An.cl (VK x N)) ((YC8 i z zn).fork (tO bO (tA 1 (tO bO (tO bO (tA 1 (tO bO (tO bO (tO (An.cl (VI x N)) (tO bO (tO bO ((YC9 i z zn).fork (tO bO (tA 1 (tO bO (tO bO (tA 1 (tO bO ((YDA i z zn).fork (tO bO (tA 2 ((tA 5 (tO (An.cl (AG [I 4,IV i,cC])) (tA 1 (tE Yf [] YZ (OC i) 3 z zn)))).fork (tA 4 ((tA 2 (tO (An.cl (AG [I 4,IV i,cC])) (tA 1 (tE Yf [] YZ (OC i) 3 z zn)))).fork (tA 3 (Tr.find Nat (fun(x:Nat)=>(x,T1)) (YDB i z zn) (tA 2 (tO BI (tO (dS i) (tE Ym [] (VV N i) [(0,mw N),Ya,(2,aa.map (eB ks++[MapEntry.mk (OM x) T1 ks.length]) (ks.length+1))] 3 z zn))))))))))))))))))))))))))))))))))))).fork (tA 1 (tE dq [] [pf,YY] [(0,mw N),Ya] 3 z zn)))
abbrev gJ(cl:Bool):Value:=Value.bool cl
abbrev GG(cl:Bool):Unit->Value:=fun(x:Unit)=>gJ cl
abbrev QZ:Value:=AG [I 4,YM,I 18]
abbrev YDF:Prop:=gP 44 [I 4,YM,I 18]=some QZ
noncomputable abbrev YDG(z:T aa)(zn:Nat):Unit->Tr:=fun(x:Unit)=>(tO (An.cl QZ) (tA 1 (tR [] [] QZ [] 0 z zn))).fork (tA 1 (tR [] [] Yv [] 0 z zn))
theorem fcp(z:T aa)(zn:Nat)(N:aM)(r1 r2 r3:Int)(cl:Bool)(Q:QF)(hyp:Yg/\ai prog VU 3 78 (AE N.np N.pc 0) [zl N,Yc,(2,bb [])] 3 z zn (alt (r1≠0) (ax.mk af.ret Yh [(1,c7 r1 r2 r3)] 3 z zn) (alt (r1=0) (ax.mk YO [(1,Y8),(2,ip 1)] [zl N,Yc] 3 z zn) Al.nil)).R/\E6 78 z zn (R6 Yi YU Yj (Kh N) (IV N.np) YM (KO Yn (mw N)/\YX/\Yu/\(∀(x:Unit),r1≠0->E6 78 z zn (Rs (vu r1 r2 r3)/\Q (vu r1 r2 r3) [] 0 z zn))/\ ∀(x:Unit),r1=0->aT prog z zn 64 [Kh N,IV N.ns] [] 0 0 Yx (GG cl) db/\Rs [Kh N,IV N.ns]/\ ∀(x:Unit),True->Rs (gJ cl)/\Br (!cl) (Rf z/\YDF/\E6 78 z zn (Rs QZ/\Q QZ [] 0 z zn)) (E6 78 z zn (Yw/\Q Yv [] 0 z zn))))):ed prog gP z f48 [AG (N.iz N.p1)] z [] 0 zn Q:=K1t hyp (tA 1 (Tr.lp 3 78 Ym [] (AE N.np N.pc 0) [zl N,Yc,(2,bb [])] 3 z zn (Al.cons Unit (Ur r1) (fun(x:Unit)=>ax.mk af.ret Yh [(1,c7 r1 r2 r3)] 3 z zn) (fun(x:Unit)=>tR [] [] (vu r1 r2 r3) [] 0 z zn) (Al.cons Unit (Uq r1) (fun(x:Unit)=>ax.mk YO [(1,Y8),(2,ip 1)] [zl N,Yc] 3 z zn) (fun(x:Unit)=>tA 2 (Tr.cm (Cm.mk [Kh N,IV N.ns] [] 0 0 [] [] 3) Unit Yx (GG cl) db (GG cl) db (fZ z) (fY zn) (YDG z zn))) Al.nil))))
abbrev Ns(N:aM):aa:=BQ [Yo N,Yp N,Up N,Yq N,Yk,Ys N,ZV N.d,ZV N.w,ZV N.c] 9 1 31
theorem Wy(z:T aa)(zn:Nat)(N:aM)(Q:QL)(hyp:E6 78 z zn (R2 Yi YU (KO nS (Ns N)/\YX/\Q YO [pf,YY] [(0,Ns N),Ya] 3 z zn))):ew prog gP z VU 78 wS z [(0,N.bW az),Yc,(2,bb [])] 3 zn 3 Q:=K1t hyp (tA 2 (tE dq [] [pf,YY] [(0,Ns N),Ya] 3 z zn))
theorem XH(z:T aa)(zn:Nat)(N:aM)(cl:Bool)(Q:QF)(hyp:Yg/\ai prog VU 3 78 wS [(0,N.bW az),Yc,(2,bb [])] 3 z zn (alt True (ax.mk YO [(1,Y8),(2,ip 1)] [(0,N.bW az),Yc] 3 z zn) Al.nil).R/\E6 78 z zn (R6 Yi YU Yj Yk YM YM (KO Yn (Ns N)/\YX/\Yu/\ ∀(x:Unit),True->aT prog z zn 64 [Yk,IV N.ns] [] 0 0 Yx (GG cl) db/\Rs [Yk,IV N.ns]/\ ∀(x:Unit),True->Rs (gJ cl)/\Br (!cl) (Rf z/\YDF/\E6 78 z zn (Rs QZ/\Q QZ [] 0 z zn)) (E6 78 z zn (Yw/\Q Yv [] 0 z zn))))):ed prog gP z f48 [AG (N.iz az)] z [] 0 zn Q:=K1t hyp (tA 1 (Tr.lp 3 78 Ym [] wS [(0,N.bW az),Yc,(2,bb [])] 3 z zn (Al.cons Unit Yx (fun(x:Unit)=>ax.mk YO [(1,Y8),(2,ip 1)] [(0,N.bW az),Yc] 3 z zn) (fun(x:Unit)=>tA 2 (Tr.cm (Cm.mk [Yk,IV N.ns] [] 0 0 [] [] 3) Unit Yx (GG cl) db (GG cl) db (fZ z) (fY zn) (YDG z zn))) Al.nil)))
end
noncomputable section
abbrev vq(x:aH):Value:=ZV x.fz1
abbrev RT(kl:ba)(i:Nat)(x:aH):Prop:=aE prog kl 123 (0+i*5)=some (AG [vq x,ZV x.fc,ZV x.aq,ZV x.tc,Value.bool x.stay])
abbrev YDK(x:aH)(N:aM):Value:=Value.bool (decide (0<=x.fz1) && decide (x.fz1<(↑N.nu:Int)))
abbrev RS(i:Nat):Prop:=gP 44 [I 3,IV i,I 9]=some (AG [I 3,IV i,I 9])
abbrev RR(i:Nat):Prop:=Rs (BQ [I 3,IV i,I 9] 3 1 101)
abbrev QY(i:Nat):List (Nat × aa):=[(1,BQ [I 3,IV i,I 9] 3 1 101)]
abbrev YDO(x:aH)(N:aM):Value:=Value.bool (decide (0<=x.aq) && decide (x.aq<(↑N.nu:Int)))
abbrev QX(z:T aa)(kr:ba):Prop:=z.get 1=some (Y1 kr)
abbrev VE(kr:ba)(f ma ca:Nat):Prop:=aE prog kr 40 (0+f*8+7)=some (SL (tF (6+f)) ma ca)
abbrev RQ(f:Nat):Prop:=Rf (tF (6+f))
abbrev RP(z:T aa)(f:Nat)(ka:ba):Prop:=z.get (6+f)=some (Y1 ka)
abbrev RO(ka:ba)(fc:Nat)(sa:Int):Prop:=aE prog ka 3 (0+fc*5+0)=some (ZV sa)
abbrev YDU(i:Nat):Prop:=gP 44 [I 3,IV i,I 13]=some (AG [I 3,IV i,I 13])
abbrev QW(i:Nat):Prop:=gP 44 [I 3,IV i,I 19]=some (AG [I 3,IV i,I 19])
abbrev QV(i:Nat):Prop:=Rs (BQ [I 3,IV i,I 19] 3 1 101)
abbrev Oy(i:Nat):List (Nat × aa):=[(1,BQ [I 3,IV i,I 19] 3 1 101)]
abbrev KJ(x:aH):Value:=AG [vq x,ZV x.fc,ZV x.aq,ZV x.tc]
abbrev Dk(x:aH)(ks:List Value):Option (Option (Nat × Value)):=aC prog 124 (KJ x) (eB ks) 0
abbrev Zd(i:Nat):Prop:=gP 44 [I 3,IV i,I 6]=some (AG [I 3,IV i,I 6])
abbrev Zc(i:Nat):Prop:=Rs (BQ [I 3,IV i,I 6] 3 1 101)
abbrev VD(i:Nat):List (Nat × aa):=[(1,BQ [I 3,IV i,I 6] 3 1 101)]
abbrev Nr(N:aM):Value:=SL 510 N.nl N.lc
abbrev QU:List (Nat × Nat):=[YB,Ye,Yl,(3,3),(4,4)]
abbrev RN:Nat->Option Nat:=aA QU []
abbrev QT(N:aM):List Value:=[Yo N,Yp N,SL 766 N.nu N.uc,Nr N,Yr N,Ys N,ZV N.d,ZV N.w,ZV N.c]
abbrev VC(N:aM):Prop:=KO RN (BQ (QT N) 9 1 31)
abbrev Gg(ps:List (Int × Int)):aa:=aa.map (iZ 0 ps) ps.length
abbrev RM(N:aM)(i:Nat):List (Nat × Value):=[pf,YY,(3,Yj),(4,MP 3),(5,MP 4),(22,Nr N),(23,IV N.nl),(24,IV (i+1))]
abbrev QS(N:aM):Nat × aa:=(0,BQ (QT N) 9 1 31)
abbrev VB(is:List Value):Nat × aa:=(3,aa.map (eB is) is.length)
noncomputable abbrev RL:Code:=ah (ag f46) 0
noncomputable abbrev RK(kl:ba)(x:aH):An:=An.ld 0 kl (AG x.row)
noncomputable abbrev RJ(i:Nat)(z:T aa)(zn:Nat):Tr:=tO (An.cl (AG [I 3,IV i,I 9])) (tA 1 (tE Yf [] YZ (QY i) 5 z zn))
noncomputable abbrev YDp(i:Nat)(z:T aa)(zn:Nat):Tr:=tA 1 (tO (An.cl (AG [I 3,IV i,I 13])) (tA 1 (tE Yf [] YZ [(1,BQ [I 3,IV i,I 13] 3 1 101)] 5 z zn)))
noncomputable abbrev QR(i:Nat)(z:T aa)(zn:Nat):Tr:=tO (An.cl (AG [I 3,IV i,I 19])) (tA 1 (tE Yf [] YZ (Oy i) 5 z zn))
noncomputable abbrev Zb(i:Nat)(z:T aa)(zn:Nat):Nat->Tr:=fun(i_2:Nat)=>tA 1 (tO (An.cl (AG [I 3,IV i,I 6])) (tA 1 (tE Yf [] YZ (VD i) 5 z zn)))
theorem rk(z:T aa)(zn i:Nat)(N:aM)(kl kr ka kb:ba)(x:aH)(f tn fc tc ma ca mb cb:Nat)(sa sb:Int)(lb:Bool)(ps:List (Int × Int))(is ks:List Value)(Q:QL)(hyp:Br (decide ((↑i:Int)<(↑N.nl:Int))) (Yz i/\i<N.nl/\KN/\KM z kl/\RT kl i x/\Rf z/\gP 61 [vq x,IV N.nu]=some (YDK x N)/\Br (!(decide (0<=x.fz1) && decide (x.fz1<(↑N.nu:Int)))) ((!(decide (0<=x.fz1) && decide (x.fz1<(↑N.nu:Int))))=true/\(!(decide (0<=x.fz1) && decide (x.fz1<(↑N.nu:Int))))=true/\(!(decide (0<=x.fz1) && decide (x.fz1<(↑N.nu:Int))))=true/\(!(decide (0<=x.fz1) && decide (x.fz1<(↑N.nu:Int))))=true/\(!(decide (0<=x.fz1) && decide (x.fz1<(↑N.nu:Int))))=true/\(!(decide (0<=x.fz1) && decide (x.fz1<(↑N.nu:Int))))=true/\(!(decide (0<=x.fz1) && decide (x.fz1<(↑N.nu:Int))))=true/\Rf z/\RS i/\E6 171 z zn (YV/\RR i/\Q af.ret YZ (QY i) 5 z zn)) ((!(decide (0<=x.fz1) && decide (x.fz1<(↑N.nu:Int))))=false/\(!(decide (0<=x.fz1) && decide (x.fz1<(↑N.nu:Int))))=false/\(!(decide (0<=x.fz1) && decide (x.fz1<(↑N.nu:Int))))=false/\(!(decide (0<=x.fz1) && decide (x.fz1<(↑N.nu:Int))))=false/\(!(decide (0<=x.fz1) && decide (x.fz1<(↑N.nu:Int))))=false/\Rf z/\gP 61 [ZV x.aq,IV N.nu]=some (YDO x N)/\(!(decide (0<=x.fz1) && decide (x.fz1<(↑N.nu:Int))))=false/\(!(decide (0<=x.fz1) && decide (x.fz1<(↑N.nu:Int))))=false/\Br (!(decide (0<=x.aq) && decide (x.aq<(↑N.nu:Int)))) ((!(decide (0<=x.aq) && decide (x.aq<(↑N.nu:Int))))=true/\(!(decide (0<=x.aq) && decide (x.aq<(↑N.nu:Int))))=true/\(!(decide (0<=x.aq) && decide (x.aq<(↑N.nu:Int))))=true/\(!(decide (0<=x.aq) && decide (x.aq<(↑N.nu:Int))))=true/\(!(decide (0<=x.aq) && decide (x.aq<(↑N.nu:Int))))=true/\Rf z/\RS i/\E6 171 z zn (YV/\RR i/\Q af.ret YZ (QY i) 5 z zn)) ((!(decide (0<=x.aq) && decide (x.aq<(↑N.nu:Int))))=false/\(!(decide (0<=x.aq) && decide (x.aq<(↑N.nu:Int))))=false/\(!(decide (0<=x.aq) && decide (x.aq<(↑N.nu:Int))))=false/\(!(decide (0<=x.aq) && decide (x.aq<(↑N.nu:Int))))=false/\Br (x.fz1==x.aq) ((!(decide (0<=x.aq) && decide (x.aq<(↑N.nu:Int))))=false/\Rf z/\RS i/\E6 171 z zn (YV/\RR i/\Q af.ret YZ (QY i) 5 z zn)) ((!(decide (0<=x.aq) && decide (x.aq<(↑N.nu:Int))))=false/\x.fz1=(↑f:Int)/\f<N.nu/\Rf 766/\QX z kr/\VE kr f ma ca/\x.aq=(↑tn:Int)/\tn<N.nu/\Rf 766/\QX z kr/\VE kr tn mb cb/\Rf z/\gP 61 [ZV x.fc,IV ma]=some (Value.bool (decide (0<=x.fc) && decide (x.fc<(↑ma:Int))))/\Br (!(decide (0<=x.fc) && decide (x.fc<(↑ma:Int)))) ((!(decide (0<=x.fc) && decide (x.fc<(↑ma:Int))))=true/\(!(decide (0<=x.fc) && decide (x.fc<(↑ma:Int))))=true/\(!(decide (0<=x.fc) && decide (x.fc<(↑ma:Int))))=true/\(!(decide (0<=x.fc) && decide (x.fc<(↑ma:Int))))=true/\(!(decide (0<=x.fc) && decide (x.fc<(↑ma:Int))))=true/\(!(decide (0<=x.fc) && decide (x.fc<(↑ma:Int))))=true/\Rf z/\RS i/\E6 171 z zn (YV/\RR i/\Q af.ret YZ (QY i) 5 z zn)) ((!(decide (0<=x.fc) && decide (x.fc<(↑ma:Int))))=false/\(!(decide (0<=x.fc) && decide (x.fc<(↑ma:Int))))=false/\(!(decide
 (0<=x.fc) && decide (x.fc<(↑ma:Int))))=false/\(!(decide (0<=x.fc) && decide (x.fc<(↑ma:Int))))=false/\Rf z/\gP 61 [ZV x.tc,IV mb]=some (Value.bool (decide (0<=x.tc) && decide (x.tc<(↑mb:Int))))/\(!(decide (0<=x.fc) && decide (x.fc<(↑ma:Int))))=false/\(!(decide (0<=x.fc) && decide (x.fc<(↑ma:Int))))=false/\Br (!(decide (0<=x.tc) && decide (x.tc<(↑mb:Int)))) (Rf z/\RS i/\E6 171 z zn (YV/\RR i/\Q af.ret YZ (QY i) 5 z zn)) (aC prog 3 (vq x) (iZ 0 ps) 0≠none/\(∀(p:Nat × Value),aC prog 3 (vq x) (iZ 0 ps) 0=YH p->Exists (YJ p))/\(∀(i_1:Nat × Int),aC prog 3 (vq x) (iZ 0 ps) 0=some (some (YI i_1))->x.fc=(↑fc:Int)/\fc<ma/\RQ f/\RP z f ka/\RO ka fc sa/\x.tc=(↑tc:Int)/\tc<mb/\RQ tn/\RP z tn kb/\RO kb tc sb/\Br (sa !=sb) (Rf z/\YDU i/\E6 171 z zn (YV/\Rs (BQ [I 3,IV i,I 13] 3 1 101)/\Q af.ret YZ [(1,BQ [I 3,IV i,I 13] 3 1 101)] 5 z zn)) (Br x.stay (WQ1 (x.fc+1)/\Br (x.fc+1 !=(↑ma:Int)) (Rf z/\QW i/\E6 171 z zn (YV/\QV i/\Q af.ret YZ (Oy i) 5 z zn)) (Br (x.tc !=0) (Rf z/\QW i/\E6 171 z zn (YV/\QV i/\Q af.ret YZ (Oy i) 5 z zn)) (Rf z/\QW i/\E6 171 z zn (YV/\QV i/\Q af.ret YZ (Oy i) 5 z zn)))) (Dk x ks≠none/\(∀(p:Nat × Value),Dk x ks=YH p->Exists (GK p))/\(∀(i_2:Nat),Dk x ks=GJ i_2->Rf z/\Zd i/\E6 171 z zn (YV/\Zc i/\Q af.ret YZ (VD i) 5 z zn))/\(Dk x ks=YL->Dk x ks=YL/\Value.bool x.stay=F0/\ZV (IntKind.i64.wrap ((↑i:Int)+1))=IV (i+1)/\E6 171 z zn (R8 Yi YU Yj (MP 3) (MP 4) (Nr N) (IV N.nl) (IV (i+1)) (VC N/\YX/\K3 RN (Gg ps) (aa.map (eB is) is.length) (aa.map (eB ks++[MapEntry.mk (KJ x) T1 ks.length]) (ks.length+1)) (Q aN (RM N i) [QS N,Ya,(2,Gg ps),VB is,(4,aa.map (eB ks++[MapEntry.mk (KJ x) T1 ks.length]) (ks.length+1))] 5 z zn)))))))/\(aC prog 3 (vq x) (iZ 0 ps) 0=YL->x.fc=(↑fc:Int)/\fc<ma/\RQ f/\RP z f ka/\RO ka fc sa/\x.tc=(↑tc:Int)/\tc<mb/\RQ tn/\RP z tn kb/\RO kb tc sb/\Br (sa !=sb) (Rf z/\YDU i/\E6 171 z zn (YV/\Rs (BQ [I 3,IV i,I 13] 3 1 101)/\Q af.ret YZ [(1,BQ [I 3,IV i,I 13] 3 1 101)] 5 z zn)) (Br x.stay (WQ1 (x.fc+1)/\Br (x.fc+1 !=(↑ma:Int)) (Rf z/\QW i/\E6 171 z zn (YV/\QV i/\Q af.ret YZ (Oy i) 5 z zn)) (Br (x.tc !=0) (Rf z/\QW i/\E6 171 z zn (YV/\QV i/\Q af.ret YZ (Oy i) 5 z zn)) (aC prog 3 (ZV x.aq) (eB is) 0≠none/\(∀(p:Nat × Value),aC prog 3 (ZV x.aq) (eB is) 0=YH p->Exists (GK p))/\(∀(i_1:Nat),aC prog 3 (ZV x.aq) (eB is) 0=GJ i_1->Rf z/\QW i/\E6 171 z zn (YV/\QV i/\Q af.ret YZ (Oy i) 5 z zn))/\(aC prog 3 (ZV x.aq) (eB is) 0=YL->(aT prog z zn 62 [YK,ZV x.aq,vq x] [(0,Gg ps)] 1 1 Yx (GG lb) fun(x:Unit)=>[(0,Gg ps)])/\Rs [Yj,ZV x.aq,vq x]/\KO (sig [(0,2)]) (Gg ps)/\ ∀(x_1:Unit),True->Rs (gJ lb)/\KO (sig [(2,0)]) (Gg ps)/\Br lb (Rf z/\QW i/\E6 171 z zn (YV/\QV i/\Q af.ret YZ (Oy i) 5 z zn)) (Dk x ks≠none/\(∀(p:Nat × Value),Dk x ks=YH p->Exists (GK p))/\(∀(i_1:Nat),Dk x ks=GJ i_1->Rf z/\Zd i/\E6 171 z zn (YV/\Zc i/\Q af.ret YZ (VD i) 5 z zn))/\(Dk x ks=YL->Dk x
 ks=YL/\Value.bool x.stay=T1/\aC prog 3 (vq x) (iZ 0 ps) 0=YL/\aC prog 3 (ZV x.aq) (eB is) 0=YL/\ZV (IntKind.i64.wrap ((↑i:Int)+1))=IV (i+1)/\E6 171 z zn (R8 Yi YU Yj (MP 3) (MP 4) (Nr N) (IV N.nl) (IV (i+1)) (VC N/\YX/\K3 RN (aa.map (iZ 0 ps++[MapEntry.mk (vq x) (ZV x.aq) ps.length]) (ps.length+1)) (aa.map (eB is++[MapEntry.mk (ZV x.aq) T1 is.length]) (is.length+1)) (aa.map (eB ks++[MapEntry.mk (KJ x) T1 ks.length]) (ks.length+1)) (Q aN (RM N i) [QS N,Ya,(2,aa.map (iZ 0 ps++[MapEntry.mk (vq x) (ZV x.aq) ps.length]) (ps.length+1)),(3,aa.map (eB is++[MapEntry.mk (ZV x.aq) T1 is.length]) (is.length+1)),(4,aa.map (eB ks++[MapEntry.mk (KJ x) T1 ks.length]) (ks.length+1))] 5 z zn))))))))) (Dk x ks≠none/\(∀(p:Nat × Value),Dk x ks=YH p->Exists (GK p))/\(∀(i_1:Nat),Dk x ks=GJ i_1->Rf z/\Zd i/\E6 171 z zn (YV/\Zc i/\Q af.ret YZ (VD i) 5 z zn))/\(Dk x ks=YL->Dk x ks=YL/\Value.bool x.stay=F0/\ZV (IntKind.i64.wrap ((↑i:Int)+1))=IV (i+1)/\E6 171 z zn (R8 Yi YU Yj (MP 3) (MP 4) (Nr N) (IV N.nl) (IV (i+1)) (VC N/\YX/\K3 RN (Gg ps) (aa.map (eB is) is.length) (aa.map (eB ks++[MapEntry.mk (KJ x) T1 ks.length]) (ks.length+1)) (Q aN (RM N i) [QS N,Ya,(2,Gg ps),VB is,(4,aa.map (eB ks++[MapEntry.mk (KJ x) T1 ks.length]) (ks.length+1))] 5 z zn))))))))))))) (E6 171 z zn (YV/\YX/\Q YO YZ [Ya] 5 z zn))):ew prog gP z RL 171 (Fg N.nl N.lc i) z [(0,N.cA N.u1 N.l1),Yc,(2,uu ps),(3,bb is),(4,bb ks)] 5 zn 5 Q:=K1t hyp ((tA 1 (tO (Y9 i) (tO (RK kl x) (tA 3 (tO (An.cl (YDK x N)) ((tO cH (tO cH (tO cH (tO cH (tO cH (tO cH (tO cH (tA 7 (RJ i z zn))))))))).fork (tO bO (tA 1 (tO bO (tO bO (tA 1 (tO bO (tO bO (tO (An.cl (YDO x N)) (tO bO (tO bO ((tO cH (tO cH (tO cH (tO cH (tO cH (tA 1 (RJ i z zn))))))).fork (tO bO (tA 1 (tO bO (tO bO (tA 1 (tO bO ((tO bO (tA 1 (RJ i z zn))).fork (tO bO (tA 3 (tO (Y9 f) (tO (An.ld 1 kr (tb (6+f) ma ca)) (tA 2 (tO (Y9 tn) (tO (An.ld 1 kr (tb (6+tn) mb cb)) (tA 1 (tO (An.cl (Value.bool (decide (0<=x.fc) && decide (x.fc<(↑ma:Int))))) ((tO cH (tO cH (tO cH (tO cH (tO cH (tO cH (tA 1 (RJ i z zn)))))))).fork (tO bO (tA 1 (tO bO (tO bO (tO bO (tO (An.cl (Value.bool (decide (0<=x.tc) && decide (x.tc<(↑mb:Int))))) (tO bO (tO bO ((RJ i z zn).fork (tA 6 (Tr.find (Nat × Int) YI (fun(i_1:Nat × Int)=>tA 1 (tO (Y9 fc) (tO (An.ld (6+f) ka (zv sa)) (tA 1 (tO (Y9 tc) (tO (An.ld (6+tn) kb (zv sb)) ((YDp i z zn).fork (tA 1 ((tA 4 (tO (An.val (ZV (x.fc+1))) (tA 3 ((tA 28 (QR i z zn)).fork (tA 5 ((tA 24 (QR i z zn)).fork (tA 24 (QR i z zn)))))))).fork (tA 17 (Tr.find Nat (fun(x:Nat)=>(x,T1)) (Zb i z zn) (tA 2 (tO BI (tO GP (tA 1 (tO (dS i) (tE QU [] (RM N i) [QS N,Ya,(2,Gg ps),VB is,(4,aa.map (eB ks++[MapEntry.mk (KJ x) T1 ks.length]) (ks.length+1))] 5 z zn))))))))))))))))) (tA 1 (tO (Y9 fc) (tO (An.ld (6+f) ka (zv sa)) (tA 1 (tO (Y9 tc) (tO (An.ld (6+tn) kb (zv sb)) ((YDp i z zn).fork (tA 1 ((tA 4 (tO (An.val (ZV (x.fc+1))) (tA 3 ((tA 28
 (QR i z zn)).fork (tA 5 ((tA 24 (QR i z zn)).fork (tA 12 (Tr.find Nat (fun(x:Nat)=>(x,T1)) (fun(i_1:Nat)=>tA 13 (QR i z zn)) (tA 11 (Tr.cm (Cm.mk [YK,ZV x.aq,vq x] [(0,Gg ps)] 1 1 [(0,2)] [(2,0)] 7) Unit Yx (GG lb) (fun(x:Unit)=>[(0,Gg ps)]) (GG lb) (fun(x:Unit)=>[(2,Gg ps)]) (fZ z) (fY zn) fun(x_1:Unit)=>tA 3 ((QR i z zn).fork (tA 1 (Tr.find Nat (fun(x:Nat)=>(x,T1)) (Zb i z zn) (tA 2 (tO BI (tO Sf (tA 4 (tO BI (tO BI (tO (dS i) (tE QU [] (RM N i) [QS N,Ya,(2,aa.map (iZ 0 ps++[MapEntry.mk (vq x) (ZV x.aq) ps.length]) (ps.length+1)),(3,aa.map (eB is++[MapEntry.mk (ZV x.aq) T1 is.length]) (is.length+1)),(4,aa.map (eB ks++[MapEntry.mk (KJ x) T1 ks.length]) (ks.length+1))] 5 z zn))))))))))))))))))))).fork (tA 17 (Tr.find Nat (fun(x:Nat)=>(x,T1)) (Zb i z zn) (tA 2 (tO BI (tO GP (tA 1 (tO (dS i) (tE QU [] (RM N i) [QS N,Ya,(2,Gg ps),VB is,(4,aa.map (eB ks++[MapEntry.mk (KJ x) T1 ks.length]) (ks.length+1))] 5 z zn)))))))))))))))))))))))))))))))))))))))))))))))))))))))))))))).fork (tA 1 (tE Yf [] YZ [Ya] 5 z zn)))
abbrev Za(N:aM):List (Nat × aa):=[(0,N.cA az N.l1),Yc,(2,Yt),(3,bb []),(4,bb [])]
theorem ZI(z:T aa)(zn i:Nat)(N:aM)(kl:ba)(x:aH)(Q:QL)(hyp:Br (decide ((↑i:Int)<(↑N.nl:Int))) (Yz i/\i<N.nl/\KN/\KM z kl/\RT kl i x/\Rf z/\gP 61 [vq x,YM]=some F0/\Rf z/\RS i/\E6 171 z zn (YV/\RR i/\Q af.ret YZ (QY i) 5 z zn)) (E6 171 z zn (YV/\YX/\Q YO YZ [Ya] 5 z zn))):ew prog gP z RL 171 (Fg N.nl N.lc i) z (Za N) 5 zn 5 Q:=K1t hyp ((tA 1 (tO (Y9 i) (tO (RK kl x) (tA 3 (tO (An.cl F0) (tA 15 (RJ i z zn))))))).fork (tA 1 (tE Yf [] YZ [Ya] 5 z zn)))
abbrev KI:Value:=AG [I 3,YM,I 5]
noncomputable abbrev YDu(r1 r2 r3:Int)(z:T aa)(zn:Nat):ax->Prop:=(alt True (ax.mk af.ret Yh [(1,c7 r1 r2 r3)] 5 z zn) (alt (r1=0/\r2=0/\r3=0) (ax.mk YO Yh [Yc] 5 z zn) Al.nil)).R
noncomputable abbrev YDv(r1 r2 r3:Int)(z:T aa)(zn:Nat):Al:=Al.cons Unit Yx (fun(x:Unit)=>ax.mk af.ret Yh [(1,c7 r1 r2 r3)] 5 z zn) (fun(x:Unit)=>tR [] [] (vu r1 r2 r3) [] 0 z zn) (Al.cons Unit (fun(x:Unit)=>r1=0/\r2=0/\r3=0) (fun(x:Unit)=>ax.mk YO Yh [Yc] 5 z zn) (Yy z zn) Al.nil)
theorem fk(z:T aa)(zn:Nat)(N:aM)(u:Value)(r1 r2 r3:Int)(Q:QF)(hyp:Br (decide ((↑N.nl:Int)>1024)) (Rf z/\gP 44 [I 3,YM,I 5]=some KI/\E6 171 z zn (Rs KI/\Q KI [] 0 z zn)) (Rf 5/\ai prog RL 5 171 (Fg N.nl N.lc 0) [(0,N.cA N.u1 N.l1),Yc,(2,Yt),(3,bb []),(4,bb [])] 5 z zn (YDu r1 r2 r3 z zn)/\E6 171 z zn (R8 Yi YU Yj (MP 3) (MP 4) (Nr N) (IV N.nl) YM (VC N/\YX/\Yu/\Yu/\Yu/\(∀(x:Unit),True->E6 171 z zn (Rs (vu r1 r2 r3)/\Q (vu r1 r2 r3) [] 0 z zn))/\ ∀(x:Unit),r1=0/\r2=0/\r3=0->E6 171 z zn (Yw/\Q Yv [] 0 z zn))))):ed prog gP z f46 [AG (N.eA N.u1 N.l1)] z [] 0 zn Q:=K1t hyp (tA 1 ((tA 1 (tO (An.cl KI) (tA 1 (tR [] [] KI [] 0 z zn)))).fork (tA 2 (Tr.lp 5 171 QU [] (Fg N.nl N.lc 0) [(0,N.cA N.u1 N.l1),Yc,(2,Yt),(3,bb []),(4,bb [])] 5 z zn (YDv r1 r2 r3 z zn)))))
theorem fkn(z:T aa)(zn:Nat)(N:aM)(u:Value)(r1 r2 r3:Int)(Q:QF)(hyp:Br (decide ((↑N.nl:Int)>1024)) (Rf z/\gP 44 [I 3,YM,I 5]=some KI/\E6 171 z zn (Rs KI/\Q KI [] 0 z zn)) (Rf 5/\ai prog RL 5 171 (Fg N.nl N.lc 0) (Za N) 5 z zn (YDu r1 r2 r3 z zn)/\E6 171 z zn (R8 Yi YU Yj (MP 3) (MP 4) (Nr N) (IV N.nl) YM (KO RN (BQ [Yo N,Yp N,Yk,Nr N,Yr N,Ys N,ZV N.d,ZV N.w,ZV N.c] 9 1 31)/\YX/\Yu/\Yu/\Yu/\(∀(x:Unit),True->E6 171 z zn (Rs (vu r1 r2 r3)/\Q (vu r1 r2 r3) [] 0 z zn))/\ ∀(x:Unit),r1=0/\r2=0/\r3=0->E6 171 z zn (Yw/\Q Yv [] 0 z zn))))):ed prog gP z f46 [AG (N.eA az N.l1)] z [] 0 zn Q:=K1t hyp (tA 1 ((tA 1 (tO (An.cl KI) (tA 1 (tR [] [] KI [] 0 z zn)))).fork (tA 2 (Tr.lp 5 171 QU [] (Fg N.nl N.lc 0) (Za N) 5 z zn (YDv r1 r2 r3 z zn)))))
abbrev X9(N:aM):List (Nat × aa):=[(0,N.cA N.u0 az),Yc,(2,Yt),(3,bb []),(4,bb [])]
theorem rkz(z:T aa)(zn:Nat)(N:aM)(Q:QL)(hyp:E6 171 z zn (YV/\YX/\Q YO YZ [Ya] 5 z zn)):ew prog gP z RL 171 Ff z (X9 N) 5 zn 5 Q:=K1t hyp (tA 2 (tE Yf [] YZ [Ya] 5 z zn))
theorem fkz(z:T aa)(zn:Nat)(N:aM)(Q:QF)(hyp:Rf 5/\ai prog RL 5 171 Ff (X9 N) 5 z zn (alt True (ax.mk YO Yh [Yc] 5 z zn) Al.nil).R/\E6 171 z zn (R8 Yi YU Yj (MP 3) (MP 4) Yk YM YM (KO RN (BQ [Yo N,Yp N,Up N,Yk,Yr N,Ys N,ZV N.d,ZV N.w,ZV N.c] 9 1 31)/\YX/\Yu/\Yu/\Yu/\ ∀(x:Unit),True->E6 171 z zn (Yw/\Q Yv [] 0 z zn)))):ed prog gP z f46 [AG (N.eA N.u0 az)] z [] 0 zn Q:=K1t hyp (tA 4 (Tr.lp 5 171 QU [] Ff (X9 N) 5 z zn (Al.cons Unit Yx (fun(x:Unit)=>ax.mk YO Yh [Yc] 5 z zn) (Yy z zn) Al.nil)))
end
noncomputable section
abbrev BH(N:aM):aa:=BQ [Yo N,Yp N,Up N,Nr N,Yr N,Ys N,ZV N.d,ZV N.w,ZV N.c] 9 1 31
abbrev eI(i:Nat):Nat × Value:=(1,IV i)
abbrev VA(i:Nat)(f tt:Int)(j:Nat)(m:Int)(k:Nat):List (Nat × Value):=[eI i,(2,ZV f),(3,ZV tt),(4,Yi),(9,IV j),(10,ZV m),(11,IV (k+1))]
noncomputable abbrev VF:Code:=ah (ag f84) 0
abbrev OA(N:aM):List (Nat × aa):=[(0,N.cA N.u0 N.l1)]
theorem ZG(z:T aa)(zn i k j:Nat)(N:aM)(kb:ba)(y:aH)(f tt m:Int)(Q:QL)(hyp:Br (decide ((↑k:Int)<(↑i:Int))) (Yz k/\k<N.nl/\KN/\KM z kb/\aE prog kb 4 (0+k*5+4)=some (Value.bool y.stay)/\Br y.stay (y.stay=true/\y.stay=true/\y.stay=true/\Yz k/\k<N.nl/\y.stay=true/\y.stay=true/\KN/\KM z kb/\aE prog kb 3 (0+k*5+0)=some (vq y)/\y.stay=true/\y.stay=true/\Br (y.fz1==f) (y.stay=true/\Yz k/\k<N.nl/\KN/\KM z kb/\aE prog kb 3 (0+k*5+2)=some (ZV y.aq)/\ZV (IntKind.i64.wrap ((↑k:Int)+1))=IV (k+1)/\E6 48 z zn (R7 (IV i) (ZV f) (ZV tt) Yi (IV j) (ZV y.aq) (IV (k+1)) (KO YD (BH N)/\Q aN [eI i,(2,ZV f),(3,ZV tt),(4,Yi),(9,IV j),(10,ZV y.aq),(11,IV (k+1))] [(0,BH N)] 1 z zn))) (y.stay=true/\ZV (IntKind.i64.wrap ((↑k:Int)+1))=IV (k+1)/\E6 48 z zn (R7 (IV i) (ZV f) (ZV tt) Yi (IV j) (ZV m) (IV (k+1)) (KO YD (BH N)/\Q aN (VA i f tt j m k) [(0,BH N)] 1 z zn)))) (y.stay=false/\y.stay=false/\y.stay=false/\y.stay=false/\y.stay=false/\y.stay=false/\y.stay=false/\y.stay=false/\ZV (IntKind.i64.wrap ((↑k:Int)+1))=IV (k+1)/\E6 48 z zn (R7 (IV i) (ZV f) (ZV tt) Yi (IV j) (ZV m) (IV (k+1)) (KO YD (BH N)/\Q aN (VA i f tt j m k) [(0,BH N)] 1 z zn)))) (E6 48 z zn (R6 (IV i) (ZV f) (ZV tt) Yi (IV j) (ZV m) (KO YD (BH N)/\Q ja [eI i,(2,ZV f),(3,ZV tt),(4,Yi),(9,IV j),(10,ZV m)] [(0,BH N)] 1 z zn)))):ew prog gP z (ah VF 0) 48 (rJ i f tt j m k) z (OA N) 1 zn 1 Q:=K1t hyp ((tA 2 (tO (Y9 k) (tO (An.ld 0 kb (Value.bool y.stay)) ((tO cH (tA 1 (tO cH (tO cH (tO (Y9 k) (tO cH (tO cH (tO (An.ld 0 kb (zv y.fz1)) (tO cH (tO cH ((tO cH (tA 2 (tO (Y9 k) (tO (An.ld 0 kb (zv y.aq)) (tO (dS k) (tE YC [] [eI i,(2,ZV f),(3,ZV tt),(4,Yi),(9,IV j),(10,ZV y.aq),(11,IV (k+1))] [(0,BH N)] 1 z zn)))))).fork (tO cH (tA 1 (tO (dS k) (tE YC [] (VA i f tt j m k) [(0,BH N)] 1 z zn))))))))))))))).fork (tO bO (tO bO (tO bO (tO bO (tO bO (tO bO (tO bO (tO bO (tA 1 (tO (dS k) (tE YC [] (VA i f tt j m k) [(0,BH N)] 1 z zn))))))))))))))).fork (tA 1 (tE YC [] [eI i,(2,ZV f),(3,ZV tt),(4,Yi),(9,IV j),(10,ZV m)] [(0,BH N)] 1 z zn)))
theorem ZH(z:T aa)(zn i j:Nat)(N:aM)(r f tt:Int)(Q:QL)(hyp:Br (decide ((↑j:Int)<=(↑i:Int))) (YP/\ai prog (ah VF 0) 1 48 (rJ i f tt j (-1) 0) (OA N) 1 z zn (alt True (ax.mk ja (Ia i f tt j r) (OA N) 1 z zn) Al.nil).R/\E6 48 z zn (R7 (IV i) (ZV f) (ZV tt) Yi (IV j) (J 0) YM (KO YD (BH N)/\ ∀(x:Unit),True->Br (r==tt) (E6 48 z zn (YA/\Q af.ret [(8,T1)] [] 1 z zn)) (ZV (IntKind.i64.wrap ((↑j:Int)+1))=IV (j+1)/\E6 48 z zn (R5 (IV i) (ZV r) (ZV tt) Yi (IV (j+1)) (KO YD (BH N)/\Q aN [eI i,(2,ZV r),(3,ZV tt),(4,Yi),Gj j] [(0,BH N)] 1 z zn)))))) (E6 48 z zn (Q YO [] [] 1 z zn))):ew prog gP z VF 48 (E9 i f tt j) z (OA N) 1 zn 1 Q:=K1t hyp ((tA 1 (Tr.lp 1 48 YC [] (rJ i f tt j (-1) 0) (OA N) 1 z zn (Al.cons Unit Yx (fun(x:Unit)=>ax.mk ja (Ia i f tt j r) (OA N) 1 z zn) (fun(x:Unit)=>(tA 1 (tE [] [] [(8,T1)] [] 1 z zn)).fork (tA 1 (tO (dS j) (tE YC [] [eI i,(2,ZV r),(3,ZV tt),(4,Yi),Gj j] [(0,BH N)] 1 z zn)))) Al.nil))).fork (Uo z zn))
theorem frl(z:T aa)(zn i:Nat)(N:aM)(f tt:Int)(b:Bool)(Q:QF)(hyp:YP/\ai prog VF 1 48 (E9 i f tt 0) (OA N) 1 z zn (alt (b=true) (ax.mk af.ret [(8,T1)] [] 1 z zn) (alt (b=false) (ax.mk YO [] [] 1 z zn) Al.nil)).R/\E6 48 z zn (R5 (IV i) (ZV f) (ZV tt) Yi YM (KO YD (BH N)/\(∀(x:Unit),b=true->E6 48 z zn (YA/\Q T1 [] 0 z zn))/\ ∀(x:Unit),b=false->E6 48 z zn (YQ/\Q F0 [] 0 z zn)))):ed prog gP z f84 [AG (N.eA N.u0 N.l1),iv i,zv f,zv tt] z [] 0 zn Q:=K1t hyp (Tr.lp 1 48 YC [] (E9 i f tt 0) (OA N) 1 z zn (Al.cons Unit (YR b) (fun(x:Unit)=>ax.mk af.ret [(8,T1)] [] 1 z zn) (fun(x:Unit)=>tR [] [] T1 [] 0 z zn) (Al.cons Unit (YS b) (fun(x:Unit)=>ax.mk YO [] [] 1 z zn) (fun(x:Unit)=>GM z zn) Al.nil)))
abbrev Q0:Prop:=Rs (I 19)
abbrev GI(N:aM):Prop:=KO nS (BQ (QT N) 9 1 31)
abbrev Gh(x:aH):aa:=BQ [vq x,ZV x.fc,ZV x.aq,ZV x.tc,Value.bool x.stay] 5 1 123
abbrev RU(i k:Nat):List (Nat × Value):=[eI i,(2,Yi),(5,YU),Gk k]
abbrev B4(N:aM)(x:aH):List (Nat × aa):=[QS N,(1,Gh x)]
abbrev KK(N:aM)(x:aH):List (Nat × aa):=[(0,N.cA N.u1 N.l1),(1,Gu x)]
theorem Sy(z:T aa)(zn i k:Nat)(N:aM)(kb:ba)(x y:aH)(Q:QL)(hyp:Br (decide ((↑k:Int)<(↑i:Int))) (Yz k/\k<N.nl/\KN/\KM z kb/\RT kb k y/\Br x.stay (Br y.stay (Br (y.fz1==x.fz1) (E6 177 z zn (Q0/\Q af.ret [(4,I 19)] [] 2 z zn)) (Br (y.aq==x.aq) (E6 177 z zn (Q0/\Q af.ret [(4,I 19)] [] 2 z zn)) (ZV (IntKind.i64.wrap ((↑k:Int)+1))=IV (k+1)/\E6 177 z zn (R4 (IV i) Yi YU (IV (k+1)) (GI N/\Rs (Gh x)/\Q aN (RU i k) (B4 N x) 2 z zn))))) (ZV (IntKind.i64.wrap ((↑k:Int)+1))=IV (k+1)/\E6 177 z zn (R4 (IV i) Yi YU (IV (k+1)) (GI N/\Rs (Gh x)/\Q aN (RU i k) (B4 N x) 2 z zn)))) (ZV (IntKind.i64.wrap ((↑k:Int)+1))=IV (k+1)/\E6 177 z zn (R4 (IV i) Yi YU (IV (k+1)) (GI N/\Rs (Gh x)/\Q aN (RU i k) (B4 N x) 2 z zn)))) (E6 177 z zn (R3 (IV i) Yi YU (GI N/\Rs (Gh x)/\Q YO [eI i,(2,Yi),(5,YU)] (B4 N x) 2 z zn)))):ew prog gP z (ah (ag f70) 0) 177 (ym i k) z (KK N x) 2 zn 2 Q:=K1t hyp ((tA 2 (tO (Y9 k) (tO (RK kb y) (tA 1 ((tA 2 ((tA 8 ((tA 10 (tE [] [] [(4,I 19)] [] 2 z zn)).fork (tA 8 ((tA 4 (tE [] [] [(4,I 19)] [] 2 z zn)).fork (tA 4 (tO (dS k) (tE dq [] (RU i k) (B4 N x) 2 z zn))))))).fork (tA 10 (tO (dS k) (tE dq [] (RU i k) (B4 N x) 2 z zn))))).fork (tA 12 (tO (dS k) (tE dq [] (RU i k) (B4 N x) 2 z zn)))))))).fork (tA 1 (tE dq [] [eI i,(2,Yi),(5,YU)] (B4 N x) 2 z zn)))
abbrev Oz(i k:Nat):List (Nat × Value):=[eI i,(2,Yi),(5,YU),(10,IV (k+1))]
theorem Sx(z:T aa)(zn i k:Nat)(N:aM)(kb:ba)(x y:aH)(Q:QL)(hyp:Br (decide ((↑k:Int)<(↑i:Int))) (Yz k/\k<N.nl/\KN/\KM z kb/\RT kb k y/\Br (y.fz1==x.fz1) (Br (y.fc==x.fc) (Br (y.aq==x.aq) (Br (y.tc==x.tc) (E6 177 z zn (Rs (I 6)/\Q af.ret [(4,I 6)] [] 2 z zn)) (ZV (IntKind.i64.wrap ((↑k:Int)+1))=IV (k+1)/\E6 177 z zn (R4 (IV i) Yi YU (IV (k+1)) (GI N/\Rs (Gh x)/\Q aN (Oz i k) (B4 N x) 2 z zn)))) (ZV (IntKind.i64.wrap ((↑k:Int)+1))=IV (k+1)/\E6 177 z zn (R4 (IV i) Yi YU (IV (k+1)) (GI N/\Rs (Gh x)/\Q aN (Oz i k) (B4 N x) 2 z zn)))) (ZV (IntKind.i64.wrap ((↑k:Int)+1))=IV (k+1)/\E6 177 z zn (R4 (IV i) Yi YU (IV (k+1)) (GI N/\Rs (Gh x)/\Q aN (Oz i k) (B4 N x) 2 z zn)))) (ZV (IntKind.i64.wrap ((↑k:Int)+1))=IV (k+1)/\E6 177 z zn (R4 (IV i) Yi YU (IV (k+1)) (GI N/\Rs (Gh x)/\Q aN (Oz i k) (B4 N x) 2 z zn)))) (E6 177 z zn (Q ja [] [] 2 z zn))):ew prog gP z (ah (ag f70) 1) 177 (AA i k) z (KK N x) 2 zn 2 Q:=K1t hyp ((tA 2 (tO (Y9 k) (tO (RK kb y) (tA 3 ((tA 7 ((tA 8 ((tA 8 ((tA 2 (tE [] [] [(4,I 6)] [] 2 z zn)).fork (tA 2 (tO (dS k) (tE dq [] (Oz i k) (B4 N x) 2 z zn))))).fork (tA 8 (tO (dS k) (tE dq [] (Oz i k) (B4 N x) 2 z zn))))).fork (tA 14 (tO (dS k) (tE dq [] (Oz i k) (B4 N x) 2 z zn))))).fork (tA 19 (tO (dS k) (tE dq [] (Oz i k) (B4 N x) 2 z zn)))))))).fork (tA 1 (tE [] [] [] [] 2 z zn)))
abbrev GH:Prop:=Rs (I 9)
abbrev YEA(i:Nat)(N:aM)(x:aH)(z:T aa)(zn:Nat)(va:Bool):Prop:=ai prog (ah (ag f70) 0) 2 177 (ym i 0) (KK N x) 2 z zn (alt (va=true) (ax.mk af.ret [(4,I 19)] [] 2 z zn) (alt (va=false) (ax.mk YO (LN i) (KK N x) 2 z zn) Al.nil)).R
abbrev YEB(i:Nat)(N:aM)(x:aH)(z:T aa)(zn:Nat)(vb:Bool):Prop:=ai prog (ah (ag f70) 1) 2 177 (AA i 0) (KK N x) 2 z zn (alt (vb=true) (ax.mk af.ret [(4,I 6)] [] 2 z zn) (alt (vb=false) (ax.mk ja [] [] 2 z zn) Al.nil)).R
noncomputable abbrev KG(z:T aa)(zn:Nat):Tr:=tR [] [] (I 9) [] 0 z zn
noncomputable abbrev YED(i:Nat)(N:aM)(x:aH)(z:T aa)(zn:Nat)(vb:Bool):Tr:=Tr.lp 2 177 dq [] (AA i 0) (KK N x) 2 z zn (Al.cons Unit (YR vb) (fun(x:Unit)=>ax.mk af.ret [(4,I 6)] [] 2 z zn) (fun(x:Unit)=>tR [] [] (I 6) [] 0 z zn) (Al.cons Unit (YS vb) (fun(x:Unit)=>ax.mk ja [] [] 2 z zn) (VW z zn) Al.nil))
theorem flk(z:T aa)(zn i:Nat)(N:aM)(kl kr ka kb:ba)(x:aH)(f tn fc tc ma ca mb cb:Nat)(sa sb:Int)(lb va vb:Bool)(Q:QF)(hyp:Yz i/\i<N.nl/\KN/\KM z kl/\RT kl i x/\WQ1 ((↑N.nu:Int) - 1)/\Rf z/\gP 82 [vq x,YM,ZV ((↑N.nu:Int) - 1)]=some (Value.bool (decide (0<=x.fz1) && decide (x.fz1<=(↑N.nu:Int) - 1)))/\Br (!(decide (0<=x.fz1) && decide (x.fz1<=(↑N.nu:Int) - 1))) ((!(decide (0<=x.fz1) && decide (x.fz1<=(↑N.nu:Int) - 1)))=true/\(!(decide (0<=x.fz1) && decide (x.fz1<=(↑N.nu:Int) - 1)))=true/\(!(decide (0<=x.fz1) && decide (x.fz1<=(↑N.nu:Int) - 1)))=true/\(!(decide (0<=x.fz1) && decide (x.fz1<=(↑N.nu:Int) - 1)))=true/\(!(decide (0<=x.fz1) && decide (x.fz1<=(↑N.nu:Int) - 1)))=true/\(!(decide (0<=x.fz1) && decide (x.fz1<=(↑N.nu:Int) - 1)))=true/\(!(decide (0<=x.fz1) && decide (x.fz1<=(↑N.nu:Int) - 1)))=true/\(!(decide (0<=x.fz1) && decide (x.fz1<=(↑N.nu:Int) - 1)))=true/\E6 177 z zn (GH/\Q (I 9) [] 0 z zn)) ((!(decide (0<=x.fz1) && decide (x.fz1<=(↑N.nu:Int) - 1)))=false/\(!(decide (0<=x.fz1) && decide (x.fz1<=(↑N.nu:Int) - 1)))=false/\(!(decide (0<=x.fz1) && decide (x.fz1<=(↑N.nu:Int) - 1)))=false/\(!(decide (0<=x.fz1) && decide (x.fz1<=(↑N.nu:Int) - 1)))=false/\(!(decide (0<=x.fz1) && decide (x.fz1<=(↑N.nu:Int) - 1)))=false/\WQ1 ((↑N.nu:Int) - 1)/\(!(decide (0<=x.fz1) && decide (x.fz1<=(↑N.nu:Int) - 1)))=false/\Rf z/\gP 82 [ZV x.aq,YM,ZV ((↑N.nu:Int) - 1)]=some (Value.bool (decide (0<=x.aq) && decide (x.aq<=(↑N.nu:Int) - 1)))/\(!(decide (0<=x.fz1) && decide (x.fz1<=(↑N.nu:Int) - 1)))=false/\(!(decide (0<=x.fz1) && decide (x.fz1<=(↑N.nu:Int) - 1)))=false/\Br (!(decide (0<=x.aq) && decide (x.aq<=(↑N.nu:Int) - 1))) ((!(decide (0<=x.aq) && decide (x.aq<=(↑N.nu:Int) - 1)))=true/\(!(decide (0<=x.aq) && decide (x.aq<=(↑N.nu:Int) - 1)))=true/\(!(decide (0<=x.aq) && decide (x.aq<=(↑N.nu:Int) - 1)))=true/\(!(decide (0<=x.aq) && decide (x.aq<=(↑N.nu:Int) - 1)))=true/\(!(decide (0<=x.aq) && decide (x.aq<=(↑N.nu:Int) - 1)))=true/\E6 177 z zn (GH/\Q (I 9) [] 0 z zn)) ((!(decide (0<=x.aq) && decide (x.aq<=(↑N.nu:Int) - 1)))=false/\(!(decide (0<=x.aq) && decide (x.aq<=(↑N.nu:Int) - 1)))=false/\(!(decide (0<=x.aq) && decide (x.aq<=(↑N.nu:Int) - 1)))=false/\(!(decide (0<=x.aq) && decide (x.aq<=(↑N.nu:Int) - 1)))=false/\Br (x.fz1==x.aq) ((!(decide (0<=x.aq) && decide (x.aq<=(↑N.nu:Int) - 1)))=false/\E6 177 z zn (GH/\Q (I 9) [] 0 z zn)) ((!(decide (0<=x.aq) && decide (x.aq<=(↑N.nu:Int) - 1)))=false/\x.fz1=(↑f:Int)/\f<N.nu/\Rf 766/\QX z kr/\VE kr f ma ca/\x.aq=(↑tn:Int)/\tn<N.nu/\Rf 766/\QX z kr/\VE kr tn mb cb/\WQ1 ((↑ma:Int) - 1)/\Rf z/\gP 82 [ZV x.fc,YM,ZV ((↑ma:Int) - 1)]=some (Value.bool (decide (0<=x.fc) && decide (x.fc<=(↑ma:Int) - 1)))/\Br (!(decide (0<=x.fc) && decide (x.fc<=(↑ma:Int) - 1))) ((!(decide (0<=x.fc) && decide (x.fc<=(↑ma:Int) - 1)))=true/\(!(decide (0<=x.fc) && decide (x.fc<=(↑ma:Int) - 1)))=true/\(!(decide (0<=x.fc) && decide
 (x.fc<=(↑ma:Int) - 1)))=true/\(!(decide (0<=x.fc) && decide (x.fc<=(↑ma:Int) - 1)))=true/\(!(decide (0<=x.fc) && decide (x.fc<=(↑ma:Int) - 1)))=true/\(!(decide (0<=x.fc) && decide (x.fc<=(↑ma:Int) - 1)))=true/\(!(decide (0<=x.fc) && decide (x.fc<=(↑ma:Int) - 1)))=true/\E6 177 z zn (GH/\Q (I 9) [] 0 z zn)) ((!(decide (0<=x.fc) && decide (x.fc<=(↑ma:Int) - 1)))=false/\(!(decide (0<=x.fc) && decide (x.fc<=(↑ma:Int) - 1)))=false/\(!(decide (0<=x.fc) && decide (x.fc<=(↑ma:Int) - 1)))=false/\(!(decide (0<=x.fc) && decide (x.fc<=(↑ma:Int) - 1)))=false/\WQ1 ((↑mb:Int) - 1)/\(!(decide (0<=x.fc) && decide (x.fc<=(↑ma:Int) - 1)))=false/\Rf z/\gP 82 [ZV x.tc,YM,ZV ((↑mb:Int) - 1)]=some (Value.bool (decide (0<=x.tc) && decide (x.tc<=(↑mb:Int) - 1)))/\(!(decide (0<=x.fc) && decide (x.fc<=(↑ma:Int) - 1)))=false/\(!(decide (0<=x.fc) && decide (x.fc<=(↑ma:Int) - 1)))=false/\Br (!(decide (0<=x.tc) && decide (x.tc<=(↑mb:Int) - 1))) (E6 177 z zn (GH/\Q (I 9) [] 0 z zn)) (x.fc=(↑fc:Int)/\fc<ma/\RQ f/\RP z f ka/\RO ka fc sa/\x.tc=(↑tc:Int)/\tc<mb/\RQ tn/\RP z tn kb/\RO kb tc sb/\Br (sa !=sb) (E6 177 z zn (Rs (I 13)/\Q (I 13) [] 0 z zn)) (Br x.stay (WQ1 ((↑ma:Int) - 1)/\Br (x.fc !=(↑ma:Int) - 1) (E6 177 z zn (Q0/\Q (I 19) [] 0 z zn)) (Br (x.tc !=0) (E6 177 z zn (Q0/\Q (I 19) [] 0 z zn)) (sZ/\YEA i N x z zn va/\E6 177 z zn (R4 (IV i) Yi YU YM (GI N/\Rs (Gh x)/\(∀(x:Unit),va=true->E6 177 z zn (Q0/\Q (I 19) [] 0 z zn))/\ ∀(x_1:Unit),va=false->Value.bool x.stay=T1/\aT prog z zn 84 [AG (QT N),IV i,ZV x.aq,vq x] [] 0 0 Yx (GG lb) db/\bz (sig []) [AG (QT N),IV i,ZV x.aq,vq x]=some [AG (QT N),IV i,ZV x.aq,vq x]/\ ∀(x_2:Unit),True->Rs (gJ lb)/\Br lb (E6 177 z zn (Q0/\Q (I 19) [] 0 z zn)) (sZ/\YEB i N x z zn vb/\E6 177 z zn (R4 (IV i) Yi YU YM (GI N/\Rs (Gh x)/\(∀(x:Unit),vb=true->E6 177 z zn (Rs (I 6)/\Q (I 6) [] 0 z zn))/\ ∀(x:Unit),vb=false->E6 177 z zn (Ki/\Q YM [] 0 z zn))))))))) (sZ/\YEA i N x z zn va/\E6 177 z zn (R4 (IV i) Yi YU YM (GI N/\Rs (Gh x)/\(∀(x:Unit),va=true->E6 177 z zn (Q0/\Q (I 19) [] 0 z zn))/\ ∀(x_1:Unit),va=false->Value.bool x.stay=F0/\sZ/\YEB i N x z zn vb/\E6 177 z zn (R4 (IV i) Yi YU YM (GI N/\Rs (Gh x)/\(∀(x:Unit),vb=true->E6 177 z zn (Rs (I 6)/\Q (I 6) [] 0 z zn))/\ ∀(x:Unit),vb=false->E6 177 z zn (Ki/\Q YM [] 0 z zn))))))))))))):ed prog gP z f70 [AG (N.eA N.u1 N.l1),iv i] z [] 0 zn Q:=K1t hyp (tA 1 (tO (Y9 i) (tO (RK kl x) (tA 3 (tO (An.val (ZV ((↑N.nu:Int) - 1))) (tO (An.cl (Value.bool (decide (0<=x.fz1) && decide (x.fz1<=(↑N.nu:Int) - 1)))) ((tO cH (tO cH (tO cH (tO cH (tO cH (tO cH (tO cH (tO cH (tA 7 (KG z zn)))))))))).fork (tO bO (tA 1 (tO bO (tO bO (tA 1 (tO bO (tO bO (tO (An.val (ZV ((↑N.nu:Int) - 1))) (tO bO (tO (An.cl (Value.bool (decide (0<=x.aq) && decide (x.aq<=(↑N.nu:Int) - 1)))) (tO bO (tO bO ((tO cH (tO cH (tO cH (tO cH (tO cH (tA 1 (KG z zn))))))).fork (tO bO (tA 1 (tO bO (tO bO (tA 1 (tO bO ((tO bO (tA 1 (KG z zn))).fork (tO bO (tA 3 (tO (Y9 f) (tO (An.ld 1 kr (tb
 (6+f) ma ca)) (tA 2 (tO (Y9 tn) (tO (An.ld 1 kr (tb (6+tn) mb cb)) (tA 1 (tO (An.val (ZV ((↑ma:Int) - 1))) (tO (An.cl (Value.bool (decide (0<=x.fc) && decide (x.fc<=(↑ma:Int) - 1)))) ((tO cH (tO cH (tO cH (tO cH (tO cH (tO cH (tO cH (tA 1 (KG z zn))))))))).fork (tO bO (tA 1 (tO bO (tO bO (tO bO (tO (An.val (ZV ((↑mb:Int) - 1))) (tO bO (tO (An.cl (Value.bool (decide (0<=x.tc) && decide (x.tc<=(↑mb:Int) - 1)))) (tO bO (tO bO ((KG z zn).fork (tA 1 (tO (Y9 fc) (tO (An.ld (6+f) ka (zv sa)) (tA 1 (tO (Y9 tc) (tO (An.ld (6+tn) kb (zv sb)) ((tA 1 (tR [] [] (I 13) [] 0 z zn)).fork (tA 1 ((tA 6 (tO (An.val (ZV ((↑ma:Int) - 1))) (tA 1 ((tA 8 (tR [] [] (I 19) [] 0 z zn)).fork (tA 5 ((tA 4 (tR [] [] (I 19) [] 0 z zn)).fork (tA 4 (Tr.lp 2 177 dq [] (ym i 0) (KK N x) 2 z zn (Al.cons Unit (YR va) (fun(x:Unit)=>ax.mk af.ret [(4,I 19)] [] 2 z zn) (fun(x:Unit)=>tR [] [] (I 19) [] 0 z zn) (Al.cons Unit (YS va) (fun(x_1:Unit)=>ax.mk YO (LN i) (KK N x) 2 z zn) (fun(x_1:Unit)=>tO Sf (tA 10 (Tr.cm (Cm.mk [AG (QT N),IV i,ZV x.aq,vq x] [] 0 0 [] [] 2) Unit Yx (GG lb) db (GG lb) db (fZ z) (fY zn) fun(x_2:Unit)=>tA 1 ((tR [] [] (I 19) [] 0 z zn).fork (YED i N x z zn vb))))) Al.nil)))))))))).fork (tA 10 (Tr.lp 2 177 dq [] (ym i 0) (KK N x) 2 z zn (Al.cons Unit (YR va) (fun(x:Unit)=>ax.mk af.ret [(4,I 19)] [] 2 z zn) (fun(x:Unit)=>tR [] [] (I 19) [] 0 z zn) (Al.cons Unit (YS va) (fun(x_1:Unit)=>ax.mk YO (LN i) (KK N x) 2 z zn) (fun(x_1:Unit)=>tO GP (tA 9 (YED i N x z zn vb))) Al.nil))))))))))))))))))))))))))))))))))))))))))))))))))))))))))))))
theorem XG(z:T aa)(zn i:Nat)(N:aM)(kl:ba)(x:aH)(Q:QF)(hyp:Yz i/\i<N.nl/\KN/\KM z kl/\RT kl i x/\Rf z/\gP 82 [vq x,YM,J 0]=some F0/\E6 177 z zn (GH/\Q (I 9) [] 0 z zn)):ed prog gP z f70 [AG (N.eA az N.l1),iv i] z [] 0 zn Q:=K1t hyp (tA 1 (tO (Y9 i) (tO (RK kl x) (tA 4 (tO (An.cl F0) (tA 16 (KG z zn)))))))
end
noncomputable section
abbrev YEE(kb:ba)(i:Nat)(x:bw):Prop:=aE prog kb 127 (0+i*5)=some (AG [ZV x.stop,ZV x.arr,ZV x.dep,Value.bool x.N4,Value.bool x.J8])
abbrev ED:Prop:=Rs (I 10)
theorem XE(z:T aa)(zn k i n cp:Nat)(s lo hi:Int)(kb:ba)(x p:bw)(Q:QF)(hyp:Yz i/\i<n/\Y0 k/\Y2 z k kb/\YEE kb i x/\Br (decide (x.stop<0)) (E6 70 z zn (GH/\Q (I 9) [] 0 z zn)) (Br (decide (x.stop>=s)) (E6 70 z zn (GH/\Q (I 9) [] 0 z zn)) (Br (decide ((↑i:Int)>0)) (WQ1 ((↑i:Int) - 1)/\(↑i:Int) - 1=(↑(i - 1):Int)/\i - 1<n/\Y0 k/\Y2 z k kb/\aE prog kb 3 (0+(i - 1)*5+0)=some (ZV p.stop)/\Br (p.stop==x.stop) (E6 70 z zn (Rs (I 13)/\Q (I 13) [] 0 z zn)) (Br (decide (x.arr<lo)) (E6 70 z zn (ED/\Q (I 10) [] 0 z zn)) (Br (decide (x.arr>x.dep)) (E6 70 z zn (ED/\Q (I 10) [] 0 z zn)) (Br (decide (x.dep>hi)) (E6 70 z zn (ED/\Q (I 10) [] 0 z zn)) (Value.bool (decide ((↑i:Int)>0))=T1/\WQ1 ((↑i:Int) - 1)/\(↑i:Int) - 1=(↑(i - 1):Int)/\i - 1<n/\Y0 k/\Y2 z k kb/\aE prog kb 3 (0+(i - 1)*5+2)=some (ZV p.dep)/\Br (decide (x.arr<p.dep)) (E6 70 z zn (ED/\Q (I 10) [] 0 z zn)) (E6 70 z zn (Ki/\Q YM [] 0 z zn))))))) (Br (decide (x.arr<lo)) (E6 70 z zn (ED/\Q (I 10) [] 0 z zn)) (Br (decide (x.arr>x.dep)) (E6 70 z zn (ED/\Q (I 10) [] 0 z zn)) (Br (decide (x.dep>hi)) (E6 70 z zn (ED/\Q (I 10) [] 0 z zn)) (Value.bool (decide ((↑i:Int)>0))=F0/\E6 70 z zn (Ki/\Q YM [] 0 z zn)))))))):ed prog gP z f74 [tb k n cp,iv i,zv s,zv lo,zv hi] z [] 0 zn Q:=K1t hyp (tO (Y9 i) (tO (An.ld k kb (AG x.row)) (tA 2 ((tA 6 (KG z zn)).fork (tA 5 ((tA 2 (KG z zn)).fork (tA 2 ((tA 3 (tO (An.val (ZV ((↑i:Int) - 1))) (tA 1 (tO (An.idx (i - 1)) (tA 2 (tO (An.ld k kb (zv p.stop)) (tA 4 ((tA 2 (tR [] [] (I 13) [] 0 z zn)).fork (tA 3 ((tA 17 (tR [] [] (I 10) [] 0 z zn)).fork (tA 7 ((tA 12 (tR [] [] (I 10) [] 0 z zn)).fork (tA 6 ((tA 7 (tR [] [] (I 10) [] 0 z zn)).fork (tA 3 (tO Sf (tA 7 (tO (An.val (ZV ((↑i:Int) - 1))) (tA 1 (tO (An.idx (i - 1)) (tA 2 (tO (An.ld k kb (zv p.dep)) (tA 1 ((tA 4 (tR [] [] (I 10) [] 0 z zn)).fork (tA 4 (tR [] [] YM [] 0 z zn)))))))))))))))))))))))))).fork (tA 12 ((tA 17 (tR [] [] (I 10) [] 0 z zn)).fork (tA 7 ((tA 12 (tR [] [] (I 10) [] 0 z zn)).fork (tA 6 ((tA 7 (tR [] [] (I 10) [] 0 z zn)).fork (tA 3 (tO GP (tA 14 (tR [] [] YM [] 0 z zn))))))))))))))))))
theorem ZL(z:T aa)(zn k i n cp:Nat)(s lo hi e:Int)(Q:QL)(hyp:Br (decide ((↑i:Int)<(↑n:Int))) (aT prog z zn 74 [SL (tF k) n cp,IV i,ZV s,ZV lo,ZV hi] [] 0 0 Yx (ON e) db/\Rs [SL (tF k) n cp,IV i,ZV s,ZV lo,ZV hi]/\ ∀(x:Unit),True->Rs (ZV e)/\Br (e !=0) (E6 36 z zn (R2 (IV i) (ZV e) (Q af.ret [(8,IV i),(9,ZV e)] [] 0 z zn))) (ZV (IntKind.i64.wrap ((↑i:Int)+1))=IV (i+1)/\E6 36 z zn (R6 (SL (tF k) n cp) (ZV s) (ZV lo) (ZV hi) (IV n) (IV (i+1)) (Q aN [(0,SL (tF k) n cp),(1,ZV s),(2,ZV lo),(3,ZV hi),(21,IV n),(22,IV (i+1))] [] 0 z zn)))) (E6 36 z zn (Q YO [] [] 0 z zn))):ew prog gP z (ah (ag f60) 0) 36 (Fi k n cp s lo hi i) z [] 0 zn 0 Q:=K1t hyp ((tA 1 (Tr.cm (Cm.mk [SL (tF k) n cp,IV i,ZV s,ZV lo,ZV hi] [] 0 0 [] [] 0) Unit Yx (ON e) db (fun(x:Unit)=>ZV e) db (fZ z) (fY zn) fun(x:Unit)=>(tA 1 (tE [] [] [(8,IV i),(9,ZV e)] [] 0 z zn)).fork (tA 1 (tO (dS i) (tE [] [] [(0,SL (tF k) n cp),(1,ZV s),(2,ZV lo),(3,ZV hi),(21,IV n),(22,IV (i+1))] [] 0 z zn))))).fork (Q5 z zn))
abbrev B3:Value:=TP [YM,I 5]
abbrev KF:Prop:=Rs B3
theorem fck(z:T aa)(zn k n cp:Nat)(s lo hi r1 r2:Int)(Q:QF)(hyp:Br (decide ((↑n:Int)<2)) (E6 36 z zn (KF/\Q B3 [] 0 z zn)) (Br (decide ((↑n:Int)>32)) (E6 36 z zn (KF/\Q B3 [] 0 z zn)) (r9/\ai prog (ah (ag f60) 0) 0 36 (Fi k n cp s lo hi 0) [] 0 z zn (jd z zn 0 8 9 0 r1 r2).R/\E6 36 z zn (R6 (SL (tF k) n cp) (ZV s) (ZV lo) (ZV hi) (IV n) YM ((∀(x:Unit),True->E6 36 z zn (BK r1 r2/\Q (GQ r1 r2) [] 0 z zn))/\ ∀(x:Unit),r1=0/\r2=0->E6 36 z zn (vW/\Q sY [] 0 z zn)))))):ed prog gP z f60 [tb k n cp,zv s,zv lo,zv hi] z [] 0 zn Q:=K1t hyp ((tA 5 (tR [] [] B3 [] 0 z zn)).fork (tA 3 ((tA 2 (tR [] [] B3 [] 0 z zn)).fork (tA 2 (Tr.lp 0 36 [] [] (Fi k n cp s lo hi 0) [] 0 z zn (Al.cons Unit Yx (fun(x:Unit)=>ax.mk af.ret [(8,zv r1),(9,zv r2)] [] 0 z zn) (RX r1 r2 z zn) (Al.cons Unit (Q3 r1 r2) (Q4 z zn) (KL z zn) Al.nil)))))))
abbrev EC:List (Nat × Value):=[(8,I 10)]
abbrev Vw(k n cp:Nat)(s lo hi:Int)(i:Nat):List (Nat × Value):=[(0,SL (tF k) n cp),(1,ZV s),(2,ZV lo),(3,ZV hi),Gj i]
theorem ZE(z:T aa)(zn k i n cp:Nat)(s lo hi:Int)(kb:ba)(x p:bw)(Q:QL)(hyp:Br (decide ((↑i:Int)<(↑n:Int))) (Yz i/\i<n/\Y0 k/\Y2 z k kb/\YEE kb i x/\Br (decide (x.stop<0)) (E6 83 z zn (GH/\Q af.ret [(8,I 9)] [] 0 z zn)) (Br (decide (x.stop>=s)) (E6 83 z zn (GH/\Q af.ret [(8,I 9)] [] 0 z zn)) (Br (decide ((↑i:Int)>0)) (WQ1 ((↑i:Int) - 1)/\(↑i:Int) - 1=(↑(i - 1):Int)/\i - 1<n/\Y0 k/\Y2 z k kb/\aE prog kb 3 (0+(i - 1)*5+0)=some (ZV p.stop)/\Br (p.stop==x.stop) (E6 83 z zn (Rs (I 13)/\Q af.ret [(8,I 13)] [] 0 z zn)) (Br (decide (x.arr<lo)) (E6 83 z zn (ED/\Q af.ret EC [] 0 z zn)) (Br (decide (x.arr>x.dep)) (E6 83 z zn (ED/\Q af.ret EC [] 0 z zn)) (Br (decide (x.dep>hi)) (E6 83 z zn (ED/\Q af.ret EC [] 0 z zn)) (Value.bool (decide ((↑i:Int)>0))=T1/\WQ1 ((↑i:Int) - 1)/\(↑i:Int) - 1=(↑(i - 1):Int)/\i - 1<n/\Y0 k/\Y2 z k kb/\aE prog kb 3 (0+(i - 1)*5+2)=some (ZV p.dep)/\Br (decide (x.arr<p.dep)) (E6 83 z zn (ED/\Q af.ret EC [] 0 z zn)) (ZV (IntKind.i64.wrap ((↑i:Int)+1))=IV (i+1)/\E6 83 z zn (R5 (SL (tF k) n cp) (ZV s) (ZV lo) (ZV hi) (IV (i+1)) (Q aN (Vw k n cp s lo hi i) [] 0 z zn)))))))) (Br (decide (x.arr<lo)) (E6 83 z zn (ED/\Q af.ret EC [] 0 z zn)) (Br (decide (x.arr>x.dep)) (E6 83 z zn (ED/\Q af.ret EC [] 0 z zn)) (Br (decide (x.dep>hi)) (E6 83 z zn (ED/\Q af.ret EC [] 0 z zn)) (Value.bool (decide ((↑i:Int)>0))=F0/\ZV (IntKind.i64.wrap ((↑i:Int)+1))=IV (i+1)/\E6 83 z zn (R5 (SL (tF k) n cp) (ZV s) (ZV lo) (ZV hi) (IV (i+1)) (Q aN (Vw k n cp s lo hi i) [] 0 z zn))))))))) (E6 83 z zn (Q YO [] [] 0 z zn))):ew prog gP z (ah (ag f83) 0) 83 (Ay k n cp s lo hi i) z [] 0 zn 0 Q:=K1t hyp ((tA 1 (tO (Y9 i) (tO (An.ld k kb (AG x.row)) (tA 2 ((tA 6 (tE [] [] [(8,I 9)] [] 0 z zn)).fork (tA 5 ((tA 2 (tE [] [] [(8,I 9)] [] 0 z zn)).fork (tA 2 ((tA 3 (tO (An.val (ZV ((↑i:Int) - 1))) (tA 1 (tO (An.idx (i - 1)) (tA 2 (tO (An.ld k kb (zv p.stop)) (tA 4 ((tA 2 (tE [] [] [(8,I 13)] [] 0 z zn)).fork (tA 3 ((tA 17 (tE [] [] EC [] 0 z zn)).fork (tA 7 ((tA 12 (tE [] [] EC [] 0 z zn)).fork (tA 6 ((tA 7 (tE [] [] EC [] 0 z zn)).fork (tA 3 (tO Sf (tA 7 (tO (An.val (ZV ((↑i:Int) - 1))) (tA 1 (tO (An.idx (i - 1)) (tA 2 (tO (An.ld k kb (zv p.dep)) (tA 1 ((tA 4 (tE [] [] EC [] 0 z zn)).fork (tA 4 (tO (dS i) (tE [] [] (Vw k n cp s lo hi i) [] 0 z zn))))))))))))))))))))))))))).fork (tA 12 ((tA 17 (tE [] [] EC [] 0 z zn)).fork (tA 7 ((tA 12 (tE [] [] EC [] 0 z zn)).fork (tA 6 ((tA 7 (tE [] [] EC [] 0 z zn)).fork (tA 3 (tO GP (tA 14 (tO (dS i) (tE [] [] (Vw k n cp s lo hi i) [] 0 z zn)))))))))))))))))))).fork (Q5 z zn))
theorem frc(z:T aa)(zn k n cp:Nat)(s lo hi r:Int)(Q:QF)(hyp:Br (decide ((↑n:Int)<2)) (E6 83 z zn (Rs (I 5)/\Q (I 5) [] 0 z zn)) (Br (decide ((↑n:Int)>32)) (E6 83 z zn (Rs (I 5)/\Q (I 5) [] 0 z zn)) (r9/\ai prog (ah (ag f83) 0) 0 83 (Ay k n cp s lo hi 0) [] 0 z zn (alt True (ax.mk af.ret [(8,zv r)] [] 0 z zn) (alt (r=0) (ax.mk YO [] [] 0 z zn) Al.nil)).R/\E6 83 z zn (R5 (SL (tF k) n cp) (ZV s) (ZV lo) (ZV hi) YM ((∀(x:Unit),True->E6 83 z zn (Rs (ZV r)/\Q (ZV r) [] 0 z zn))/\ ∀(x:Unit),r=0->E6 83 z zn (Ki/\Q YM [] 0 z zn)))))):ed prog gP z f83 [tb k n cp,zv s,zv lo,zv hi] z [] 0 zn Q:=K1t hyp ((tA 5 (tR [] [] (I 5) [] 0 z zn)).fork (tA 3 ((tA 2 (tR [] [] (I 5) [] 0 z zn)).fork (tA 2 (Tr.lp 0 83 [] [] (Ay k n cp s lo hi 0) [] 0 z zn (Al.cons Unit Yx (fun(x:Unit)=>ax.mk af.ret [(8,zv r)] [] 0 z zn) (fun(x:Unit)=>tR [] [] (ZV r) [] 0 z zn) (Al.cons Unit (Uq r) (Q4 z zn) (VW z zn) Al.nil)))))))
end
noncomputable section
abbrev Gf(x:bI):Value:=Value.string x.id
abbrev RI(x:bI):List Value:=[Gf x,ZV x.cy,ZV x.bT,ZV x.cu,ZV x.aK,ZV x.mi]
abbrev GF(i:Nat):List (Nat × Value):=[(2,IV i),(3,I 12)]
abbrev sX(i:Nat):List (Nat × Value):=[(2,IV i),(3,I 6)]
abbrev Vv(x:bI):Value:=Value.bool (decide (0<=x.cy) && decide (x.cy<=1000000))
abbrev qv(i:Nat):List (Nat × Value):=[(2,IV i),(3,cC)]
abbrev Vu(x:bI):Value:=Value.bool (decide (1<=x.bT) && decide (x.bT<=8))
abbrev Vt(x:bI):Value:=Value.bool (decide (1<=x.cu) && decide (x.cu<=16))
abbrev Vs(x:bI):Value:=Value.bool (decide (0<=x.aK) && decide (x.aK<=86400))
abbrev Vr(x:bI):Value:=Value.bool (decide (1<=x.mi) && decide (x.mi<=255))
noncomputable abbrev Vq:Code:=ah (ag f47) 0
theorem ZF(z:T aa)(zn i n cp:Nat)(kb:ba)(x:bI)(ks:List Value)(Q:QL)(hyp:Br (decide ((↑i:Int)<(↑n:Int))) (Yz i/\i<n/\Rf 1790/\z.get 5=some (Y1 kb)/\aE prog kb 131 (0+i*6)=some (AG (RI x))/\Rf z/\gP 50 [Gf x]=some (Value.bool (bK x.id))/\Br (!bK x.id) (E6 79 z zn (R2 (IV i) (I 12) (Q af.ret (GF i) [] 2 z zn))) (aC prog 9 (Gf x) (eB ks) 0≠none/\(∀(p:Nat × Value),aC prog 9 (Gf x) (eB ks) 0=YH p->Exists (GK p))/\(∀(i_1:Nat),aC prog 9 (Gf x) (eB ks) 0=GJ i_1->E6 79 z zn (R2 (IV i) (I 6) (Q af.ret (sX i) [] 2 z zn)))/\(aC prog 9 (Gf x) (eB ks) 0=YL->Rf z/\gP 63 [ZV x.cy,YM,I 1000000]=some (Vv x)/\Br (!(decide (0<=x.cy) && decide (x.cy<=1000000))) ((!(decide (0<=x.cy) && decide (x.cy<=1000000)))=true/\(!(decide (0<=x.cy) && decide (x.cy<=1000000)))=true/\(!(decide (0<=x.cy) && decide (x.cy<=1000000)))=true/\(!(decide (0<=x.cy) && decide (x.cy<=1000000)))=true/\E6 79 z zn (R2 (IV i) cC (Q af.ret (qv i) [] 2 z zn))) ((!(decide (0<=x.cy) && decide (x.cy<=1000000)))=false/\(!(decide (0<=x.cy) && decide (x.cy<=1000000)))=false/\Rf z/\gP 63 [ZV x.bT,I 1,I 8]=some (Vu x)/\(!(decide (0<=x.cy) && decide (x.cy<=1000000)))=false/\(!(decide (0<=x.cy) && decide (x.cy<=1000000)))=false/\Br (!(decide (1<=x.bT) && decide (x.bT<=8))) ((!(decide (1<=x.bT) && decide (x.bT<=8)))=true/\(!(decide (1<=x.bT) && decide (x.bT<=8)))=true/\(!(decide (1<=x.bT) && decide (x.bT<=8)))=true/\(!(decide (1<=x.bT) && decide (x.bT<=8)))=true/\E6 79 z zn (R2 (IV i) cC (Q af.ret (qv i) [] 2 z zn))) ((!(decide (1<=x.bT) && decide (x.bT<=8)))=false/\(!(decide (1<=x.bT) && decide (x.bT<=8)))=false/\Rf z/\gP 63 [ZV x.cu,I 1,I 16]=some (Vt x)/\(!(decide (1<=x.bT) && decide (x.bT<=8)))=false/\(!(decide (1<=x.bT) && decide (x.bT<=8)))=false/\Br (!(decide (1<=x.cu) && decide (x.cu<=16))) ((!(decide (1<=x.cu) && decide (x.cu<=16)))=true/\(!(decide (1<=x.cu) && decide (x.cu<=16)))=true/\(!(decide (1<=x.cu) && decide (x.cu<=16)))=true/\(!(decide (1<=x.cu) && decide (x.cu<=16)))=true/\E6 79 z zn (R2 (IV i) cC (Q af.ret (qv i) [] 2 z zn))) ((!(decide (1<=x.cu) && decide (x.cu<=16)))=false/\(!(decide (1<=x.cu) && decide (x.cu<=16)))=false/\Rf z/\gP 63 [ZV x.aK,YM,I 86400]=some (Vs x)/\(!(decide (1<=x.cu) && decide (x.cu<=16)))=false/\(!(decide (1<=x.cu) && decide (x.cu<=16)))=false/\Br (!(decide (0<=x.aK) && decide (x.aK<=86400))) ((!(decide (0<=x.aK) && decide (x.aK<=86400)))=true/\(!(decide (0<=x.aK) && decide (x.aK<=86400)))=true/\(!(decide (0<=x.aK) && decide (x.aK<=86400)))=true/\(!(decide (0<=x.aK) && decide (x.aK<=86400)))=true/\E6 79 z zn (R2 (IV i) cC (Q af.ret (qv i) [] 2 z zn))) ((!(decide (0<=x.aK) && decide (x.aK<=86400)))=false/\(!(decide (0<=x.aK) && decide (x.aK<=86400)))=false/\Rf z/\gP 63 [ZV x.mi,I 1,I 255]=some (Vr x)/\(!(decide (0<=x.aK) && decide (x.aK<=86400)))=false/\(!(decide (0<=x.aK) &&
 decide (x.aK<=86400)))=false/\Br (!(decide (1<=x.mi) && decide (x.mi<=255))) (E6 79 z zn (R2 (IV i) cC (Q af.ret (qv i) [] 2 z zn))) (aC prog 9 (Gf x) (eB ks) 0=YL/\ZV (IntKind.i64.wrap ((↑i:Int)+1))=IV (i+1)/\E6 79 z zn (R4 (MP 1) (SL 1790 n cp) (IV n) (IV (i+1)) (KO (aA Yf []) (aa.map (eB ks++[MapEntry.mk (Gf x) T1 ks.length]) (ks.length+1))/\Q aN [(4,MP 1),(29,SL 1790 n cp),(30,IV n),(31,IV (i+1))] [(1,aa.map (eB ks++[MapEntry.mk (Gf x) T1 ks.length]) (ks.length+1))] 2 z zn)))))))))) (E6 79 z zn (Q YO [] [] 2 z zn))):ew prog gP z Vq 79 (Fa n cp i) z [(1,bb ks)] 2 zn 2 Q:=K1t hyp ((tA 1 (tO (Y9 i) (tO (An.ld 5 kb (AG x.row)) (tA 2 (tO (An.cl (Value.bool (bK x.id))) ((tE [] [] (GF i) [] 2 z zn).fork (tA 1 (Tr.find Nat (fun(x:Nat)=>(x,T1)) (fun(i_1:Nat)=>tA 1 (tE [] [] (sX i) [] 2 z zn)) (tA 2 (tO (An.cl (Vv x)) ((tO cH (tO cH (tO cH (tO cH (tA 16 (tE [] [] (qv i) [] 2 z zn)))))).fork (tO bO (tA 1 (tO bO (tO (An.cl (Vu x)) (tO bO (tO bO ((tO cH (tO cH (tO cH (tO cH (tA 11 (tE [] [] (qv i) [] 2 z zn)))))).fork (tO bO (tA 1 (tO bO (tO (An.cl (Vt x)) (tO bO (tO bO ((tO cH (tO cH (tO cH (tO cH (tA 6 (tE [] [] (qv i) [] 2 z zn)))))).fork (tO bO (tA 1 (tO bO (tO (An.cl (Vs x)) (tO bO (tO bO ((tO cH (tO cH (tO cH (tO cH (tA 1 (tE [] [] (qv i) [] 2 z zn)))))).fork (tO bO (tA 1 (tO bO (tO (An.cl (Vr x)) (tO bO (tO bO ((tE [] [] (qv i) [] 2 z zn).fork (tA 1 (tO BI (tO (dS i) (tE Yf [] [(4,MP 1),(29,SL 1790 n cp),(30,IV n),(31,IV (i+1))] [(1,aa.map (eB ks++[MapEntry.mk (Gf x) T1 ks.length]) (ks.length+1))] 2 z zn))))))))))))))))))))))))))))))))))))))))))).fork (tA 1 (tE [] [] [] [] 2 z zn)))
abbrev Vp(d:Int):Prop:=gP 63 [ZV d,YM,I 1000000]=some (Ze d)
abbrev Ul:List (Nat × aa):=[(1,bb [])]
noncomputable abbrev RH(z:T aa)(zn:Nat):Tr:=tA 1 (tR [] [] B3 [] 0 z zn)
theorem XD(z:T aa)(zn n cp:Nat)(r1 r2 d w c:Int)(Q:QF)(hyp:Rf z/\Vp d/\Br (!(decide (0<=d) && decide (d<=1000000))) ((!(decide (0<=d) && decide (d<=1000000)))=true/\(!(decide (0<=d) && decide (d<=1000000)))=true/\(!(decide (0<=d) && decide (d<=1000000)))=true/\(!(decide (0<=d) && decide (d<=1000000)))=true/\E6 79 z zn (GL/\Q EF [] 0 z zn)) ((!(decide (0<=d) && decide (d<=1000000)))=false/\(!(decide (0<=d) && decide (d<=1000000)))=false/\Rf z/\gP 63 [ZV w,YM,I 86400]=some (OL w)/\(!(decide (0<=d) && decide (d<=1000000)))=false/\(!(decide (0<=d) && decide (d<=1000000)))=false/\Br (!(decide (0<=w) && decide (w<=86400))) ((!(decide (0<=w) && decide (w<=86400)))=true/\(!(decide (0<=w) && decide (w<=86400)))=true/\(!(decide (0<=w) && decide (w<=86400)))=true/\(!(decide (0<=w) && decide (w<=86400)))=true/\E6 79 z zn (GL/\Q EF [] 0 z zn)) ((!(decide (0<=w) && decide (w<=86400)))=false/\(!(decide (0<=w) && decide (w<=86400)))=false/\Rf z/\Vp c/\(!(decide (0<=w) && decide (w<=86400)))=false/\(!(decide (0<=w) && decide (w<=86400)))=false/\Br (!(decide (0<=c) && decide (c<=1000000))) (E6 79 z zn (GL/\Q EF [] 0 z zn)) (Br (decide ((↑n:Int)>16)) (E6 79 z zn (KF/\Q B3 [] 0 z zn)) (sZ/\ai prog Vq 2 79 (Fa n cp 0) Ul 2 z zn (jd z zn 2 2 3 0 r1 r2).R/\E6 79 z zn (R4 (MP 1) (SL 1790 n cp) (IV n) YM (Yu/\(∀(x:Unit),True->E6 79 z zn (BK r1 r2/\Q (GQ r1 r2) [] 0 z zn))/\ ∀(x:Unit),r1=0/\r2=0->E6 79 z zn (vW/\Q sY [] 0 z zn)))))))):ed prog gP z f47 [AG [tb 5 n cp,zv d,zv w,zv c]] z [] 0 zn Q:=K1t hyp (tA 1 (tO (OJ d) ((VP z zn).fork (tO bO (tA 1 (tO bO (tO (An.cl (OL w)) (tO bO (tO bO ((VO z zn).fork (tO bO (tA 1 (tO bO (tO (OJ c) (tO bO (tO bO ((RY z zn).fork (tA 1 ((RH z zn).fork (tA 2 (Tr.lp 2 79 Yf [] (Fa n cp 0) Ul 2 z zn (Al.cons Unit Yx (fun(x:Unit)=>ax.mk af.ret [(2,zv r1),(3,zv r2)] [] 2 z zn) (RX r1 r2 z zn) (Al.cons Unit (Q3 r1 r2) (fun(x:Unit)=>ax.mk YO [] [] 2 z zn) (KL z zn) Al.nil)))))))))))))))))))))))
theorem XC(z:T aa)(zn:Nat)(d w c:Int)(Q:QF)(hyp:Rf z/\Vp d/\Br (!(decide (0<=d) && decide (d<=1000000))) ((!(decide (0<=d) && decide (d<=1000000)))=true/\(!(decide (0<=d) && decide (d<=1000000)))=true/\(!(decide (0<=d) && decide (d<=1000000)))=true/\(!(decide (0<=d) && decide (d<=1000000)))=true/\E6 79 z zn (GL/\Q EF [] 0 z zn)) ((!(decide (0<=d) && decide (d<=1000000)))=false/\(!(decide (0<=d) && decide (d<=1000000)))=false/\Rf z/\gP 63 [ZV w,YM,I 86400]=some (OL w)/\(!(decide (0<=d) && decide (d<=1000000)))=false/\(!(decide (0<=d) && decide (d<=1000000)))=false/\Br (!(decide (0<=w) && decide (w<=86400))) ((!(decide (0<=w) && decide (w<=86400)))=true/\(!(decide (0<=w) && decide (w<=86400)))=true/\(!(decide (0<=w) && decide (w<=86400)))=true/\(!(decide (0<=w) && decide (w<=86400)))=true/\E6 79 z zn (GL/\Q EF [] 0 z zn)) ((!(decide (0<=w) && decide (w<=86400)))=false/\(!(decide (0<=w) && decide (w<=86400)))=false/\Rf z/\Vp c/\(!(decide (0<=w) && decide (w<=86400)))=false/\(!(decide (0<=w) && decide (w<=86400)))=false/\Br (!(decide (0<=c) && decide (c<=1000000))) (E6 79 z zn (GL/\Q EF [] 0 z zn)) (sZ/\ai prog Vq 2 79 wQ Ul 2 z zn (alt True (ax.mk YO [] [] 2 z zn) Al.nil).R/\E6 79 z zn (R4 (MP 1) Yk YM YM (Yu/\ ∀(x:Unit),True->E6 79 z zn (vW/\Q sY [] 0 z zn))))))):ed prog gP z f47 [AG [az,zv d,zv w,zv c]] z [] 0 zn Q:=K1t hyp (tA 1 (tO (OJ d) ((VP z zn).fork (tO bO (tA 1 (tO bO (tO (An.cl (OL w)) (tO bO (tO bO ((VO z zn).fork (tO bO (tA 1 (tO bO (tO (OJ c) (tO bO (tO bO ((RY z zn).fork (tA 4 (Tr.lp 2 79 Yf [] wQ Ul 2 z zn (Al.cons Unit Yx (fun(x:Unit)=>ax.mk YO [] [] 2 z zn) (KL z zn) Al.nil))))))))))))))))))))
theorem Wq(z:T aa)(zn:Nat)(Q:QL)(hyp:E6 79 z zn (Q YO [] [] 2 z zn)):ew prog gP z Vq 79 wQ z Ul 2 zn 2 Q:=K1t hyp (tA 2 (tE [] [] [] [] 2 z zn))
end
noncomputable section
abbrev Di(y:aY):Value:=Value.string y.id
abbrev X7(kb:ba)(k:Nat)(y:aY):Prop:=aE prog kb 9 (0+k*3+0)=some (Di y)
theorem Sv(z:T aa)(zn i k n cp:Nat)(kb:ba)(x y:aY)(Q:QL)(hyp:Br (decide ((↑k:Int)<(↑i:Int))) (Yz k/\k<n/\Rf 1278/\z.get 3=some (Y1 kb)/\X7 kb k y/\Yz i/\i<n/\Rf 1278/\z.get 3=some (Y1 kb)/\X7 kb i x/\Br (y.id.toList==x.id.toList) (E6 48 z zn (R2 (IV i) (I 6) (Q af.ret (sX i) [] 0 z zn))) (ZV (IntKind.i64.wrap ((↑k:Int)+1))=IV (k+1)/\E6 48 z zn (R3 (SL 1278 n cp) (IV i) (IV (k+1)) (Q aN [(0,SL 1278 n cp),(4,IV i),(5,IV (k+1))] [] 0 z zn)))) (E6 48 z zn (R2 (SL 1278 n cp) (IV i) (Q ja [(0,SL 1278 n cp),(4,IV i)] [] 0 z zn)))):ew prog gP z (ah R9 0) 48 (wO n cp i k) z [] 0 zn 0 Q:=K1t hyp ((tA 1 (tO (Y9 k) (tO (An.ld 3 kb (Di y)) (tO (Y9 i) (tO (An.ld 3 kb (Di x)) ((tA 1 (tE [] [] (sX i) [] 0 z zn)).fork (tA 1 (tO (dS k) (tE [] [] [(0,SL 1278 n cp),(4,IV i),(5,IV (k+1))] [] 0 z zn))))))))).fork (tA 1 (tE [] [] [(0,SL 1278 n cp),(4,IV i)] [] 0 z zn)))
noncomputable abbrev Vo(i:Nat)(z:T aa)(zn:Nat):ax:=ax.mk af.ret [(2,iv i),(3,I 6)] [] 0 z zn
abbrev YEb(x:aY):Value:=Value.bool (decide (0<=x.mode) && decide (x.mode<=7))
theorem ZB(z:T aa)(zn i n cp:Nat)(kb:ba)(x:aY)(b:Bool)(Q:QL)(hyp:Br (decide ((↑i:Int)<(↑n:Int))) (Yz i/\i<n/\Rf 1278/\z.get 3=some (Y1 kb)/\X7 kb i x/\Rf z/\gP 81 [Di x]=some (Value.bool (bK x.id))/\Br (!bK x.id) (E6 48 z zn (R2 (IV i) (I 12) (Q af.ret (GF i) [] 0 z zn))) (r9/\ai prog (ah R9 0) 0 48 (wO n cp i 0) [] 0 z zn (alt (b=true) (Vo i z zn) (alt (b=false) (ax.mk ja (yk n cp i) [] 0 z zn) Al.nil)).R/\E6 48 z zn (R3 (SL 1278 n cp) (IV i) YM ((∀(x:Unit),b=true->E6 48 z zn (R2 (IV i) (I 6) (Q af.ret (sX i) [] 0 z zn)))/\ ∀(x_1:Unit),b=false->Yz i/\i<n/\Rf 1278/\z.get 3=some (Y1 kb)/\aE prog kb 3 (0+i*3+1)=some (ZV x.mode)/\Rf z/\gP 82 [ZV x.mode,YM,I 7]=some (YEb x)/\Br (!(decide (0<=x.mode) && decide (x.mode<=7))) (E6 48 z zn (R2 (IV i) cC (Q af.ret (qv i) [] 0 z zn))) (ZV (IntKind.i64.wrap ((↑i:Int)+1))=IV (i+1)/\E6 48 z zn (R2 (SL 1278 n cp) (IV (i+1)) (Q aN [(0,SL 1278 n cp),(4,IV (i+1))] [] 0 z zn))))))) (E6 48 z zn (Q YO [] [] 0 z zn))):ew prog gP z R9 48 (yk n cp i) z [] 0 zn 0 Q:=K1t hyp ((tA 1 (tO (Y9 i) (tO (An.ld 3 kb (Di x)) (tO (An.cl (Value.bool (bK x.id))) ((tE [] [] (GF i) [] 0 z zn).fork (Tr.lp 0 48 [] [] (wO n cp i 0) [] 0 z zn (Al.cons Unit (YR b) (fun(x:Unit)=>Vo i z zn) (fun(x:Unit)=>tE [] [] (sX i) [] 0 z zn) (Al.cons Unit (YS b) (fun(x:Unit)=>ax.mk ja (yk n cp i) [] 0 z zn) (fun(x_1:Unit)=>tO (Y9 i) (tO (An.ld 3 kb (zv x.mode)) (tO (An.cl (YEb x)) ((tE [] [] (qv i) [] 0 z zn).fork (tO (dS i) (tE [] [] [(0,SL 1278 n cp),(4,IV (i+1))] [] 0 z zn)))))) Al.nil)))))))).fork (Q5 z zn))
noncomputable abbrev YEc(r1 r2:Int)(z:T aa)(zn:Nat):Al:=Al.cons Unit Yx (fun(x:Unit)=>ax.mk af.ret [(2,zv r1),(3,zv r2)] [] 0 z zn) (RX r1 r2 z zn) (Al.cons Unit (Q3 r1 r2) (Q4 z zn) (KL z zn) Al.nil)
theorem frr(z:T aa)(zn n cp:Nat)(r1 r2:Int)(Q:QF)(hyp:Br (decide ((↑n:Int)>64)) (E6 48 z zn (KF/\Q B3 [] 0 z zn)) (r9/\ai prog R9 0 48 (yk n cp 0) [] 0 z zn (jd z zn 0 2 3 0 r1 r2).R/\E6 48 z zn (R2 (SL 1278 n cp) YM ((∀(x:Unit),True->E6 48 z zn (BK r1 r2/\Q (GQ r1 r2) [] 0 z zn))/\ ∀(x:Unit),r1=0/\r2=0->E6 48 z zn (vW/\Q sY [] 0 z zn))))):ed prog gP z f68 [tb 3 n cp] z [] 0 zn Q:=K1t hyp ((RH z zn).fork (tA 1 (Tr.lp 0 48 [] [] (yk n cp 0) [] 0 z zn (YEc r1 r2 z zn))))
end
noncomputable section
abbrev YEd(x:aY):Value:=Value.bool (decide (0<=x.mode) && decide (x.mode<8))
noncomputable abbrev Vn:Code:=ah (ag f42) 0
noncomputable abbrev Kg(i:Nat)(z:T aa)(zn:Nat):Tr:=tE [] [] (qv i) [] 1 z zn
theorem Zz(z:T aa)(zn i n cp:Nat)(kb:ba)(x:aY)(ks:List Value)(Q:QL)(hyp:Br (decide ((↑i:Int)<(↑n:Int))) (Yz i/\i<n/\Rf 1278/\z.get 3=some (Y1 kb)/\aE prog kb 113 (0+i*3)=some (AG [Di x,ZV x.mode,Value.bool x.bic])/\Rf z/\gP 50 [Di x]=some (Value.bool (bK x.id))/\Br (!bK x.id) (E6 37 z zn (R2 (IV i) (I 12) (Q af.ret (GF i) [] 1 z zn))) (aC prog 9 (Di x) (eB ks) 0≠none/\(∀(p:Nat × Value),aC prog 9 (Di x) (eB ks) 0=YH p->Exists (GK p))/\(∀(i_1:Nat),aC prog 9 (Di x) (eB ks) 0=GJ i_1->E6 37 z zn (R2 (IV i) (I 6) (Q af.ret (sX i) [] 1 z zn)))/\(aC prog 9 (Di x) (eB ks) 0=YL->Rf z/\gP 59 [ZV x.mode]=some (YEd x)/\Br (!(decide (0<=x.mode) && decide (x.mode<8))) (E6 37 z zn (R2 (IV i) cC (Q af.ret (qv i) [] 1 z zn))) (aC prog 9 (Di x) (eB ks) 0=YL/\ZV (IntKind.i64.wrap ((↑i:Int)+1))=IV (i+1)/\E6 37 z zn (R4 YK (SL 1278 n cp) (IV n) (IV (i+1)) (KO YD (aa.map (eB ks++[MapEntry.mk (Di x) T1 ks.length]) (ks.length+1))/\Q aN [(4,YK),(11,SL 1278 n cp),(12,IV n),(13,IV (i+1))] [(0,aa.map (eB ks++[MapEntry.mk (Di x) T1 ks.length]) (ks.length+1))] 1 z zn)))))) (E6 37 z zn (Q YO [] [] 1 z zn))):ew prog gP z Vn 37 [(4,mp 0),(11,tb 3 n cp),(12,iv n),(13,iv i)] z [(0,bb ks)] 1 zn 1 Q:=K1t hyp ((tA 1 (tO (Y9 i) (tO (An.ld 3 kb (AG x.row)) (tA 2 (tO (An.cl (Value.bool (bK x.id))) ((tE [] [] (GF i) [] 1 z zn).fork (tA 1 (Tr.find Nat (fun(x:Nat)=>(x,T1)) (fun(i_1:Nat)=>tA 1 (tE [] [] (sX i) [] 1 z zn)) (tA 2 (tO (An.cl (YEd x)) ((Kg i z zn).fork (tA 1 (tO BI (tO (dS i) (tE YC [] [(4,YK),(11,SL 1278 n cp),(12,IV n),(13,IV (i+1))] [(0,aa.map (eB ks++[MapEntry.mk (Di x) T1 ks.length]) (ks.length+1))] 1 z zn))))))))))))))).fork (Uo z zn))
noncomputable abbrev X6(r1 r2:Int)(z:T aa)(zn:Nat):Al:=Al.cons Unit Yx (fun(x:Unit)=>ax.mk af.ret [(2,zv r1),(3,zv r2)] [] 1 z zn) (RX r1 r2 z zn) (Al.cons Unit (Q3 r1 r2) (fun(x:Unit)=>ax.mk YO [] [] 1 z zn) (KL z zn) Al.nil)
theorem Xw(z:T aa)(zn n cp:Nat)(r1 r2:Int)(Q:QF)(hyp:Br (decide ((↑n:Int)>64)) (E6 37 z zn (KF/\Q B3 [] 0 z zn)) (YP/\ai prog Vn 1 37 (H9 n cp 0) Dl 1 z zn (jd z zn 1 2 3 0 r1 r2).R/\E6 37 z zn (R4 YK (SL 1278 n cp) (IV n) YM (Yu/\(∀(x:Unit),True->E6 37 z zn (BK r1 r2/\Q (GQ r1 r2) [] 0 z zn))/\ ∀(x:Unit),r1=0/\r2=0->E6 37 z zn (vW/\Q sY [] 0 z zn))))):ed prog gP z f42 [tb 3 n cp] z [] 0 zn Q:=K1t hyp ((RH z zn).fork (tA 1 (Tr.lp 1 37 YC [] (H9 n cp 0) Dl 1 z zn (X6 r1 r2 z zn))))
theorem Xv(z:T aa)(zn:Nat)(Q:QF)(hyp:YP/\ai prog Vn 1 37 wM Dl 1 z zn (VQ z zn)/\E6 37 z zn (R4 YK Yk YM YM (Yu/\ ∀(x:Unit),True->E6 37 z zn (vW/\Q sY [] 0 z zn)))):ed prog gP z f42 [az] z [] 0 zn Q:=K1t hyp (tA 2 (Tr.lp 1 37 YC [] wM Dl 1 z zn (VN z zn)))
theorem Wl(z:T aa)(zn:Nat)(Q:QL)(hyp:E6 37 z zn (Q YO [] [] 1 z zn)):ew prog gP z Vn 37 wM z Dl 1 zn 1 Q:=K1t hyp (tA 2 (tE [] [] [] [] 1 z zn))
end
noncomputable section
abbrev RG(z:T aa)(kb:ba):Prop:=z.get 2=some (Y1 kb)
abbrev Dh(y:bJ):Value:=Value.string y.id
abbrev X5(kb:ba)(k:Nat)(y:bJ):Prop:=aE prog kb 9 (0+k*4+0)=some (Dh y)
theorem Su(z:T aa)(zn i k n cp:Nat)(kb:ba)(x y:bJ)(Q:QL)(hyp:Br (decide ((↑k:Int)<(↑i:Int))) (Yz k/\k<n/\Rf 1022/\RG z kb/\X5 kb k y/\Yz i/\i<n/\Rf 1022/\RG z kb/\X5 kb i x/\Br (y.id.toList==x.id.toList) (E6 57 z zn (R2 (IV i) (I 6) (Q af.ret (sX i) [] 0 z zn))) (ZV (IntKind.i64.wrap ((↑k:Int)+1))=IV (k+1)/\E6 57 z zn (R3 (SL 1022 n cp) (IV i) (IV (k+1)) (Q aN [(0,SL 1022 n cp),(4,IV i),(5,IV (k+1))] [] 0 z zn)))) (E6 57 z zn (R2 (SL 1022 n cp) (IV i) (Q ja [(0,SL 1022 n cp),(4,IV i)] [] 0 z zn)))):ew prog gP z (ah Sa 0) 57 (wN n cp i k) z [] 0 zn 0 Q:=K1t hyp ((tA 1 (tO (Y9 k) (tO (An.ld 2 kb (Dh y)) (tO (Y9 i) (tO (An.ld 2 kb (Dh x)) ((tA 1 (tE [] [] (sX i) [] 0 z zn)).fork (tA 1 (tO (dS k) (tE [] [] [(0,SL 1022 n cp),(4,IV i),(5,IV (k+1))] [] 0 z zn))))))))).fork (tA 1 (tE [] [] [(0,SL 1022 n cp),(4,IV i)] [] 0 z zn)))
abbrev YEk(x:bJ):Value:=Value.bool (decide (0<=x.aR) && decide (x.aR<=15))
abbrev YEl(x:bJ):Value:=Value.bool (decide (0<=x.change) && decide (x.change<=3600))
theorem ZA(z:T aa)(zn i n cp:Nat)(kb:ba)(x:bJ)(b:Bool)(Q:QL)(hyp:Br (decide ((↑i:Int)<(↑n:Int))) (Yz i/\i<n/\Rf 1022/\RG z kb/\X5 kb i x/\Rf z/\gP 81 [Dh x]=some (Value.bool (bK x.id))/\Br (!bK x.id) (E6 57 z zn (R2 (IV i) (I 12) (Q af.ret (GF i) [] 0 z zn))) (r9/\ai prog (ah Sa 0) 0 57 (wN n cp i 0) [] 0 z zn (alt (b=true) (Vo i z zn) (alt (b=false) (ax.mk ja (yj n cp i) [] 0 z zn) Al.nil)).R/\E6 57 z zn (R3 (SL 1022 n cp) (IV i) YM ((∀(x:Unit),b=true->E6 57 z zn (R2 (IV i) (I 6) (Q af.ret (sX i) [] 0 z zn)))/\ ∀(x_1:Unit),b=false->Yz i/\i<n/\Rf 1022/\RG z kb/\aE prog kb 3 (0+i*4+1)=some (ZV x.aR)/\Rf z/\gP 82 [ZV x.aR,YM,I 15]=some (YEk x)/\Br (!(decide (0<=x.aR) && decide (x.aR<=15))) ((!(decide (0<=x.aR) && decide (x.aR<=15)))=true/\(!(decide (0<=x.aR) && decide (x.aR<=15)))=true/\(!(decide (0<=x.aR) && decide (x.aR<=15)))=true/\(!(decide (0<=x.aR) && decide (x.aR<=15)))=true/\(!(decide (0<=x.aR) && decide (x.aR<=15)))=true/\(!(decide (0<=x.aR) && decide (x.aR<=15)))=true/\(!(decide (0<=x.aR) && decide (x.aR<=15)))=true/\E6 57 z zn (R2 (IV i) cC (Q af.ret (qv i) [] 0 z zn))) ((!(decide (0<=x.aR) && decide (x.aR<=15)))=false/\(!(decide (0<=x.aR) && decide (x.aR<=15)))=false/\Yz i/\i<n/\(!(decide (0<=x.aR) && decide (x.aR<=15)))=false/\(!(decide (0<=x.aR) && decide (x.aR<=15)))=false/\Rf 1022/\RG z kb/\aE prog kb 3 (0+i*4+3)=some (ZV x.change)/\(!(decide (0<=x.aR) && decide (x.aR<=15)))=false/\Rf z/\gP 82 [ZV x.change,YM,I 3600]=some (YEl x)/\(!(decide (0<=x.aR) && decide (x.aR<=15)))=false/\(!(decide (0<=x.aR) && decide (x.aR<=15)))=false/\Br (!(decide (0<=x.change) && decide (x.change<=3600))) (E6 57 z zn (R2 (IV i) cC (Q af.ret (qv i) [] 0 z zn))) (ZV (IntKind.i64.wrap ((↑i:Int)+1))=IV (i+1)/\E6 57 z zn (R2 (SL 1022 n cp) (IV (i+1)) (Q aN [(0,SL 1022 n cp),(4,IV (i+1))] [] 0 z zn)))))))) (E6 57 z zn (Q YO [] [] 0 z zn))):ew prog gP z Sa 57 (yj n cp i) z [] 0 zn 0 Q:=K1t hyp ((tA 1 (tO (Y9 i) (tO (An.ld 2 kb (Dh x)) (tO (An.cl (Value.bool (bK x.id))) ((tE [] [] (GF i) [] 0 z zn).fork (Tr.lp 0 57 [] [] (wN n cp i 0) [] 0 z zn (Al.cons Unit (YR b) (fun(x:Unit)=>Vo i z zn) (fun(x:Unit)=>tE [] [] (sX i) [] 0 z zn) (Al.cons Unit (YS b) (fun(x:Unit)=>ax.mk ja (yj n cp i) [] 0 z zn) (fun(x_1:Unit)=>tO (Y9 i) (tO (An.ld 2 kb (zv x.aR)) (tO (An.cl (YEk x)) ((tO cH (tO cH (tO cH (tO cH (tO cH (tO cH (tO cH (tA 1 (tE [] [] (qv i) [] 0 z zn))))))))).fork (tO bO (tO bO (tO (Y9 i) (tO bO (tO bO (tO (An.ld 2 kb (zv x.change)) (tO bO (tO (An.cl (YEl x)) (tO bO (tO bO ((tE [] [] (qv i) [] 0 z zn).fork (tO (dS i) (tE [] [] [(0,SL 1022 n cp),(4,IV (i+1))] [] 0 z zn))))))))))))))))) Al.nil)))))))).fork (Q5 z zn))
theorem Rg(z:T aa)(zn n cp:Nat)(r1 r2:Int)(Q:QF)(hyp:Br (decide ((↑n:Int)>64)) (E6 57 z zn (KF/\Q B3 [] 0 z zn)) (r9/\ai prog Sa 0 57 (yj n cp 0) [] 0 z zn (jd z zn 0 2 3 0 r1 r2).R/\E6 57 z zn (R2 (SL 1022 n cp) YM ((∀(x:Unit),True->E6 57 z zn (BK r1 r2/\Q (GQ r1 r2) [] 0 z zn))/\ ∀(x:Unit),r1=0/\r2=0->E6 57 z zn (vW/\Q sY [] 0 z zn))))):ed prog gP z f67 [tb 2 n cp] z [] 0 zn Q:=K1t hyp ((RH z zn).fork (tA 1 (Tr.lp 0 57 [] [] (yj n cp 0) [] 0 z zn (YEc r1 r2 z zn))))
end
noncomputable section
noncomputable abbrev Vm:Code:=ah (ag f41) 0
theorem Zr(z:T aa)(zn i n cp:Nat)(kb:ba)(x:bJ)(ks:List Value)(Q:QL)(hyp:Br (decide ((↑i:Int)<(↑n:Int))) (Yz i/\i<n/\Rf 1022/\RG z kb/\aE prog kb 86 (0+i*4)=some (AG [Dh x,ZV x.aR,Value.bool x.sf,ZV x.change])/\Rf z/\gP 50 [Dh x]=some (Value.bool (bK x.id))/\Br (!bK x.id) (E6 54 z zn (R2 (IV i) (I 12) (Q af.ret (GF i) [] 1 z zn))) (aC prog 9 (Dh x) (eB ks) 0≠none/\(∀(p:Nat × Value),aC prog 9 (Dh x) (eB ks) 0=YH p->Exists (GK p))/\(∀(i_1:Nat),aC prog 9 (Dh x) (eB ks) 0=GJ i_1->E6 54 z zn (R2 (IV i) (I 6) (Q af.ret (sX i) [] 1 z zn)))/\(aC prog 9 (Dh x) (eB ks) 0=YL->Br (decide (x.aR<0)) (E6 54 z zn (R2 (IV i) cC (Q af.ret (qv i) [] 1 z zn))) (Br (decide (x.aR>=16)) (E6 54 z zn (R2 (IV i) cC (Q af.ret (qv i) [] 1 z zn))) (Br (decide (x.change<0)) (E6 54 z zn (R2 (IV i) cC (Q af.ret (qv i) [] 1 z zn))) (Br (decide (x.change>3600)) (E6 54 z zn (R2 (IV i) cC (Q af.ret (qv i) [] 1 z zn))) (aC prog 9 (Dh x) (eB ks) 0=YL/\ZV (IntKind.i64.wrap ((↑i:Int)+1))=IV (i+1)/\E6 54 z zn (R4 YK (SL 1022 n cp) (IV n) (IV (i+1)) (KO YD (aa.map (eB ks++[MapEntry.mk (Dh x) T1 ks.length]) (ks.length+1))/\Q aN [(4,YK),(11,SL 1022 n cp),(12,IV n),(13,IV (i+1))] [(0,aa.map (eB ks++[MapEntry.mk (Dh x) T1 ks.length]) (ks.length+1))] 1 z zn))))))))) (E6 54 z zn (Q YO [] [] 1 z zn))):ew prog gP z Vm 54 [(4,mp 0),(11,tb 2 n cp),(12,iv n),(13,iv i)] z [(0,bb ks)] 1 zn 1 Q:=K1t hyp ((tA 1 (tO (Y9 i) (tO (An.ld 2 kb (AG x.row)) (tA 2 (tO (An.cl (Value.bool (bK x.id))) ((tE [] [] (GF i) [] 1 z zn).fork (tA 1 (Tr.find Nat (fun(x:Nat)=>(x,T1)) (fun(i_1:Nat)=>tA 1 (tE [] [] (sX i) [] 1 z zn)) (tA 2 ((tA 13 (Kg i z zn)).fork (tA 4 ((tA 10 (Kg i z zn)).fork (tA 5 ((tA 6 (Kg i z zn)).fork (tA 5 ((tA 2 (Kg i z zn)).fork (tA 3 (tO BI (tO (dS i) (tE YC [] [(4,YK),(11,SL 1022 n cp),(12,IV n),(13,IV (i+1))] [(0,aa.map (eB ks++[MapEntry.mk (Dh x) T1 ks.length]) (ks.length+1))] 1 z zn)))))))))))))))))))).fork (Uo z zn))
theorem Xs(z:T aa)(zn n cp:Nat)(r1 r2:Int)(Q:QF)(hyp:Br (decide ((↑n:Int)>64)) (E6 54 z zn (KF/\Q B3 [] 0 z zn)) (YP/\ai prog Vm 1 54 (H8 n cp 0) Dl 1 z zn (jd z zn 1 2 3 0 r1 r2).R/\E6 54 z zn (R4 YK (SL 1022 n cp) (IV n) YM (Yu/\(∀(x:Unit),True->E6 54 z zn (BK r1 r2/\Q (GQ r1 r2) [] 0 z zn))/\ ∀(x:Unit),r1=0/\r2=0->E6 54 z zn (vW/\Q sY [] 0 z zn))))):ed prog gP z f41 [tb 2 n cp] z [] 0 zn Q:=K1t hyp ((RH z zn).fork (tA 1 (Tr.lp 1 54 YC [] (H8 n cp 0) Dl 1 z zn (X6 r1 r2 z zn))))
theorem Xr(z:T aa)(zn:Nat)(Q:QF)(hyp:YP/\ai prog Vm 1 54 wJ Dl 1 z zn (VQ z zn)/\E6 54 z zn (R4 YK Yk YM YM (Yu/\ ∀(x:Unit),True->E6 54 z zn (vW/\Q sY [] 0 z zn)))):ed prog gP z f41 [az] z [] 0 zn Q:=K1t hyp (tA 2 (Tr.lp 1 54 YC [] wJ Dl 1 z zn (VN z zn)))
theorem Wg(z:T aa)(zn:Nat)(Q:QL)(hyp:E6 54 z zn (Q YO [] [] 1 z zn)):ew prog gP z Vm 54 wJ z Dl 1 zn 1 Q:=K1t hyp (tA 2 (tE [] [] [] [] 1 z zn))
end
end Go.Proofs.Nw
namespace Go.Proofs.Nw
open Go Go.AV Tryz
set_option maxRecDepth 100000
def dB(l:List bJ)(i:Nat):Option Int:=match l[i]? with
 |some x=>if bK x.id=false then some 12 else if (l.take i).any (fun y=>y.id.data==x.id.data) then some 6 else if x.aR<0\/16<=x.aR\/x.change<0\/3600<x.change then some 2 else none
 |none=>none
def b9(l:List bJ):Int × Int:=if 64<l.length then (0,5) else scan (dB l) l.length 0
structure cf(z:T aa)(k:Nat)(rows:List (List Value)):Prop where
 here:rows≠[]-> ∃e,z.get k=some (.aw (bq e rows.flatten))
 size: ∀r∈rows,∀s:ByteArray,Value.string s∈r->s.size<=9223372036854775807
theorem cf.sz{z:T aa}{k:Nat}{rows:List (List Value)}(h:cf z k rows){i:Nat}{r:List Value}{s:ByteArray}(hr:rows[i]? =some r)(hs:Value.string s∈r):s.size<=9223372036854775807:=h.size r (List.mem_of_getElem? hr) s hs
theorem cf.aw{z:T aa}{k i:Nat}{rows:List (List Value)}(h:cf z k rows)(hi:i<rows.length): ∃e,z.get k=some (.aw (bq e rows.flatten)):=
 h.here (fun e=>by rw[e] at hi;simp at hi)
theorem aQ{α:Type}{row:α->List Value}{sz:Nat}(l:List α)(h: ∀x,(row x).length=sz): ∀r∈l.map row,r.length=sz:=by
 intro r hr
 obtain⟨y,_,rfl⟩:=List.mem_map.1 hr
 exact h y
theorem bP{n:Nat}(h:n<1000000000):Value.int .i64 (IntKind.i64.wrap ((n:Int)+1))=Value.int .i64 ((n+1:Nat):Int):=by
 have:IntKind.i64.wrap ((n:Int)+1)=(n:Int)+1:=by
  simp only[IntKind.wrap,IntKind.signed,IntKind.bits]
  simp
  omega
 rw[this];rfl
theorem uq{s:ByteArray}{l:List ByteArray}:Value.string s∈l.map Value.string↔s∈l:=by
 rw[List.mem_map]
 exact⟨fun⟨x,h1,h2⟩=>by cases h2;exact h1,fun h=>⟨s,h,rfl⟩⟩
section
variable{z:T aa}{zn:Nat}
theorem LX(hz:ay z zn)(hg:fB prog z gP)(l:List bJ)(cp:Nat)(ht:cf z 2 (l.map bJ.row))(hl:l.length<100000)(r:Int × Int)(hr:scan (dB l) l.length 0=r):
 ai prog (ah (ag f41) 0) 1 54 (H8 l.length cp 0) [(0,bb [])] 1 z zn (Al.R (SV z zn l.length cp r.1 r.2).l):=by
 refine an hD hg (α:=Nat) 1 54 1 (fun i=>i<=l.length/\scan (dB l) (l.length - i) i=r) (fun i=>H8 l.length cp i) (fun i=>[(0,bb (((l.take i).map bJ.id).map .string))]) (fun _=>z) (fun _=>zn) (fun i=>l.length - i) _ (fun i hI=>?_) 0 ⟨Nat.zero_le _,hr⟩
 obtain⟨h1,h2⟩:=hI
 by_cases hi:i<l.length
 ·obtain⟨e,he⟩:=ht.aw (i:=i) (by simpa using hi)
  obtain⟨x,hx⟩: ∃x,l[i]? =some x:=⟨l[i],List.getElem?_eq_getElem hi⟩
  have hid:=UD (ht.sz (i:=i) (r:=x.row) (s:=x.id) (by rw[List.getElem?_map,hx];rfl) (by simp))
  have hrow:aE prog (bq e (l.map bJ.row).flatten) 86 (0+i*4)=some (.agg ⟨x.row⟩):=bG (P:=prog) (e:=e) (t:=86) (k:=i) (r:=x.row) (sz:=4) underlying86 rfl rfl (aQ (row:=bJ.row) l fun _=>rfl) (by rw[List.getElem?_map,hx];rfl)
  have hk:=CL x.id ((l.take i).map bJ.id)
  have hps:=oO ((l.take i).map bJ.id)
  have hany:Value.string x.id∈((l.take i).map bJ.id).map Value.string↔(l.take i).any (fun y=>y.id.data==x.id.data)=true:=by
   rw[uq,List.any_eq_true,List.mem_map]
   exact⟨fun⟨y,q1,q2⟩=>⟨y,q1,by rw[q2];exact(jQ _ _).2 rfl⟩,fun⟨y,q1,q2⟩=>⟨y,q1,(jQ _ _).1 q2⟩⟩
  have hc:decide ((i:Int)<(l.length:Int))=true:=by simp;omega
  have ret: ∀e:Int,dB l i=some e->Al.R (SV z zn l.length cp r.1 r.2).l ⟨.ret,[(2,iv i),(3,zv e)],[],1,z,zn⟩:=fun e h=>by
   have:r=((i:Int),e):=by rw[←h2,dr hi h]
   rw[this];exact bD trivial
  refine t100 (Zr z zn i l.length cp (bq e (l.map bJ.row).flatten) x (((l.take i).map bJ.id).map .string) (ak _ _ _ _ _ _ _ _ _) ⟨fun _=>?_,fun h=>by rw[hc] at h;cases h⟩)
  (repeat' first|(with_reducible first|exact rfl|assumption|apply And.intro|exact hk.no|exact hk.ex|exact iI _ hps rfl|exact bP (by omega))|intro hq)
  all_goals try (have hm:=hk.D7 (by with_reducible assumption);rw[hany] at hm)
  all_goals try (have hm:=hk.Kw (by with_reducible assumption);rw[hany] at hm)
  all_goals clear hk hps hrow hany he ht hz hr
  all_goals first
   |(refine ret _ ?_;clear ret h2;simp only[dB,hx];simp_all;done)
   |(refine ret _ ?_;clear ret h2;simp only[dB,hx];simp_all;omega)
   |with_reducible assumption
   |skip
  have hb:dB l i=none:=by
   clear ret h2
   simp only[dB,hx]
   rw[if_neg (by simp_all),if_neg hm,if_neg (by simp only[decide_eq_false_iff_not] at*;omega)]
  refine⟨i+1,rfl,?_,rfl,rfl,rfl,⟨hi,by rw[←cN hi hb];exact h2⟩,by show l.length - (i+1)<l.length - i;omega⟩
  rw[fM]
  show _=[(0,bb (((l.take (i+1)).map bJ.id).map .string))]
  rw[List.take_add_one,hx]
  simp
 ·have hc:decide ((i:Int)<(l.length:Int))=false:=by simp;omega
  refine t100 (Zr z zn i l.length cp ⟨[],0,0,0,true,true,0,true⟩ ⟨⟨#[]⟩,0,true,0⟩ (((l.take i).map bJ.id).map .string) (ak _ _ _ _ _ _ _ _ _) ⟨nC1 hc,fun _=>?_⟩)
  (repeat' first|(with_reducible first|exact rfl|assumption|apply And.intro))
  refine dD (bD ?_)
  rw[dH (by omega)] at h2
  rw[←h2]
  exact⟨rfl,rfl⟩
theorem Qm(hz:ay z zn)(hg:fB prog z gP)(l:List bJ)(cp:Nat)(ht:cf z 2 (l.map bJ.row)):
 A1 z zn 41 [tb 2 l.length cp] [] 0 0 (.tuple ⟨[zv (b9 l).1,zv (b9 l).2]⟩) []:=by
 refine cW hg (fn:=f41) (by kernel_rfl) (by kernel_rfl) hz ⟨by decide,by decide⟩ rfl (Xs z zn l.length cp (b9 l).1 (b9 l).2 _ ?_)
 by_cases h:64<l.length
 ·have hr:b9 l=(0,5):=if_pos h
  have hc:decide ((l.length:Int)>64)=true:=by simp;omega
  rw[hr]
  refine⟨fun _=>?_,nC1 hc⟩
  (repeat' first|(with_reducible first|exact rfl|assumption|apply And.intro))
  exact q1
 ·have hr:b9 l=scan (dB l) l.length 0:=if_neg h
  have hc:decide ((l.length:Int)>64)=false:=by simp;omega
  have hL:=LX hz hg l cp ht (by omega) (b9 l) hr.symm
  refine⟨nC1 hc,fun _=>?_⟩
  (repeat' first|(with_reducible first|exact rfl|assumption|apply And.intro)|exact hL|intro hq)
  ·exact q1
  ·rw[hq.1,hq.2];exact q1
theorem M0(hz:ay z zn)(hg:fB prog z gP):A1 z zn 41 [az] [] 0 0 (.tuple ⟨[I 0,I 0]⟩) []:=by
 have hL:ai prog (ah (ag f41) 0) 1 54 wJ [(0,bb [])] 1 z zn (Al.R (SU z zn).l):=by
  refine an hD hg (α:=Unit) 1 54 1 (fun _=>True) (fun _=>wJ) (fun _=>[(0,bb [])]) (fun _=>z) (fun _=>zn) (fun _=>0) _ (fun i hI=>?_) () trivial
  refine t100 (Wg z zn (ak _ _ _ _ _ _ _ _ _) ?_)
  (repeat' first|(with_reducible first|exact rfl|assumption|apply And.intro))
  exact bD trivial
 refine cW hg (fn:=f41) (by kernel_rfl) (by kernel_rfl) hz ⟨by decide,by decide⟩ rfl (Xr z zn _ ?_)
 (repeat' first|(with_reducible first|exact rfl|assumption|apply And.intro|exact q1)|exact hL|intro hq)
end
theorem jR{α:Type}{p:α->Bool}{l:List α}{k:Nat}{y:α}(h:l[k]? =some y):(l.take (k+1)).any p=((l.take k).any p||p y):=by
 rw[List.take_add_one,h,List.any_append];simp
theorem any_true{α:Type}{p:α->Bool}{l:List α}{i k:Nat}{y:α}(h:l[k]? =some y)(hk:k<i)(hp:p y=true):(l.take i).any p=true:=by
 rw[List.any_eq_true]
 exact⟨y,List.mem_of_getElem? (by rw[List.getElem?_take,if_pos hk,h]),hp⟩
theorem eV{α:Type}{l:List α}{i:Nat}(h:i<l.length): ∃x,l[i]? =some x:=⟨l[i],List.getElem?_eq_getElem h⟩
theorem o7(a b:ByteArray):(a.toList==b.toList)=(a.data==b.data):=by
 rw[ByteArray.toList_eq,ByteArray.toList_eq]
 cases h:(a.data==b.data) with
 |true=>have:=(jQ a b).1 h;subst this;simp
 |false=>
  cases h2:(a.data.toList==b.data.toList) with
  |false=>rfl
  |true=>
   have h3:a.data.toList=b.data.toList:=by simpa using h2
   have:a.data=b.data:=by cases ha:a.data;cases hb:b.data;rw[ha,hb] at h3;simp at h3;rw[h3]
   rw[this] at h;simp at h
section
variable{z:T aa}{zn:Nat}
theorem Ih(hz:ay z zn)(hg:fB prog z gP)(l:List bJ)(cp:Nat)(e:TypeId)(he:z.get 2=some (.aw (bq e (l.map bJ.row).flatten)))(hl:l.length<100000)(i:Nat)(x:bJ)(hx:l[i]? =some x)(b:Bool)(hb:b=(l.take i).any fun y=>y.id.data==x.id.data):
 ai prog (ah (ah (ag f67) 0) 0) 0 57 (wN l.length cp i 0) [] 0 z zn (Al.R (S1 z zn l.length cp i b).l):=by
 have hil:i<l.length:=(List.getElem?_eq_some_iff.1 hx).1
 refine an hD hg (α:=Nat) 0 57 0 (fun k=>k<=i/\((l.take k).any fun y=>y.id.data==x.id.data)=false) (fun k=>wN l.length cp i k) (fun _=>[]) (fun _=>z) (fun _=>zn) (fun k=>i - k) _ (fun k hI=>?_) 0 ⟨Nat.zero_le _,rfl⟩
 obtain⟨h1,h2⟩:=hI
 have hlen:=aQ (row:=bJ.row) (sz:=4) l fun _=>rfl
 have rx:aE prog (bq e (l.map bJ.row).flatten) 9 (0+i*4+0)=some (.string x.id):=bc (r:=x.row) (j:=0) underlying9 rfl hlen (by rw[List.getElem?_map,hx];rfl) rfl
 by_cases hk:k<i
 ·obtain⟨y,hy⟩:=eV (l:=l) (i:=k) (by omega)
  have ry:aE prog (bq e (l.map bJ.row).flatten) 9 (0+k*4+0)=some (.string y.id):=bc (r:=y.row) (j:=0) underlying9 rfl hlen (by rw[List.getElem?_map,hy];rfl) rfl
  have hc:decide ((k:Int)<(i:Int))=true:=by simp;omega
  refine t100 (Su z zn i k l.length cp (bq e (l.map bJ.row).flatten) x y (ak _ _ _ _ _ _ _ _ _) ⟨fun _=>?_,nC1 hc⟩)
  (repeat' first|(with_reducible first|exact rfl|assumption|apply And.intro|exact(by omega:k<l.length)|exact bP (by omega))|intro hq)
  ·rw[o7] at hq
   exact bD (by rw[hb];exact any_true hy hk hq)
  ·rw[o7] at hq
   exact⟨k+1,rfl,rfl,rfl,rfl,rfl,⟨hk,by rw[jR hy,h2,hq];rfl⟩,by show i - (k+1)<i - k;omega⟩
 ·have hc:decide ((k:Int)<(i:Int))=false:=by simp;omega
  refine t100 (Su z zn i k l.length cp (bq e (l.map bJ.row).flatten) x x (ak _ _ _ _ _ _ _ _ _) ⟨nC1 hc,fun _=>?_⟩)
  (repeat' first|(with_reducible first|exact rfl|assumption|apply And.intro))
  refine dD (bD ?_)
  rw[hb,←h2,show k=i by omega]
theorem L4(hz:ay z zn)(hg:fB prog z gP)(l:List bJ)(cp:Nat)(ht:cf z 2 (l.map bJ.row))(hl:l.length<100000)(r:Int × Int)(hr:scan (dB l) l.length 0=r):
 ai prog (ah (ag f67) 0) 0 57 (yj l.length cp 0) [] 0 z zn (Al.R (S2 z zn l.length cp r.1 r.2).l):=by
 refine an hD hg (α:=Nat) 0 57 0 (fun i=>i<=l.length/\scan (dB l) (l.length - i) i=r) (fun i=>yj l.length cp i) (fun i=>[]) (fun _=>z) (fun _=>zn) (fun i=>l.length - i) _ (fun i hI=>?_) 0 ⟨Nat.zero_le _,hr⟩
 obtain⟨h1,h2⟩:=hI
 by_cases hi:i<l.length
 ·obtain⟨e,he⟩:=ht.aw (i:=i) (by simpa using hi)
  obtain⟨x,hx⟩:=eV hi
  have hid:=UC (ht.sz (i:=i) (r:=x.row) (s:=x.id) (by rw[List.getElem?_map,hx];rfl) (by simp))
  have hlen:=aQ (row:=bJ.row) (sz:=4) l fun _=>rfl
  have hr:(l.map bJ.row)[i]? =some x.row:=by rw[List.getElem?_map,hx];rfl
  have r0:aE prog (bq e (l.map bJ.row).flatten) 9 (0+i*4+0)=some (.string x.id):=bc (j:=0) underlying9 rfl hlen hr rfl
  have r1:aE prog (bq e (l.map bJ.row).flatten) 3 (0+i*4+1)=some (zv x.aR):=bc (j:=1) underlying3 rfl hlen hr rfl
  have r3:aE prog (bq e (l.map bJ.row).flatten) 3 (0+i*4+3)=some (zv x.change):=bc (j:=3) underlying3 rfl hlen hr rfl
  have hL:=Ih hz hg l cp e he hl i x hx _ rfl
  generalize hb:((l.take i).any fun y=>y.id.data==x.id.data)=b at hL
  have hc:decide ((i:Int)<(l.length:Int))=true:=by simp;omega
  have ret: ∀e:Int,dB l i=some e->Al.R (S2 z zn l.length cp r.1 r.2).l ⟨.ret,[(2,iv i),(3,zv e)],[],0,z,zn⟩:=fun e h=>by
   have:r=((i:Int),e):=by rw[←h2,dr hi h]
   rw[this];exact bD trivial
  have hbad:dB l i=if bK x.id=false then some 12 else if b=true then some 6 else if x.aR<0\/16<=x.aR\/x.change<0\/3600<x.change then some 2 else none:=by
   simp only[dB,hx,hb]
  refine t100 (ZA z zn i l.length cp (bq e (l.map bJ.row).flatten) x b (ak _ _ _ _ _ _ _ _ _) ⟨fun _=>?_,nC1 hc⟩)
  (repeat' first|(with_reducible first|exact rfl|assumption|apply And.intro|exact bP (by omega))|exact(rfl:gP _ _=_)|exact hL|intro hq)
  all_goals clear hL r0 r1 r3 hr hlen he ht hz
  all_goals first
   |with_reducible assumption
   |rfl
   |(refine ret _ ?_;clear ret h2;rw[hbad];simp_all;done)
   |(refine ret _ ?_;clear ret h2;rw[hbad];simp_all;omega)
   |(have hb0:dB l i=none:=by
      clear ret h2
      rw[hbad,if_neg (by simp_all),if_neg (by simp_all),if_neg (by simp only[bS1] at*;omega)]
     exact⟨i+1,rfl,rfl,rfl,rfl,rfl,⟨hi,by rw[←cN hi hb0];exact h2⟩,by show l.length - (i+1)<l.length - i;omega⟩)
 ·have hc:decide ((i:Int)<(l.length:Int))=false:=by simp;omega
  refine t100 (ZA z zn i l.length cp ⟨[],0,0,0,true,true,0,true⟩ ⟨⟨#[]⟩,0,true,0⟩ true (ak _ _ _ _ _ _ _ _ _) ⟨nC1 hc,fun _=>?_⟩)
  (repeat' first|(with_reducible first|exact rfl|assumption|apply And.intro))
  refine dD (bD ?_)
  rw[dH (by omega)] at h2
  rw[←h2]
  exact⟨rfl,rfl⟩
theorem JC(hz:ay z zn)(hg:fB prog z gP)(l:List bJ)(cp:Nat)(ht:cf z 2 (l.map bJ.row)):
 A1 z zn 67 [tb 2 l.length cp] [] 0 0 (.tuple ⟨[zv (b9 l).1,zv (b9 l).2]⟩) []:=by
 refine cW hg (fn:=f67) (by kernel_rfl) (by kernel_rfl) hz ⟨by decide,by decide⟩ rfl (Rg z zn l.length cp (b9 l).1 (b9 l).2 _ ?_)
 by_cases h:64<l.length
 ·have hr:b9 l=(0,5):=if_pos h
  have hc:decide ((l.length:Int)>64)=true:=by simp;omega
  rw[hr]
  refine⟨fun _=>?_,nC1 hc⟩
  (repeat' first|(with_reducible first|exact rfl|assumption|apply And.intro))
  exact q1
 ·have hr:b9 l=scan (dB l) l.length 0:=if_neg h
  have hc:decide ((l.length:Int)>64)=false:=by simp;omega
  have hL:=L4 hz hg l cp ht (by omega) (b9 l) hr.symm
  refine⟨nC1 hc,fun _=>?_⟩
  (repeat' first|(with_reducible first|exact rfl|assumption|apply And.intro)|exact hL|intro hq)
  ·exact q1
  ·rw[hq.1,hq.2];exact q1
end
def dv(l:List aY)(i:Nat):Option Int:=match l[i]? with
 |some x=>if bK x.id=false then some 12 else if (l.take i).any (fun y=>y.id.data==x.id.data) then some 6 else if x.mode<0\/8<=x.mode then some 2 else none
 |none=>none
def bY(l:List aY):Int × Int:=if 64<l.length then (0,5) else scan (dv l) l.length 0
section
variable{z:T aa}{zn:Nat}
theorem L3(hz:ay z zn)(hg:fB prog z gP)(l:List aY)(cp:Nat)(ht:cf z 3 (l.map aY.row))(hl:l.length<100000)(r:Int × Int)(hr:scan (dv l) l.length 0=r):
 ai prog (ah (ag f42) 0) 1 37 (H9 l.length cp 0) [(0,bb [])] 1 z zn (Al.R (S0 z zn l.length cp r.1 r.2).l):=by
 refine an hD hg (α:=Nat) 1 37 1 (fun i=>i<=l.length/\scan (dv l) (l.length - i) i=r) (fun i=>H9 l.length cp i) (fun i=>[(0,bb (((l.take i).map aY.id).map .string))]) (fun _=>z) (fun _=>zn) (fun i=>l.length - i) _ (fun i hI=>?_) 0 ⟨Nat.zero_le _,hr⟩
 obtain⟨h1,h2⟩:=hI
 by_cases hi:i<l.length
 ·obtain⟨e,he⟩:=ht.aw (i:=i) (by simpa using hi)
  obtain⟨x,hx⟩: ∃x,l[i]? =some x:=⟨l[i],List.getElem?_eq_getElem hi⟩
  have hid:=UD (ht.sz (i:=i) (r:=x.row) (s:=x.id) (by rw[List.getElem?_map,hx];rfl) (by simp))
  have hrow:aE prog (bq e (l.map aY.row).flatten) 113 (0+i*3)=some (.agg ⟨x.row⟩):=bG (P:=prog) (e:=e) (t:=113) (k:=i) (r:=x.row) (sz:=3) underlying113 rfl rfl (aQ (row:=aY.row) l fun _=>rfl) (by rw[List.getElem?_map,hx];rfl)
  have hk:=CL x.id ((l.take i).map aY.id)
  have hps:=oO ((l.take i).map aY.id)
  have hany:Value.string x.id∈((l.take i).map aY.id).map Value.string↔(l.take i).any (fun y=>y.id.data==x.id.data)=true:=by
   rw[uq,List.any_eq_true,List.mem_map]
   exact⟨fun⟨y,q1,q2⟩=>⟨y,q1,by rw[q2];exact(jQ _ _).2 rfl⟩,fun⟨y,q1,q2⟩=>⟨y,q1,(jQ _ _).1 q2⟩⟩
  have hc:decide ((i:Int)<(l.length:Int))=true:=by simp;omega
  have ret: ∀e:Int,dv l i=some e->Al.R (S0 z zn l.length cp r.1 r.2).l ⟨.ret,[(2,iv i),(3,zv e)],[],1,z,zn⟩:=fun e h=>by
   have:r=((i:Int),e):=by rw[←h2,dr hi h]
   rw[this];exact bD trivial
  refine t100 (Zz z zn i l.length cp (bq e (l.map aY.row).flatten) x (((l.take i).map aY.id).map .string) (ak _ _ _ _ _ _ _ _ _) ⟨fun _=>?_,fun h=>by rw[hc] at h;cases h⟩)
  (repeat' first|(with_reducible first|exact rfl|assumption|apply And.intro|exact hk.no|exact hk.ex|exact iI _ hps rfl|exact bP (by omega))|exact(rfl:gP _ _=_)|intro hq)
  all_goals try (have hm:=hk.D7 (by with_reducible assumption);rw[hany] at hm)
  all_goals try (have hm:=hk.Kw (by with_reducible assumption);rw[hany] at hm)
  all_goals clear hk hps hrow hany he ht hz hr
  all_goals first
   |(refine ret _ ?_;clear ret h2;simp only[dv,hx];simp_all;done)
   |(refine ret _ ?_;clear ret h2;simp only[dv,hx];simp_all;omega)
   |with_reducible assumption
   |rfl
   |skip
  have hb:dv l i=none:=by
   clear ret h2
   simp only[dv,hx]
   rw[if_neg (by simp_all),if_neg hm,if_neg (by simp only[bS1] at*;omega)]
  refine⟨i+1,rfl,?_,rfl,rfl,rfl,⟨hi,by rw[←cN hi hb];exact h2⟩,by show l.length - (i+1)<l.length - i;omega⟩
  rw[fM]
  show _=[(0,bb (((l.take (i+1)).map aY.id).map .string))]
  rw[List.take_add_one,hx]
  simp
 ·have hc:decide ((i:Int)<(l.length:Int))=false:=by simp;omega
  refine t100 (Zz z zn i l.length cp ⟨[],0,0,0,true,true,0,true⟩ ⟨⟨#[]⟩,0,true⟩ (((l.take i).map aY.id).map .string) (ak _ _ _ _ _ _ _ _ _) ⟨nC1 hc,fun _=>?_⟩)
  (repeat' first|(with_reducible first|exact rfl|assumption|apply And.intro))
  refine dD (bD ?_)
  rw[dH (by omega)] at h2
  rw[←h2]
  exact⟨rfl,rfl⟩
theorem M5(hz:ay z zn)(hg:fB prog z gP)(l:List aY)(cp:Nat)(ht:cf z 3 (l.map aY.row)):
 A1 z zn 42 [tb 3 l.length cp] [] 0 0 (.tuple ⟨[zv (bY l).1,zv (bY l).2]⟩) []:=by
 refine cW hg (fn:=f42) (by kernel_rfl) (by kernel_rfl) hz ⟨by decide,by decide⟩ rfl (Xw z zn l.length cp (bY l).1 (bY l).2 _ ?_)
 by_cases h:64<l.length
 ·have hr:bY l=(0,5):=if_pos h
  have hc:decide ((l.length:Int)>64)=true:=by simp;omega
  rw[hr]
  refine⟨fun _=>?_,nC1 hc⟩
  (repeat' first|(with_reducible first|exact rfl|assumption|apply And.intro))
  exact q1
 ·have hr:bY l=scan (dv l) l.length 0:=if_neg h
  have hc:decide ((l.length:Int)>64)=false:=by simp;omega
  have hL:=L3 hz hg l cp ht (by omega) (bY l) hr.symm
  refine⟨nC1 hc,fun _=>?_⟩
  (repeat' first|(with_reducible first|exact rfl|assumption|apply And.intro)|exact hL|intro hq)
  ·exact q1
  ·rw[hq.1,hq.2];exact q1
theorem JE(hz:ay z zn)(hg:fB prog z gP):A1 z zn 42 [az] [] 0 0 (.tuple ⟨[I 0,I 0]⟩) []:=by
 have hL:ai prog (ah (ag f42) 0) 1 37 wM [(0,bb [])] 1 z zn (Al.R (SZ z zn).l):=by
  refine an hD hg (α:=Unit) 1 37 1 (fun _=>True) (fun _=>wM) (fun _=>[(0,bb [])]) (fun _=>z) (fun _=>zn) (fun _=>0) _ (fun i hI=>?_) () trivial
  refine t100 (Wl z zn (ak _ _ _ _ _ _ _ _ _) ?_)
  (repeat' first|(with_reducible first|exact rfl|assumption|apply And.intro))
  exact bD trivial
 refine cW hg (fn:=f42) (by kernel_rfl) (by kernel_rfl) hz ⟨by decide,by decide⟩ rfl (Xv z zn _ ?_)
 (repeat' first|(with_reducible first|exact rfl|assumption|apply And.intro|exact q1)|exact hL|intro hq)
end
section
variable{z:T aa}{zn:Nat}
theorem Im(hz:ay z zn)(hg:fB prog z gP)(l:List aY)(cp:Nat)(e:TypeId)(he:z.get 3=some (.aw (bq e (l.map aY.row).flatten)))(hl:l.length<100000)(i:Nat)(x:aY)(hx:l[i]? =some x)(b:Bool)(hb:b=(l.take i).any fun y=>y.id.data==x.id.data):
 ai prog (ah (ah (ag f68) 0) 0) 0 48 (wO l.length cp i 0) [] 0 z zn (Al.R (S3 z zn l.length cp i b).l):=by
 have hil:i<l.length:=(List.getElem?_eq_some_iff.1 hx).1
 refine an hD hg (α:=Nat) 0 48 0 (fun k=>k<=i/\((l.take k).any fun y=>y.id.data==x.id.data)=false) (fun k=>wO l.length cp i k) (fun _=>[]) (fun _=>z) (fun _=>zn) (fun k=>i - k) _ (fun k hI=>?_) 0 ⟨Nat.zero_le _,rfl⟩
 obtain⟨h1,h2⟩:=hI
 have hlen:=aQ (row:=aY.row) (sz:=3) l fun _=>rfl
 have rx:aE prog (bq e (l.map aY.row).flatten) 9 (0+i*3+0)=some (.string x.id):=bc (r:=x.row) (j:=0) underlying9 rfl hlen (by rw[List.getElem?_map,hx];rfl) rfl
 by_cases hk:k<i
 ·obtain⟨y,hy⟩:=eV (l:=l) (i:=k) (by omega)
  have ry:aE prog (bq e (l.map aY.row).flatten) 9 (0+k*3+0)=some (.string y.id):=bc (r:=y.row) (j:=0) underlying9 rfl hlen (by rw[List.getElem?_map,hy];rfl) rfl
  have hc:decide ((k:Int)<(i:Int))=true:=by simp;omega
  refine t100 (Sv z zn i k l.length cp (bq e (l.map aY.row).flatten) x y (ak _ _ _ _ _ _ _ _ _) ⟨fun _=>?_,nC1 hc⟩)
  (repeat' first|(with_reducible first|exact rfl|assumption|apply And.intro|exact(by omega:k<l.length)|exact bP (by omega))|intro hq)
  ·rw[o7] at hq
   exact bD (by rw[hb];exact any_true hy hk hq)
  ·rw[o7] at hq
   exact⟨k+1,rfl,rfl,rfl,rfl,rfl,⟨hk,by rw[jR hy,h2,hq];rfl⟩,by show i - (k+1)<i - k;omega⟩
 ·have hc:decide ((k:Int)<(i:Int))=false:=by simp;omega
  refine t100 (Sv z zn i k l.length cp (bq e (l.map aY.row).flatten) x x (ak _ _ _ _ _ _ _ _ _) ⟨nC1 hc,fun _=>?_⟩)
  (repeat' first|(with_reducible first|exact rfl|assumption|apply And.intro))
  refine dD (bD ?_)
  rw[hb,←h2,show k=i by omega]
theorem L5(hz:ay z zn)(hg:fB prog z gP)(l:List aY)(cp:Nat)(ht:cf z 3 (l.map aY.row))(hl:l.length<100000)(r:Int × Int)(hr:scan (dv l) l.length 0=r):
 ai prog (ah (ag f68) 0) 0 48 (yk l.length cp 0) [] 0 z zn (Al.R (S4 z zn l.length cp r.1 r.2).l):=by
 refine an hD hg (α:=Nat) 0 48 0 (fun i=>i<=l.length/\scan (dv l) (l.length - i) i=r) (fun i=>yk l.length cp i) (fun i=>[]) (fun _=>z) (fun _=>zn) (fun i=>l.length - i) _ (fun i hI=>?_) 0 ⟨Nat.zero_le _,hr⟩
 obtain⟨h1,h2⟩:=hI
 by_cases hi:i<l.length
 ·obtain⟨e,he⟩:=ht.aw (i:=i) (by simpa using hi)
  obtain⟨x,hx⟩:=eV hi
  have hid:=UC (ht.sz (i:=i) (r:=x.row) (s:=x.id) (by rw[List.getElem?_map,hx];rfl) (by simp))
  have hlen:=aQ (row:=aY.row) (sz:=3) l fun _=>rfl
  have hr:(l.map aY.row)[i]? =some x.row:=by rw[List.getElem?_map,hx];rfl
  have r0:aE prog (bq e (l.map aY.row).flatten) 9 (0+i*3+0)=some (.string x.id):=bc (j:=0) underlying9 rfl hlen hr rfl
  have r1:aE prog (bq e (l.map aY.row).flatten) 3 (0+i*3+1)=some (zv x.mode):=bc (j:=1) underlying3 rfl hlen hr rfl
  have hL:=Im hz hg l cp e he hl i x hx _ rfl
  generalize hb:((l.take i).any fun y=>y.id.data==x.id.data)=b at hL
  have hc:decide ((i:Int)<(l.length:Int))=true:=by simp;omega
  have ret: ∀e:Int,dv l i=some e->Al.R (S4 z zn l.length cp r.1 r.2).l ⟨.ret,[(2,iv i),(3,zv e)],[],0,z,zn⟩:=fun e h=>by
   have:r=((i:Int),e):=by rw[←h2,dr hi h]
   rw[this];exact bD trivial
  have hbad:dv l i=if bK x.id=false then some 12 else if b=true then some 6 else if x.mode<0\/8<=x.mode then some 2 else none:=by
   simp only[dv,hx,hb]
  refine t100 (ZB z zn i l.length cp (bq e (l.map aY.row).flatten) x b (ak _ _ _ _ _ _ _ _ _) ⟨fun _=>?_,nC1 hc⟩)
  (repeat' first|(with_reducible first|exact rfl|assumption|apply And.intro|exact bP (by omega))|exact(rfl:gP _ _=_)|exact hL|intro hq)
  all_goals clear hL r0 r1 hr hlen he ht hz
  all_goals first
   |with_reducible assumption
   |rfl
   |(refine ret _ ?_;clear ret h2;rw[hbad];simp_all;done)
   |(refine ret _ ?_;clear ret h2;rw[hbad];simp_all;omega)
   |(have hb0:dv l i=none:=by
      clear ret h2
      rw[hbad,if_neg (by simp_all),if_neg (by simp_all),if_neg (by simp only[bS1] at*;omega)]
     exact⟨i+1,rfl,rfl,rfl,rfl,rfl,⟨hi,by rw[←cN hi hb0];exact h2⟩,by show l.length - (i+1)<l.length - i;omega⟩)
 ·have hc:decide ((i:Int)<(l.length:Int))=false:=by simp;omega
  refine t100 (ZB z zn i l.length cp ⟨[],0,0,0,true,true,0,true⟩ ⟨⟨#[]⟩,0,true⟩ true (ak _ _ _ _ _ _ _ _ _) ⟨nC1 hc,fun _=>?_⟩)
  (repeat' first|(with_reducible first|exact rfl|assumption|apply And.intro))
  refine dD (bD ?_)
  rw[dH (by omega)] at h2
  rw[←h2]
  exact⟨rfl,rfl⟩
theorem FU(hz:ay z zn)(hg:fB prog z gP)(l:List aY)(cp:Nat)(ht:cf z 3 (l.map aY.row)):
 A1 z zn 68 [tb 3 l.length cp] [] 0 0 (.tuple ⟨[zv (bY l).1,zv (bY l).2]⟩) []:=by
 refine cW hg (fn:=f68) (by kernel_rfl) (by kernel_rfl) hz ⟨by decide,by decide⟩ rfl (frr z zn l.length cp (bY l).1 (bY l).2 _ ?_)
 by_cases h:64<l.length
 ·have hr:bY l=(0,5):=if_pos h
  have hc:decide ((l.length:Int)>64)=true:=by simp;omega
  rw[hr]
  refine⟨fun _=>?_,nC1 hc⟩
  (repeat' first|(with_reducible first|exact rfl|assumption|apply And.intro))
  exact q1
 ·have hr:bY l=scan (dv l) l.length 0:=if_neg h
  have hc:decide ((l.length:Int)>64)=false:=by simp;omega
  have hL:=L5 hz hg l cp ht (by omega) (bY l) hr.symm
  refine⟨nC1 hc,fun _=>?_⟩
  (repeat' first|(with_reducible first|exact rfl|assumption|apply And.intro)|exact hL|intro hq)
  ·exact q1
  ·rw[hq.1,hq.2];exact q1
end
def zb(n a b:Int):Bool:=decide (a<=n) && decide (n<=b)
theorem fold(n a b:Int):(decide (a<=n) && decide (n<=b))=zb n a b:=rfl
def eC(l:List bI)(i:Nat):Option Int:=match l[i]? with
 |some x=>if bK x.id=false then some 12 else if (l.take i).any (fun y=>y.id.data==x.id.data) then some 6 else if (zb x.cy 0 1000000 && zb x.bT 1 8 && zb x.cu 1 16 && zb x.aK 0 86400 && zb x.mi 1 255)=false then some 2 else none
 |none=>none
def fI(d w c:Int):Bool:=zb d 0 1000000 && zb w 0 86400 && zb c 0 1000000
def bB(d w c:Int)(l:List bI):Int × Int:=if fI d w c=false then (-1,2) else if 16<l.length then (0,5) else scan (eC l) l.length 0
section
variable{z:T aa}{zn:Nat}
theorem Mc(hz:ay z zn)(hg:fB prog z gP)(l:List bI)(cp:Nat)(ht:cf z 5 (l.map bI.row))(hl:l.length<100000)(r:Int × Int)(hr:scan (eC l) l.length 0=r):
 ai prog (ah (ag f47) 0) 2 79 (Fa l.length cp 0) [(1,bb [])] 2 z zn (Al.R (Td z zn l.length cp r.1 r.2).l):=by
 refine an hD hg (α:=Nat) 2 79 2 (fun i=>i<=l.length/\scan (eC l) (l.length - i) i=r) (fun i=>Fa l.length cp i) (fun i=>[(1,bb (((l.take i).map bI.id).map .string))]) (fun _=>z) (fun _=>zn) (fun i=>l.length - i) _ (fun i hI=>?_) 0 ⟨Nat.zero_le _,hr⟩
 obtain⟨h1,h2⟩:=hI
 by_cases hi:i<l.length
 ·obtain⟨e,he⟩:=ht.aw (i:=i) (by simpa using hi)
  obtain⟨x,hx⟩: ∃x,l[i]? =some x:=⟨l[i],List.getElem?_eq_getElem hi⟩
  have hid:=UD (ht.sz (i:=i) (r:=x.row) (s:=x.id) (by rw[List.getElem?_map,hx];rfl) (by simp))
  have hrow:aE prog (bq e (l.map bI.row).flatten) 131 (0+i*6)=some (.agg ⟨x.row⟩):=bG (P:=prog) (e:=e) (t:=131) (k:=i) (r:=x.row) (sz:=6) underlying131 rfl rfl (aQ (row:=bI.row) l fun _=>rfl) (by rw[List.getElem?_map,hx];rfl)
  have hk:=CL x.id ((l.take i).map bI.id)
  have hps:=oO ((l.take i).map bI.id)
  have hany:Value.string x.id∈((l.take i).map bI.id).map Value.string↔(l.take i).any (fun y=>y.id.data==x.id.data)=true:=by
   rw[uq,List.any_eq_true,List.mem_map]
   exact⟨fun⟨y,q1,q2⟩=>⟨y,q1,by rw[q2];exact(jQ _ _).2 rfl⟩,fun⟨y,q1,q2⟩=>⟨y,q1,(jQ _ _).1 q2⟩⟩
  have hc:decide ((i:Int)<(l.length:Int))=true:=by simp;omega
  have ret: ∀e:Int,eC l i=some e->Al.R (Td z zn l.length cp r.1 r.2).l ⟨.ret,[(2,iv i),(3,zv e)],[],2,z,zn⟩:=fun e h=>by
   have:r=((i:Int),e):=by rw[←h2,dr hi h]
   rw[this];exact bD trivial
  refine t100 (ZF z zn i l.length cp (bq e (l.map bI.row).flatten) x (((l.take i).map bI.id).map .string) (ak _ _ _ _ _ _ _ _ _) ⟨fun _=>?_,fun h=>by rw[hc] at h;cases h⟩)
  (repeat' first|(with_reducible first|exact rfl|assumption|apply And.intro|exact hk.no|exact hk.ex|exact iI _ hps rfl|exact bP (by omega))|exact(rfl:gP _ _=_)|intro hq)
  all_goals try (have hm:=hk.D7 (by with_reducible assumption);rw[hany] at hm)
  all_goals try (have hm:=hk.Kw (by with_reducible assumption);rw[hany] at hm)
  all_goals clear hk hps hrow hany he ht hz hr
  all_goals first
   |(refine ret _ ?_;clear ret h2;simp only[eC,hx];(try simp only[fold] at*);simp_all;done)
   |(refine ret _ ?_;clear ret h2;simp only[eC,hx];(try simp only[fold] at*);simp_all;omega)
   |with_reducible assumption
   |rfl
   |skip
  have hb:eC l i=none:=by
   clear ret h2
   simp only[eC,hx]
   rw[if_neg (by simp_all),if_neg hm,if_neg (by(try simp only[fold] at*);simp_all;done)]
  refine⟨i+1,rfl,?_,rfl,rfl,rfl,⟨hi,by rw[←cN hi hb];exact h2⟩,by show l.length - (i+1)<l.length - i;omega⟩
  rw[fM]
  show _=[(1,bb (((l.take (i+1)).map bI.id).map .string))]
  rw[List.take_add_one,hx]
  simp
 ·have hc:decide ((i:Int)<(l.length:Int))=false:=by simp;omega
  refine t100 (ZF z zn i l.length cp ⟨[],0,0,0,true,true,0,true⟩ ⟨⟨#[]⟩,0,0,0,0,0⟩ (((l.take i).map bI.id).map .string) (ak _ _ _ _ _ _ _ _ _) ⟨nC1 hc,fun _=>?_⟩)
  (repeat' first|(with_reducible first|exact rfl|assumption|apply And.intro))
  refine dD (bD ?_)
  rw[dH (by omega)] at h2
  rw[←h2]
  exact⟨rfl,rfl⟩
theorem Qs(hz:ay z zn)(hg:fB prog z gP)(l:List bI)(cp:Nat)(ht:cf z 5 (l.map bI.row))(d w c:Int):
 A1 z zn 47 [.agg ⟨[tb 5 l.length cp,zv d,zv w,zv c]⟩] [] 0 0 (.tuple ⟨[zv (bB d w c l).1,zv (bB d w c l).2]⟩) []:=by
 refine cW hg (fn:=f47) (by kernel_rfl) (by kernel_rfl) hz ⟨by decide,by decide⟩ rfl (XD z zn l.length cp (bB d w c l).1 (bB d w c l).2 d w c _ ?_)
 cases hf:fI d w c with
 |false=>
  have hr:bB d w c l=(-1,2):=if_pos hf
  rw[hr]
  unfold fI at hf
  (repeat' first|(with_reducible first|exact rfl|assumption|apply And.intro|exact q1)|exact(rfl:gP _ _=_)|exact q1|intro hq)
  all_goals (exfalso;(try simp only[fold] at*);simp_all;done)
 |true=>
  by_cases h:16<l.length
  ·have hr:bB d w c l=(0,5):=by unfold bB;rw[if_neg (by simp[hf]),if_pos h]
   have hc:decide ((l.length:Int)>16)=true:=by simp;omega
   rw[hr]
   unfold fI at hf
   (repeat' first|(with_reducible first|exact rfl|assumption|apply And.intro|exact q1)|exact(rfl:gP _ _=_)|exact q1|intro hq)
   all_goals (exfalso;(try simp only[fold] at*);simp_all;done)
  ·have hr:bB d w c l=scan (eC l) l.length 0:=by unfold bB;rw[if_neg (by simp[hf]),if_neg h]
   have hc:decide ((l.length:Int)>16)=false:=by simp;omega
   have hL:=Mc hz hg l cp ht (by omega) (bB d w c l) hr.symm
   unfold fI at hf
   (repeat' first|(with_reducible first|exact rfl|assumption|apply And.intro|exact q1)|exact(rfl:gP _ _=_)|exact hL|intro hq)
   all_goals first|(rw[hq.1,hq.2];exact q1)|(exfalso;(try simp only[fold] at*);simp_all;done)|trace_state
end
def iH(p:Option bw)(x:bw):Bool:=match p with|some p=>decide (p.stop=x.stop)|none=>false
def early(p:Option bw)(x:bw):Bool:=match p with|some p=>decide (x.arr<p.dep)|none=>false
def bm(p:Option bw)(x:bw)(s lo hi:Int):Int:=
 if x.stop<0\/s<=x.stop then 9 else if iH p x=true then 13 else if x.arr<lo\/x.dep<x.arr\/hi<x.dep\/early p x=true then 10 else 0
def prev(l:List bw)(i:Nat):Option bw:=if i=0 then none else l[i - 1]?
def gn(l:List bw)(s lo hi:Int)(i:Nat):Option Int:=match l[i]? with
 |some x=>if bm (prev l i) x s lo hi=0 then none else some (bm (prev l i) x s lo hi)
 |none=>none
def bH(l:List bw)(s lo hi:Int):Int × Int:=if l.length<2\/32<l.length then (0,5) else scan (gn l s lo hi) l.length 0
theorem NJ{i:Nat}(h0:0<i)(h:i<1000000000):Value.int .i64 (IntKind.i64.wrap ((i:Int) - 1))=Value.int .i64 ((i:Int) - 1):=by
 have:IntKind.i64.wrap ((i:Int) - 1)=(i:Int) - 1:=by
  simp only[IntKind.wrap,IntKind.signed,IntKind.bits]
  simp
  omega
 rw[this]
theorem qH(σ:bu)(k n c:Nat):aW (aA σ []) (tb k n c)=some (tb k n c):=by
 have:aA σ [] (256*k+510)=some (256*k+510):=by
  rw[jf (by unfold cI;omega)];rfl
 simp only[aW,this]
section
variable{z:T aa}{zn:Nat}
theorem TV(hz:ay z zn)(hg:fB prog z gP)(k:Nat)(l:List bw)(cp:Nat)(ht:cf z k (l.map bw.row))(hl:l.length<100000)(s lo hi:Int)(i:Nat)(x:bw)(hx:l[i]? =some x):
 A1 z zn 74 [tb k l.length cp,iv i,zv s,zv lo,zv hi] [] 0 0 (zv (bm (prev l i) x s lo hi)) []:=by
 have hil:i<l.length:=(List.getElem?_eq_some_iff.1 hx).1
 obtain⟨e,he⟩:=ht.aw (i:=i) (by simpa using hil)
 have hlen:=aQ (row:=bw.row) (sz:=5) l fun _=>rfl
 have hrow:aE prog (bq e (l.map bw.row).flatten) 127 (0+i*5)=some (.agg ⟨x.row⟩):=bG (r:=x.row) (sz:=5) underlying127 rfl rfl hlen (by rw[List.getElem?_map,hx];rfl)
 obtain⟨p,hp0,hp⟩: ∃p:bw,(0<i->prev l i=some p)/\(0<i->l[i - 1]? =some p):=by
  by_cases h:0<i
  ·obtain⟨p,hp⟩:=eV (l:=l) (i:=i - 1) (by omega)
   exact⟨p,fun _=>by unfold prev;rw[if_neg (by omega),hp],fun _=>hp⟩
  ·exact⟨x,fun h'=>(h h').elim,fun h'=>(h h').elim⟩
 refine cW hg (fn:=f74) (by kernel_rfl) (by kernel_rfl) hz ⟨by decide,by decide⟩ rfl (XE z zn k i l.length cp s lo hi (bq e (l.map bw.row).flatten) x p _ ?_)
 rcases Nat.eq_zero_or_pos i with h0|h0
 ·have hpr:prev l i=none:=if_pos h0
  have hc:decide ((i:Int)>0)=false:=by simp;omega
  (repeat' first|(with_reducible first|exact rfl|assumption|apply And.intro)|intro hq)
  all_goals first
   |(exfalso;simp_all;done)
   |omega
   |(rw[hc];done)
   |(have hv:bm (prev l i) x s lo hi=9:=by rw[hpr];simp only[bm,iH,early];simp_all;(try omega)
     rw[hv];exact q1)
   |(have hv:bm (prev l i) x s lo hi=13:=by rw[hpr];simp only[bm,iH,early];simp_all;(try omega)
     rw[hv];exact q1)
   |(have hv:bm (prev l i) x s lo hi=10:=by rw[hpr];simp only[bm,iH,early];simp_all;(try omega)
     rw[hv];exact q1)
   |(have hv:bm (prev l i) x s lo hi=0:=by rw[hpr];simp only[bm,iH,early];simp_all;(try omega)
     rw[hv];exact q1)
 ·have hpr:=hp0 h0
  have r0:aE prog (bq e (l.map bw.row).flatten) 3 (0+(i - 1)*5+0)=some (zv p.stop):=bc (r:=p.row) (j:=0) underlying3 rfl hlen (by rw[List.getElem?_map,hp h0];rfl) rfl
  have r2:aE prog (bq e (l.map bw.row).flatten) 3 (0+(i - 1)*5+2)=some (zv p.dep):=bc (r:=p.row) (j:=2) underlying3 rfl hlen (by rw[List.getElem?_map,hp h0];rfl) rfl
  have hc:decide ((i:Int)>0)=true:=by simp;omega
  (repeat' first|(with_reducible first|exact rfl|assumption|apply And.intro|exact(by omega:i - 1<l.length))|intro hq)
  all_goals first
   |(exfalso;simp_all;done)
   |exact NJ h0 (by omega)
   |omega
   |(rw[hc];done)
   |(have hv:bm (prev l i) x s lo hi=9:=by rw[hpr];simp only[bm,iH,early];simp_all;(try omega)
     rw[hv];exact q1)
   |(have hv:bm (prev l i) x s lo hi=13:=by rw[hpr];simp only[bm,iH,early];simp_all;(try omega)
     rw[hv];exact q1)
   |(have hv:bm (prev l i) x s lo hi=10:=by rw[hpr];simp only[bm,iH,early];simp_all;(try omega)
     rw[hv];exact q1)
   |(have hv:bm (prev l i) x s lo hi=0:=by rw[hpr];simp only[bm,iH,early];simp_all;(try omega)
     rw[hv];exact q1)
theorem qg{l:List bw}{s lo hi:Int}{i:Nat}{x:bw}(hx:l[i]? =some x){e:Int}(he:bm (prev l i) x s lo hi=e)(h0:e≠0):gn l s lo hi i=some e:=by
 simp only[gn,hx,he];rw[if_neg h0]
theorem qh{l:List bw}{s lo hi:Int}{i:Nat}{x:bw}(hx:l[i]? =some x)(he:bm (prev l i) x s lo hi=0):gn l s lo hi i=none:=by
 simp only[gn,hx,he];rfl
theorem Mn(hz:ay z zn)(hg:fB prog z gP)(k:Nat)(l:List bw)(cp:Nat)(ht:cf z k (l.map bw.row))(hl:l.length<100000)(s lo hi:Int)(r:Int × Int)(hr:scan (gn l s lo hi) l.length 0=r):
 ai prog (ah (ag f60) 0) 0 36 (Fi k l.length cp s lo hi 0) [] 0 z zn (Al.R (W2 z zn k l.length cp s lo hi r.1 r.2).l):=by
 refine an hD hg (α:=Nat) 0 36 0 (fun i=>i<=l.length/\scan (gn l s lo hi) (l.length - i) i=r) (fun i=>Fi k l.length cp s lo hi i) (fun _=>[]) (fun _=>z) (fun _=>zn) (fun i=>l.length - i) _ (fun i hI=>?_) 0 ⟨Nat.zero_le _,hr⟩
 obtain⟨h1,h2⟩:=hI
 by_cases hi':i<l.length
 ·obtain⟨x,hx⟩:=eV hi'
  have hone:=TV hz hg k l cp ht hl s lo hi i x hx
  generalize he:bm (prev l i) x s lo hi=e at hone
  have hc:decide ((i:Int)<(l.length:Int))=true:=by simp;omega
  refine t100 (ZL z zn k i l.length cp s lo hi e (ak _ _ _ _ _ _ _ _ _) ⟨fun _=>?_,nC1 hc⟩)
  (repeat' first|(with_reducible first|exact rfl|assumption|apply And.intro|exact bP (by omega))|intro hq)
  ·have h0:e≠0:=by simpa using hq
   have:r=((i:Int),e):=by rw[←h2,dr hi' (qg hx he h0)]
   rw[this];exact bD trivial
  ·have h0:e=0:=by simpa using hq
   exact⟨i+1,rfl,rfl,rfl,rfl,rfl,⟨hi',by rw[←cN hi' (qh hx (he.trans h0))];exact h2⟩,by show l.length - (i+1)<l.length - i;omega⟩
 ·have hc:decide ((i:Int)<(l.length:Int))=false:=by simp;omega
  refine t100 (ZL z zn k i l.length cp s lo hi 0 (ak _ _ _ _ _ _ _ _ _) ⟨nC1 hc,fun _=>?_⟩)
  (repeat' first|(with_reducible first|exact rfl|assumption|apply And.intro))
  refine dD (bD ?_)
  rw[dH (by omega)] at h2
  rw[←h2]
  exact⟨rfl,rfl⟩
theorem Ng(hz:ay z zn)(hg:fB prog z gP)(k:Nat)(l:List bw)(cp:Nat)(ht:cf z k (l.map bw.row))(s lo hi:Int):
 A1 z zn 60 [tb k l.length cp,zv s,zv lo,zv hi] [] 0 0 (.tuple ⟨[zv (bH l s lo hi).1,zv (bH l s lo hi).2]⟩) []:=by
 refine cW hg (fn:=f60) (by kernel_rfl) (by kernel_rfl) hz ⟨by decide,by decide⟩ rfl (fck z zn k l.length cp s lo hi (bH l s lo hi).1 (bH l s lo hi).2 _ ?_)
 by_cases h:l.length<2\/32<l.length
 ·have hr:bH l s lo hi=(0,5):=if_pos h
  rw[hr]
  (repeat' first|(with_reducible first|exact rfl|assumption|apply And.intro|exact q1)|exact q1|intro hq)
  all_goals first|(exfalso;simp_all;done)|(exfalso;simp_all;omega)
 ·have hr:bH l s lo hi=scan (gn l s lo hi) l.length 0:=if_neg h
  have hL:=Mn hz hg k l cp ht (by omega) s lo hi (bH l s lo hi) hr.symm
  (repeat' first|(with_reducible first|exact rfl|assumption|apply And.intro|exact q1)|exact hL|intro hq)
  all_goals first
   |(exfalso;simp_all;done)
   |(exfalso;simp_all;omega)
   |(rw[hq.1,hq.2];exact q1)
theorem L9(hz:ay z zn)(hg:fB prog z gP)(k:Nat)(l:List bw)(cp:Nat)(ht:cf z k (l.map bw.row))(hl:l.length<100000)(s lo hi:Int)(r:Int × Int)(hr:scan (gn l s lo hi) l.length 0=r):
 ai prog (ah (ag f83) 0) 0 83 (Ay k l.length cp s lo hi 0) [] 0 z zn (Al.R (PF z zn k l.length cp s lo hi r.2).l):=by
 refine an hD hg (α:=Nat) 0 83 0 (fun i=>i<=l.length/\scan (gn l s lo hi) (l.length - i) i=r) (fun i=>Ay k l.length cp s lo hi i) (fun _=>[]) (fun _=>z) (fun _=>zn) (fun i=>l.length - i) _ (fun i hI=>?_) 0 ⟨Nat.zero_le _,hr⟩
 obtain⟨h1,h2⟩:=hI
 by_cases hil:i<l.length
 ·obtain⟨e,he⟩:=ht.aw (i:=i) (by simpa using hil)
  obtain⟨x,hx⟩:=eV hil
  have hlen:=aQ (row:=bw.row) (sz:=5) l fun _=>rfl
  have hrow:aE prog (bq e (l.map bw.row).flatten) 127 (0+i*5)=some (.agg ⟨x.row⟩):=bG (r:=x.row) (sz:=5) underlying127 rfl rfl hlen (by rw[List.getElem?_map,hx];rfl)
  obtain⟨p,hp0,hp⟩: ∃p:bw,(0<i->prev l i=some p)/\(0<i->l[i - 1]? =some p):=by
   by_cases h:0<i
   ·obtain⟨p,hp⟩:=eV (l:=l) (i:=i - 1) (by omega)
    exact⟨p,fun _=>by unfold prev;rw[if_neg (by omega),hp],fun _=>hp⟩
   ·exact⟨x,fun h'=>(h h').elim,fun h'=>(h h').elim⟩
  have hc':decide ((i:Int)<(l.length:Int))=true:=by simp;omega
  have ret: ∀e:Int,bm (prev l i) x s lo hi=e->e≠0->Al.R (PF z zn k l.length cp s lo hi r.2).l ⟨.ret,[(8,zv e)],[],0,z,zn⟩:=fun e he h0=>by
   have:r=((i:Int),e):=by rw[←h2,dr hil (qg hx he h0)]
   rw[this];exact bD trivial
  have jY:bm (prev l i) x s lo hi=0->ak (fun i=>i<=l.length/\scan (gn l s lo hi) (l.length - i) i=r) (fun i=>Ay k l.length cp s lo hi i) (fun _=>[]) 0 (fun _=>z) (fun _=>zn) (fun i=>l.length - i) (Al.R (PF z zn k l.length cp s lo hi r.2).l) i .normal (Ay k l.length cp s lo hi (i+1)) [] 0 z zn:=fun h0=>
   ⟨i+1,rfl,rfl,rfl,rfl,rfl,⟨hil,by rw[←cN hil (qh hx h0)];exact h2⟩,by show l.length - (i+1)<l.length - i;omega⟩
  refine t100 (ZE z zn k i l.length cp s lo hi (bq e (l.map bw.row).flatten) x p (ak _ _ _ _ _ _ _ _ _) ⟨fun _=>?_,fun h=>(by rw[hc'] at h;cases h)⟩)
  clear h2
  rcases Nat.eq_zero_or_pos i with h0|h0
  ·have hpr:prev l i=none:=if_pos h0
   have hc:decide ((i:Int)>0)=false:=by simp;omega
   (repeat' first|(with_reducible first|exact rfl|assumption|apply And.intro|exact bP (by omega))|intro hq)
   all_goals first
    |(exfalso;clear ret jY;simp_all;done)
    |omega
    |(rw[hc];done)
    |(have hv:bm (prev l i) x s lo hi=9:=by clear ret jY;rw[hpr];simp only[bm,iH,early];simp_all;(try omega)
      exact ret _ hv (by decide))
    |(have hv:bm (prev l i) x s lo hi=13:=by clear ret jY;rw[hpr];simp only[bm,iH,early];simp_all;(try omega)
      exact ret _ hv (by decide))
    |(have hv:bm (prev l i) x s lo hi=10:=by clear ret jY;rw[hpr];simp only[bm,iH,early];simp_all;(try omega)
      exact ret _ hv (by decide))
    |(have hv:bm (prev l i) x s lo hi=0:=by clear ret jY;rw[hpr];simp only[bm,iH,early];simp_all;(try omega)
      exact jY hv)
  ·have hpr:=hp0 h0
   have r0:aE prog (bq e (l.map bw.row).flatten) 3 (0+(i - 1)*5+0)=some (zv p.stop):=bc (r:=p.row) (j:=0) underlying3 rfl hlen (by rw[List.getElem?_map,hp h0];rfl) rfl
   have r2:aE prog (bq e (l.map bw.row).flatten) 3 (0+(i - 1)*5+2)=some (zv p.dep):=bc (r:=p.row) (j:=2) underlying3 rfl hlen (by rw[List.getElem?_map,hp h0];rfl) rfl
   have hc:decide ((i:Int)>0)=true:=by simp;omega
   (repeat' first|(with_reducible first|exact rfl|assumption|apply And.intro|exact(by omega:i - 1<l.length)|exact bP (by omega))|intro hq)
   all_goals first
    |(exfalso;clear ret jY;simp_all;done)
    |exact NJ h0 (by omega)
    |omega
    |(rw[hc];done)
    |(have hv:bm (prev l i) x s lo hi=9:=by clear ret jY;rw[hpr];simp only[bm,iH,early];simp_all;(try omega)
      exact ret _ hv (by decide))
    |(have hv:bm (prev l i) x s lo hi=13:=by clear ret jY;rw[hpr];simp only[bm,iH,early];simp_all;(try omega)
      exact ret _ hv (by decide))
    |(have hv:bm (prev l i) x s lo hi=10:=by clear ret jY;rw[hpr];simp only[bm,iH,early];simp_all;(try omega)
      exact ret _ hv (by decide))
    |(have hv:bm (prev l i) x s lo hi=0:=by clear ret jY;rw[hpr];simp only[bm,iH,early];simp_all;(try omega)
      exact jY hv)
 ·have hc:decide ((i:Int)<(l.length:Int))=false:=by simp;omega
  refine t100 (ZE z zn k i l.length cp s lo hi ⟨[],0,0,0,true,true,0,true⟩ ⟨0,0,0,true,true⟩ ⟨0,0,0,true,true⟩ (ak _ _ _ _ _ _ _ _ _) ⟨nC1 hc,fun _=>?_⟩)
  (repeat' first|(with_reducible first|exact rfl|assumption|apply And.intro))
  refine dD (bD ?_)
  rw[dH (by omega)] at h2
  rw[←h2]
theorem JJ(hz:ay z zn)(hg:fB prog z gP)(k:Nat)(l:List bw)(cp:Nat)(ht:cf z k (l.map bw.row))(s lo hi:Int):
 A1 z zn 83 [tb k l.length cp,zv s,zv lo,zv hi] [] 0 0 (zv (bH l s lo hi).2) []:=by
 refine cW hg (fn:=f83) (by kernel_rfl) (by kernel_rfl) hz ⟨by decide,by decide⟩ rfl (frc z zn k l.length cp s lo hi (bH l s lo hi).2 _ ?_)
 by_cases h:l.length<2\/32<l.length
 ·have hr:bH l s lo hi=(0,5):=if_pos h
  rw[hr]
  (repeat' first|(with_reducible first|exact rfl|assumption|apply And.intro|exact q1)|exact q1|intro hq)
  all_goals first|(exfalso;simp_all;done)|(exfalso;simp_all;omega)
 ·have hr:bH l s lo hi=scan (gn l s lo hi) l.length 0:=if_neg h
  have hL:=L9 hz hg k l cp ht (by omega) s lo hi (bH l s lo hi) hr.symm
  (repeat' first|(with_reducible first|exact rfl|assumption|apply And.intro|exact q1)|exact hL|intro hq)
  all_goals first
   |(exfalso;simp_all;done)
   |(exfalso;simp_all;omega)
   |(rw[hq];exact q1)
end
theorem prun_bind{α β:Type}{P:Program}(f:α->Sem β): ∀s:Sem α,prun P (s>>=f)=(prun P s).bind fun a=>prun P (f a)
 | .pure a=>rfl
 | .program k=>prun_bind f (k P)
 | .mark m k=>prun_bind f k
 | .load _ _ _=>rfl
 | .store _ _ _ _=>rfl
 | .new _ _=>rfl
 | .shape _ _=>rfl
 | .freeze _ _ _=>rfl
 | .frozen _ _=>rfl
 | .getObj _ _=>rfl
 | .setObj _ _ _=>rfl
 | .choose _ _=>rfl
 | .sys _ _=>rfl
 | .halt _=>rfl
theorem prun_pure{α:Type}{P:Program}(a:α):prun P (pure a:Sem α)=some a:=rfl
theorem zY{α:Type}{P:Program}(c:Prop)[Decidable c](s t:Sem α):prun P (if c then s else t)=if c then prun P s else prun P t:=by split<;>rfl
theorem mI{P:Program}(d:Nat)(t:TypeId)(xs ys:Array Value)(fs:Array Field)(ht:prun P (underlying t)=some (.struct fs))(hp:P.stoodInHeld t=false):
 prun P (Op.equalIn (d+1) t (.agg xs) (.agg ys))=prun P (Op.eqFields d xs ys fs.toList):=by
 have hprog:prun P (program:Sem Program)=some P:=rfl
 simp only[Op.equalIn,prun_bind,ht,Option.bind_some,hprog,hp,Bool.false_eq_true,if_false]
 rw[←Array.forIn_toList]
 generalize fs.toList=fs
 clear ht
 induction fs with
 |nil=>simp[Op.eqFields,prun_pure]
 |cons f fs ih=>
  simp only[List.forIn_cons,Op.eqFields,prun_bind,zY]
  split
  ·cases prun P (part f.type xs f.offset) with
   |none=>rfl
   |some a=>
    simp only[Option.bind_some]
    cases prun P (part f.type ys f.offset) with
    |none=>rfl
    |some b=>
     simp only[Option.bind_some]
     cases prun P (Op.equalIn d f.type a b) with
     |none=>rfl
     |some r=>
      cases r
      ·simp only[Option.bind_some,Bool.not_false,if_true,prun_pure]
      ·simp only[Option.bind_some,Bool.not_true,Bool.false_eq_true,if_false,prun_pure]
       exact ih
  ·simp only[prun_pure,Option.bind_some]
   exact ih
theorem zZ{P:Program}{d:Nat}{xs ys:Array Value}{f:Field}{fs:List Field}{a b:Value}{r:Bool}(hn:f.name≠ "_")(ha:prun P (part f.type xs f.offset)=some a)(hb:prun P (part f.type ys f.offset)=some b)(hr:prun P (Op.equalIn d f.type a b)=some r):
 prun P (Op.eqFields d xs ys (f::fs))=if r=true then prun P (Op.eqFields d xs ys fs) else some false:=by
 simp only[Op.eqFields,if_pos hn,prun_bind,ha,hb,hr,Option.bind_some]
 cases r<;>rfl
def fx(f:Field):Bool × TypeId × Nat:=(decide (f.name≠ "_"),f.type,f.offset)
theorem TI{f:Field}{t o:Nat}(h:fx f=(true,t,o)):f.name≠ "_" /\f.type=t/\f.offset=o:=by
 unfold fx at h
 simp only[Prod.mk.injEq,decide_eq_true_eq] at h
 exact h
theorem step_eq{P:Program}{d:Nat}{xs ys:Array Value}{f:Field}{fs:List Field}{t o:Nat}{a b:Value}{r:Bool}(hf:fx f=(true,t,o))(ha:prun P (part t xs o)=some a)(hb:prun P (part t ys o)=some b)(hr:prun P (Op.equalIn d t a b)=some r):
 prun P (Op.eqFields d xs ys (f::fs))=if r=true then prun P (Op.eqFields d xs ys fs) else some false:=by
 obtain⟨h1,h2,h3⟩:=TI hf
 subst h2 h3
 exact zZ h1 ha hb hr
theorem NT{α β:Type}{g:α->β}{l:List α}{a b c:β}(h:l.map g=[a,b,c]): ∃x y z,l=[x,y,z]/\g x=a/\g y=b/\g z=c:=by
 match l,h with
 |[x,y,z],h=>simp at h;exact⟨x,y,z,rfl,h.1,h.2.1,h.2.2⟩
theorem Tw{α β:Type}{g:α->β}{l:List α}{a b c d:β}(h:l.map g=[a,b,c,d]): ∃x y z u,l=[x,y,z,u]/\g x=a/\g y=b/\g z=c/\g u=d:=by
 match l,h with
 |[x,y,z,u],h=>simp at h;exact⟨x,y,z,u,rfl,h.1,h.2.1,h.2.2.1,h.2.2.2⟩
theorem Je(a b:Int):prun prog (Op.equalIn 9999 3 (zv a) (zv b))=some (decide (a=b)):=by kernel_rfl
theorem eqS(a b:ByteArray):prun prog (Op.equalIn 9999 9 (.string a) (.string b))=some (a.data==b.data):=by kernel_rfl
theorem TN(a b:Bool):prun prog (Op.equalIn 9999 4 (.bool a) (.bool b))=some (a==b):=by kernel_rfl
theorem P7(a b:ByteArray)(x y u w:Int):prun prog (Op.equal 118 (.agg ⟨[.string a,zv x,zv y]⟩) (.agg ⟨[.string b,zv u,zv w]⟩))=some ((a.data==b.data) && (decide (x=u) && decide (y=w))):=by
 have hm:(prog.fieldsOf 118).toList.map fx=[(true,9,0),(true,3,1),(true,3,2)]:=by kernel_rfl
 obtain⟨f0,f1,f2,hl,h0,h1,h2⟩:=NT hm
 have hs:prun prog (underlying 118)=some (.struct (prog.fieldsOf 118)):=by kernel_rfl
 show prun _ (Op.equalIn (9999+1) _ _ _)=_
 rw[mI _ _ _ _ _ hs (by kernel_rfl),hl,step_eq h0 (by kernel_rfl) (by kernel_rfl) (eqS a b),step_eq h1 (by kernel_rfl) (by kernel_rfl) (Je x u),step_eq h2 (by kernel_rfl) (by kernel_rfl) (Je y w)]
 cases (a.data==b.data)<;>cases decide (x=u)<;>cases decide (y=w)<;>rfl
theorem Ja(a b c x y z:Int)(d w:Bool):prun prog (Op.equal 134 (.agg ⟨[zv a,zv b,zv c, .bool d]⟩) (.agg ⟨[zv x,zv y,zv z, .bool w]⟩))=some (decide (a=x) && (decide (b=y) && (decide (c=z) && (d==w)))):=by
 have hm:(prog.fieldsOf 134).toList.map fx=[(true,3,0),(true,3,1),(true,3,2),(true,4,3)]:=by kernel_rfl
 obtain⟨f0,f1,f2,f3,hl,h0,h1,h2,h3⟩:=Tw hm
 have hs:prun prog (underlying 134)=some (.struct (prog.fieldsOf 134)):=by kernel_rfl
 show prun _ (Op.equalIn (9999+1) _ _ _)=_
 rw[mI _ _ _ _ _ hs (by kernel_rfl),hl,step_eq h0 (by kernel_rfl) (by kernel_rfl) (Je a x),step_eq h1 (by kernel_rfl) (by kernel_rfl) (Je b y),step_eq h2 (by kernel_rfl) (by kernel_rfl) (Je c z),step_eq h3 (by kernel_rfl) (by kernel_rfl) (TN d w)]
 cases decide (a=x)<;>cases decide (b=y)<;>cases decide (c=z)<;>cases (d==w)<;>rfl
theorem Jb(a b x y:Int)(d w:Bool):prun prog (Op.equal 156 (.agg ⟨[zv a,zv b, .bool d]⟩) (.agg ⟨[zv x,zv y, .bool w]⟩))=some (decide (a=x) && (decide (b=y) && (d==w))):=by
 have hm:(prog.fieldsOf 156).toList.map fx=[(true,3,0),(true,3,1),(true,4,2)]:=by kernel_rfl
 obtain⟨f0,f1,f3,hl,h0,h1,h3⟩:=NT hm
 have hs:prun prog (underlying 156)=some (.struct (prog.fieldsOf 156)):=by kernel_rfl
 show prun _ (Op.equalIn (9999+1) _ _ _)=_
 rw[mI _ _ _ _ _ hs (by kernel_rfl),hl,step_eq h0 (by kernel_rfl) (by kernel_rfl) (Je a x),step_eq h1 (by kernel_rfl) (by kernel_rfl) (Je b y),step_eq h3 (by kernel_rfl) (by kernel_rfl) (TN d w)]
 cases decide (a=x)<;>cases decide (b=y)<;>cases (d==w)<;>rfl
end Go.Proofs.Nw
namespace Go.Proofs.Nw
open Go Go.AV Tryz Go.jo
set_option maxRecDepth 100000
theorem Co{P:Program}(d:Nat)(e sz:Nat)(xs ys:Array Value): ∀is:List Nat,
 prun P (Op.eqItems d e sz xs ys is)=match is with
  |[]=>some true
  |i::l=>(prun P (part e xs (i*sz))).bind fun a=>(prun P (part e ys (i*sz))).bind fun b=>(prun P (Op.equalIn d e a b)).bind fun r=>if r=true then prun P (Op.eqItems d e sz xs ys l) else some false
 |[]=>rfl
 |i::l=>by
  simp only[Op.eqItems,prun_bind]
  congr 1;funext a;congr 1;funext b;congr 1;funext r
  cases r<;>rfl
theorem Cp{P:Program}(d:Nat)(t:TypeId)(xs ys:Array Value)(n e sz:Nat)(ht:prun P (underlying t)=some (.array n e))(hs:prun P (sizeOf e)=some sz):
 prun P (Op.equalIn (d+1) t (.agg xs) (.agg ys))=prun P (Op.eqItems d e sz xs ys (List.range n)):=by
 simp only[Op.equalIn,prun_bind,ht,hs,Option.bind_some]
 simp only[Std.Legacy.Range.forIn_eq_forIn_range',Std.Legacy.Range.size,Nat.sub_zero,Nat.add_one_sub_one,Nat.div_one,List.range_eq_range']
 generalize List.range' 0 n 1=is
 induction is with
 |nil=>simp[Op.eqItems,prun_pure]
 |cons i is ih=>
  simp only[List.forIn_cons,Op.eqItems,prun_bind,zY]
  cases prun P (part e xs (i*sz)) with
  |none=>rfl
  |some a=>
   simp only[Option.bind_some]
   cases prun P (part e ys (i*sz)) with
   |none=>rfl
   |some b=>
    simp only[Option.bind_some]
    cases prun P (Op.equalIn d e a b) with
    |none=>rfl
    |some r=>
     cases r
     ·simp only[Option.bind_some,Bool.not_false,if_true,prun_pure]
     ·simp only[Option.bind_some,Bool.not_true,Bool.false_eq_true,if_false,prun_pure]
      exact ih
theorem Qb(a b c d x y u w:Int):prun prog (Op.equal 124 (.agg ⟨[zv a,zv b,zv c,zv d]⟩) (.agg ⟨[zv x,zv y,zv u,zv w]⟩))=some (decide (a=x) && (decide (b=y) && (decide (c=u) && decide (d=w)))):=by
 have ht:prun prog (underlying 124)=some (.array 4 3):=by kernel_rfl
 have hs:prun prog (sizeOf 3)=some 1:=by kernel_rfl
 have p0: ∀a b c d:Int,prun prog (part 3 ⟨[zv a,zv b,zv c,zv d]⟩ (0*1))=some (zv a):=fun a b c d=>by kernel_rfl
 have p1: ∀a b c d:Int,prun prog (part 3 ⟨[zv a,zv b,zv c,zv d]⟩ (1*1))=some (zv b):=fun a b c d=>by kernel_rfl
 have p2: ∀a b c d:Int,prun prog (part 3 ⟨[zv a,zv b,zv c,zv d]⟩ (2*1))=some (zv c):=fun a b c d=>by kernel_rfl
 have p3: ∀a b c d:Int,prun prog (part 3 ⟨[zv a,zv b,zv c,zv d]⟩ (3*1))=some (zv d):=fun a b c d=>by kernel_rfl
 show prun _ (Op.equalIn (9999+1) _ _ _)=_
 rw[Cp _ _ _ _ _ _ _ ht hs,show List.range 4=[0,1,2,3] from rfl]
 simp only[Co,p0,p1,p2,p3,Je,Option.bind_some,decide_eq_true_eq]
 by_cases h1:a=x<;>by_cases h2:b=y<;>by_cases h3:c=u<;>by_cases h4:d=w<;>simp[h1,h2,h3,h4]
abbrev j9(x:aH):Value:= .agg ⟨[zv x.fz1,zv x.fc,zv x.aq,zv x.tc]⟩
def mg(x y:aH):Bool:=decide (y.fz1=x.fz1) && (decide (y.fc=x.fc) && (decide (y.aq=x.aq) && decide (y.tc=x.tc)))
theorem Ty(x:aH)(l:List aH):kZ 124 (j9 x) (l.map j9):=⟨fun k' hk'=>by
 obtain⟨y,_,rfl⟩:=List.mem_map.1 hk'
 refine⟨rfl,_,Qb _ _ _ _ _ _ _ _,?_⟩
 simp only[Bool.and_eq_true,decide_eq_true_eq,j9,Value.agg.injEq,Array.mk.injEq,List.cons.injEq,Value.int.injEq,true_and,and_true]⟩
theorem H6(x:aH)(l:List aH):j9 x∈l.map j9↔l.any (mg x)=true:=by
 rw[List.mem_map,List.any_eq_true]
 simp only[mg,Bool.and_eq_true,decide_eq_true_eq,j9,Value.agg.injEq,Array.mk.injEq,List.cons.injEq,Value.int.injEq,true_and,and_true]
theorem Ht(l:List aH): ∀k,k∈l.map j9->au k=true:=fun k hk=>by
 obtain⟨t,_,rfl⟩:=List.mem_map.1 hk
 rfl
theorem PR(a:Int)(l:List Int):kZ 3 (zv a) (l.map fun x=>zv x):=⟨fun k' hk'=>by
 obtain⟨y,_,rfl⟩:=List.mem_map.1 hk'
 exact⟨rfl,_,Jd _ _,by simp⟩⟩
theorem DZ(a:Int)(l:List Int):zv a∈(l.map fun x=>zv x)↔a∈l:=by
 rw[List.mem_map]
 constructor
 ·rintro⟨y,h1,h2⟩;injection h2 with _ h2;rw[←h2];exact h1
 ·intro h;exact⟨a,h,rfl⟩
theorem EY(l:List Int): ∀k,k∈(l.map fun x=>zv x)->au k=true:=fun k hk=>by
 obtain⟨t,_,rfl⟩:=List.mem_map.1 hk
 rfl
theorem Be: ∀(l m:List (Int × Int)) (i:Nat),iZ i (l++m)=iZ i l++iZ (i+l.length) m
 |[],m,i=>rfl
 |(a,b)::l,m,i=>by
  simp only[List.cons_append,iZ,Be l m (i+1),List.length_cons]
  rw[show i+1+l.length=i+(l.length+1) by omega]
theorem wI(l:List (Int × Int))(a b:Int):aa.map (iZ 0 l++[{key:=zv a,val:=zv b,born:=l.length}]) (l.length+1)=uu (l++[(a,b)]):=by
 unfold uu
 rw[Be,List.length_append]
 simp[iZ]
theorem uP(σ:Nat->Option Nat): ∀(l:List (Int × Int)) (i:Nat),gV σ (iZ i l)=some (iZ i l)
 |[],_=>rfl
 |(a,b)::l,i=>by simp only[iZ,gV,aW,uP σ l (i+1)]
theorem Ar(σ:Nat->Option Nat)(l:List (Int × Int)):aI σ (uu l)=some (uu l):=by simp only[aI,uP]
def nV:List (Int × Int)->Int->Option Int
 |[],_=>none
 |(a,b)::l,x=>if x=a then some b else nV l x
theorem NY: ∀(l:List (Int × Int)) (i j:Nat) (a:Int),∃r:Option (Nat × Int),aC prog 3 (zv a) (iZ j l) i=some (r.map fun p=>(p.1,zv p.2))/\r.map (·.2)=nV l a
 |[],i,j,a=>⟨none,rfl,rfl⟩
 |(x,b)::l,i,j,a=>by
  simp only[iZ,aC,Jd,nV]
  by_cases h:a=x
  ·simp only[h,decide_true,if_pos]
   exact⟨some (i,b),rfl,rfl⟩
  ·simp only[h,decide_false,if_neg,if_false]
   exact NY l (i+1) (j+1) a
theorem Fw(l:List (Int × Int))(F T:Int)(h:nV l F=none):nV (l++[(F,T)])=ins (nV l) F T:=by
 funext x
 induction l with
 |nil=>rfl
 |cons p l ih=>
  obtain⟨a,b⟩:=p
  simp only[nV] at h
  split at h
  ·cases h
  ·rename_i hne
   simp only[List.cons_append,nV,ih h,ins]
   by_cases hx:x=a
   ·subst hx;simp[Ne.symm hne]
   ·simp[hx]
theorem WO(l:List (Int × Int)):vy (iZ 0 l) (nV l):=⟨fun a=>NY l 0 0 a,fun σ c=>by simp only[aI,uP]⟩
end Go.Proofs.Nw
namespace Go.Proofs.Nw
open Go Go.AV Tryz
set_option maxRecDepth 1000000
noncomputable section
abbrev RF(y:jm):List Value:=[ZV y.oC,ZV y.day,ZV y.inst,Value.string y.id,ZV y.gE,Value.bool y.sf,Value.bool y.cancelled,Value.slice y.ca y.cn y.cc]
abbrev X4(kb:ba)(k:Nat)(y:jm):Prop:=aE prog kb 42 (0+k*8)=some (AG (RF y))
abbrev Nq(N:aM):aa:=BQ [Yo N,Yp N,SL 766 N.nu N.uc,Yq N,Yr N,Ys N,ZV N.d,ZV N.w,ZV N.c] 9 1 31
abbrev RE(i k:Nat):List (Nat × Value):=[eI i,(2,Yi),(5,YU),(7,IV (k+1))]
abbrev RD(N:aM)(x:jm):List (Nat × aa):=[(0,Nq N),(1,BQ (RF x) 8 1 42)]
theorem ZC(z:T aa)(zn i k:Nat)(N:aM)(kb:ba)(x y:jm)(Q:QL)(hyp:Br (decide ((↑k:Int)<(↑i:Int))) (Yz k/\k<N.nu/\Rf 766/\QX z kb/\X4 kb k y/\Br (y.id.toList==x.id.toList) (Br (y.day==x.day) (Br (y.inst==x.inst) (E6 79 z zn (Rs (I 6)/\Q af.ret [(4,I 6)] [] 2 z zn)) (ZV (IntKind.i64.wrap ((↑k:Int)+1))=IV (k+1)/\E6 79 z zn (R4 (IV i) Yi YU (IV (k+1)) (K2 nS (Nq N) (BQ (RF x) 8 1 42) (Q aN (RE i k) (RD N x) 2 z zn))))) (ZV (IntKind.i64.wrap ((↑k:Int)+1))=IV (k+1)/\E6 79 z zn (R4 (IV i) Yi YU (IV (k+1)) (K2 nS (Nq N) (BQ (RF x) 8 1 42) (Q aN (RE i k) (RD N x) 2 z zn))))) (ZV (IntKind.i64.wrap ((↑k:Int)+1))=IV (k+1)/\E6 79 z zn (R4 (IV i) Yi YU (IV (k+1)) (K2 nS (Nq N) (BQ (RF x) 8 1 42) (Q aN (RE i k) (RD N x) 2 z zn))))) (E6 79 z zn (Q YO [] [] 2 z zn))):ew prog gP z (ah (ag f69) 0) 79 (Ax i k) z [(0,N.jP),(1,py x)] 2 zn 2 Q:=K1t hyp ((tA 2 (tO (Y9 k) (tO (An.ld 1 kb (AG y.row)) (tA 3 ((tA 7 ((tA 8 ((tA 2 (tE [] [] [(4,I 6)] [] 2 z zn)).fork (tA 2 (tO (dS k) (tE dq [] (RE i k) (RD N x) 2 z zn))))).fork (tA 8 (tO (dS k) (tE dq [] (RE i k) (RD N x) 2 z zn))))).fork (tA 13 (tO (dS k) (tE dq [] (RE i k) (RD N x) 2 z zn)))))))).fork (tA 1 (tE [] [] [] [] 2 z zn)))
abbrev YEs(x:jm):Value:=Value.bool (decide (0<=x.day) && decide (x.day<=36524))
abbrev Ow(x:jm)(N:aM):List Value:=[Value.slice x.ca x.cn x.cc,IV N.ns,YM,I 3155932800]
theorem Xu(z:T aa)(zn i:Nat)(N:aM)(kb:ba)(x:jm)(e:Int)(b:Bool)(Q:QF)(hyp:Yz i/\i<N.nu/\Rf 766/\QX z kb/\X4 kb i x/\Rf z/\gP 81 [Value.string x.id]=some (Value.bool (bK x.id))/\Br (!bK x.id) (E6 79 z zn (Rs (I 12)/\Q (I 12) [] 0 z zn)) (Br (decide (x.oC< -1)) (E6 79 z zn (Rs cC/\Q cC [] 0 z zn)) (Br (decide (x.inst<0)) (E6 79 z zn (Rs cC/\Q cC [] 0 z zn)) (Rf z/\gP 82 [ZV x.day,YM,I 36524]=some (YEs x)/\Br (!(decide (0<=x.day) && decide (x.day<=36524))) (E6 79 z zn (Rs (I 11)/\Q (I 11) [] 0 z zn)) (Br (decide (x.gE<0)) (E6 79 z zn (GH/\Q (I 9) [] 0 z zn)) (Br (decide (x.gE>=(↑N.nr:Int))) (E6 79 z zn (GH/\Q (I 9) [] 0 z zn)) (aT prog z zn 83 (Ow x N) [] 0 0 Yx (ON e) db/\bz (sig []) (Ow x N)=some (Ow x N)/\ ∀(x_1:Unit),True->Rs (ZV e)/\Br (e !=0) (E6 79 z zn (Rs (ZV e)/\Q (ZV e) [] 0 z zn)) (sZ/\ai prog (ah (ag f69) 0) 2 79 (Ax i 0) [(0,N.jP),(1,py x)] 2 z zn (alt (b=true) (ax.mk af.ret [(4,I 6)] [] 2 z zn) (alt (b=false) (ax.mk YO [] [] 2 z zn) Al.nil)).R/\E6 79 z zn (R4 (IV i) Yi YU YM (K2 nS (Nq N) (BQ (RF x) 8 1 42) ((∀(x:Unit),b=true->E6 79 z zn (Rs (I 6)/\Q (I 6) [] 0 z zn))/\ ∀(x:Unit),b=false->E6 79 z zn (Ki/\Q YM [] 0 z zn)))))))))))):ed prog gP z f69 [AG N.uW,iv i] z [] 0 zn Q:=K1t hyp (tA 1 (tO (Y9 i) (tO (An.ld 1 kb (AG x.row)) (tA 2 (tO (An.cl (Value.bool (bK x.id))) ((tR [] [] (I 12) [] 0 z zn).fork (tA 1 ((tA 5 (tR [] [] cC [] 0 z zn)).fork (tA 4 ((tA 2 (tR [] [] cC [] 0 z zn)).fork (tA 3 (tO (An.cl (YEs x)) ((tR [] [] (I 11) [] 0 z zn).fork (tA 1 ((tA 8 (KG z zn)).fork (tA 8 ((tA 2 (KG z zn)).fork (tA 4 (Tr.cm (Cm.mk (Ow x N) [] 0 0 [] [] 2) Unit Yx (ON e) db (fun(x:Unit)=>ZV e) db (fZ z) (fY zn) fun(x_1:Unit)=>(tA 1 (tR [] [] (ZV e) [] 0 z zn)).fork (tA 1 (Tr.lp 2 79 dq [] (Ax i 0) [(0,N.jP),(1,py x)] 2 z zn (Al.cons Unit (YR b) (fun(x:Unit)=>ax.mk af.ret [(4,I 6)] [] 2 z zn) (fun(x:Unit)=>tR [] [] (I 6) [] 0 z zn) (Al.cons Unit (YS b) (fun(x:Unit)=>ax.mk YO [] [] 2 z zn) (VW z zn) Al.nil)))))))))))))))))))))))
end
noncomputable section
theorem XI(z:T aa)(zn:Nat)(s lo hi:Int)(Q:QF)(hyp:E6 36 z zn (KF/\Q B3 [] 0 z zn)):ed prog gP z f60 [az,zv s,zv lo,zv hi] z [] 0 zn Q:=K1t hyp (tA 6 (tR [] [] B3 [] 0 z zn))
theorem XA(z:T aa)(zn:Nat)(s lo hi:Int)(Q:QF)(hyp:E6 83 z zn (Rs (I 5)/\Q (I 5) [] 0 z zn)):ed prog gP z f83 [az,zv s,zv lo,zv hi] z [] 0 zn Q:=K1t hyp (tA 6 (tR [] [] (I 5) [] 0 z zn))
theorem XJ(z:T aa)(zn b o sp:Nat)(s lo hi:Int)(Q:QF)(hyp:E6 36 z zn (KF/\Q B3 [] 0 z zn)):ed prog gP z f60 [Value.slice (some (Addr.mk b o (some sp))) 0 0,zv s,zv lo,zv hi] z [] 0 zn Q:=K1t hyp (tA 6 (tR [] [] B3 [] 0 z zn))
theorem XB(z:T aa)(zn b o sp:Nat)(s lo hi:Int)(Q:QF)(hyp:E6 83 z zn (Rs (I 5)/\Q (I 5) [] 0 z zn)):ed prog gP z f83 [Value.slice (some (Addr.mk b o (some sp))) 0 0,zv s,zv lo,zv hi] z [] 0 zn Q:=K1t hyp (tA 6 (tR [] [] (I 5) [] 0 z zn))
abbrev YEu(i:Nat):Prop:=gP 44 [cC,IV i,cC]=some (AG [cC,IV i,cC])
abbrev YEv(i:Nat):Prop:=gP 44 [cC,IV i,I 11]=some (AG [cC,IV i,I 11])
abbrev YEw(i:Nat):Prop:=gP 44 [cC,IV i,I 9]=some (AG [cC,IV i,I 9])
abbrev Ov(x:jm):Value:=AG [Value.string x.id,ZV x.day,ZV x.inst]
noncomputable abbrev YEy(i:Nat)(z:T aa)(zn:Nat):Tr:=tO (An.cl (AG [cC,IV i,cC])) (tA 1 (tE Yf [] YZ [(1,BQ [cC,IV i,cC] 3 1 101)] 3 z zn))
noncomputable abbrev YEz(i:Nat)(z:T aa)(zn:Nat):Tr:=tO (An.cl (AG [cC,IV i,I 11])) (tA 1 (tE Yf [] YZ [(1,BQ [cC,IV i,I 11] 3 1 101)] 3 z zn))
noncomputable abbrev YE0(i:Nat)(z:T aa)(zn:Nat):Tr:=tO (An.cl (AG [cC,IV i,I 9])) (tA 1 (tE Yf [] YZ [(1,BQ [cC,IV i,I 9] 3 1 101)] 3 z zn))
theorem ru(z:T aa)(zn i:Nat)(N:aM)(kb:ba)(x:jm)(ks:List Value)(c1 c2:Int)(Q:QL)(hyp:Br (decide ((↑i:Int)<(↑N.nu:Int))) (Yz i/\i<N.nu/\Rf 766/\QX z kb/\X4 kb i x/\Rf z/\gP 50 [Value.string x.id]=some (Value.bool (bK x.id))/\Br (!bK x.id) (Rf z/\gP 44 [cC,IV i,I 12]=some (AG [cC,IV i,I 12])/\E6 96 z zn (YV/\Rs (BQ [cC,IV i,I 12] 3 1 101)/\Q af.ret YZ [(1,BQ [cC,IV i,I 12] 3 1 101)] 3 z zn)) (Br (decide (x.oC< -1)) (Rf z/\YEu i/\E6 96 z zn (YV/\Rs (BQ [cC,IV i,cC] 3 1 101)/\Q af.ret YZ [(1,BQ [cC,IV i,cC] 3 1 101)] 3 z zn)) (Br (decide (x.inst<0)) (Rf z/\YEu i/\E6 96 z zn (YV/\Rs (BQ [cC,IV i,cC] 3 1 101)/\Q af.ret YZ [(1,BQ [cC,IV i,cC] 3 1 101)] 3 z zn)) (Br (decide (x.day<0)) (Rf z/\YEv i/\E6 96 z zn (YV/\Rs (BQ [cC,IV i,I 11] 3 1 101)/\Q af.ret YZ [(1,BQ [cC,IV i,I 11] 3 1 101)] 3 z zn)) (Br (decide (x.day>36524)) (Rf z/\YEv i/\E6 96 z zn (YV/\Rs (BQ [cC,IV i,I 11] 3 1 101)/\Q af.ret YZ [(1,BQ [cC,IV i,I 11] 3 1 101)] 3 z zn)) (Br (decide (x.gE<0)) (Rf z/\YEw i/\E6 96 z zn (YV/\Rs (BQ [cC,IV i,I 9] 3 1 101)/\Q af.ret YZ [(1,BQ [cC,IV i,I 9] 3 1 101)] 3 z zn)) (Br (decide (x.gE>=(↑N.nr:Int))) (Rf z/\YEw i/\E6 96 z zn (YV/\Rs (BQ [cC,IV i,I 9] 3 1 101)/\Q af.ret YZ [(1,BQ [cC,IV i,I 9] 3 1 101)] 3 z zn)) (aT prog z zn 60 (Ow x N) [] 0 0 Yx (B5 c1 c2) db/\bz (sig []) (Ow x N)=some (Ow x N)/\ ∀(x_1:Unit),True->BK c1 c2/\Br (c2 !=0) (Rf z/\gP 44 [cC,IV i,ZV c2]=some (AG [cC,IV i,ZV c2])/\E6 96 z zn (YV/\Rs (BQ [cC,IV i,ZV c2] 3 1 101)/\Q af.ret YZ [(1,BQ [cC,IV i,ZV c2] 3 1 101)] 3 z zn)) (aC prog 118 (Ov x) (eB ks) 0≠none/\(∀(p:Nat × Value),aC prog 118 (Ov x) (eB ks) 0=YH p->Exists (GK p))/\(∀(i_1:Nat),aC prog 118 (Ov x) (eB ks) 0=GJ i_1->Rf z/\gP 44 [cC,IV i,I 6]=some (AG [cC,IV i,I 6])/\E6 96 z zn (YV/\Rs (BQ [cC,IV i,I 6] 3 1 101)/\Q af.ret YZ [(1,BQ [cC,IV i,I 6] 3 1 101)] 3 z zn))/\(aC prog 118 (Ov x) (eB ks) 0=YL->aC prog 118 (Ov x) (eB ks) 0=YL/\ZV (IntKind.i64.wrap ((↑i:Int)+1))=IV (i+1)/\E6 96 z zn (R6 Yi YU Yj (SL 766 N.nu N.uc) (IV N.nu) (IV (i+1)) (KO Yn (Nq N)/\YX/\KO Yn (aa.map (eB ks++[MapEntry.mk (Ov x) T1 ks.length]) (ks.length+1))/\Q aN [pf,YY,(3,Yj),(16,SL 766 N.nu N.uc),(17,IV N.nu),(18,IV (i+1))] [(0,Nq N),Ya,(2,aa.map (eB ks++[MapEntry.mk (Ov x) T1 ks.length]) (ks.length+1))] 3 z zn)))))))))))) (E6 96 z zn (YV/\YX/\Q YO YZ [Ya] 3 z zn))):ew prog gP z Yb 96 (Re N.nu N.uc i) z [(0,N.jP),Yc,(2,bb ks)] 3 zn 3 Q:=K1t hyp ((tA 1 (tO (Y9 i) (tO (An.ld 1 kb (AG x.row)) (tA 2 (tO (An.cl (Value.bool (bK x.id))) ((tO (An.cl (AG [cC,IV i,I 12])) (tA 1 (tE Yf [] YZ [(1,BQ [cC,IV i,I 12] 3 1 101)] 3 z zn))).fork (tA 1 ((tA 5 (YEy i z zn)).fork (tA 4 ((tA 2 (YEy i z zn)).fork (tA 3 ((tA 5 (YEz i z zn)).fork (tA 4 ((tA 2 (YEz i z zn)).fork (tA 3 ((tA 8 (YE0 i z zn)).fork (tA 8 ((tA 2 (YE0 i z zn)).fork (tA 4 (Tr.cm (Cm.mk (Ow x N) [] 0 0 [] [] 4) Unit Yx (B5 c1 c2) db (OO c1 c2) db (fZ z) (fY zn) fun
 (x_1:Unit)=>(tA 1 (tO (An.cl (AG [cC,IV i,ZV c2])) (tA 1 (tE Yf [] YZ [(1,BQ [cC,IV i,ZV c2] 3 1 101)] 3 z zn)))).fork (tA 6 (Tr.find Nat (fun(x:Nat)=>(x,T1)) (fun(i_1:Nat)=>tA 1 (tO (An.cl (AG [cC,IV i,I 6])) (tA 1 (tE Yf [] YZ [(1,BQ [cC,IV i,I 6] 3 1 101)] 3 z zn)))) (tA 2 (tO BI (tO (dS i) (tE Ym [] [pf,YY,(3,Yj),(16,SL 766 N.nu N.uc),(17,IV N.nu),(18,IV (i+1))] [(0,Nq N),Ya,(2,aa.map (eB ks++[MapEntry.mk (Ov x) T1 ks.length]) (ks.length+1))] 3 z zn)))))))))))))))))))))))))).fork (tA 1 (tE Yf [] YZ [Ya] 3 z zn)))
abbrev Un:Value:=AG [cC,YM,I 5]
theorem fu(z:T aa)(zn:Nat)(N:aM)(r1 r2 r3:Int)(Q:QF)(hyp:Br (decide ((↑N.nu:Int)>1024)) (Rf z/\gP 44 [cC,YM,I 5]=some Un/\E6 96 z zn (Rs Un/\Q Un [] 0 z zn)) (Yg/\ai prog Yb 3 96 (Re N.nu N.uc 0) [(0,N.jP),Yc,(2,bb [])] 3 z zn (alt True (ax.mk af.ret Yh [(1,c7 r1 r2 r3)] 3 z zn) (alt (r1=0/\r2=0/\r3=0) (ax.mk YO Yh [Yc] 3 z zn) Al.nil)).R/\E6 96 z zn (R6 Yi YU Yj (SL 766 N.nu N.uc) (IV N.nu) YM (KO Yn (Nq N)/\YX/\Yu/\(∀(x:Unit),True->E6 96 z zn (Rs (vu r1 r2 r3)/\Q (vu r1 r2 r3) [] 0 z zn))/\ ∀(x:Unit),r1=0/\r2=0/\r3=0->E6 96 z zn (Yw/\Q Yv [] 0 z zn))))):ed prog gP z f45 [AG N.uW] z [] 0 zn Q:=K1t hyp (tA 1 ((tA 1 (tO (An.cl Un) (tA 1 (tR [] [] Un [] 0 z zn)))).fork (tA 2 (Tr.lp 3 96 Ym [] (Re N.nu N.uc 0) [(0,N.jP),Yc,(2,bb [])] 3 z zn (Al.cons Unit Yx (fun(x:Unit)=>ax.mk af.ret Yh [(1,c7 r1 r2 r3)] 3 z zn) (fun(x:Unit)=>tR [] [] (vu r1 r2 r3) [] 0 z zn) (Al.cons Unit (fun(x:Unit)=>r1=0/\r2=0/\r3=0) (fun(x:Unit)=>ax.mk YO Yh [Yc] 3 z zn) (Yy z zn) Al.nil))))))
end
end Go.Proofs.Nw
namespace Go.Proofs.Nw
open Go Go.AV Tryz
set_option maxHeartbeats 4000000
set_option maxRecDepth 100000
def B7(k:Nat)(a:Option Addr)(n c len:Nat):Prop:=(a=none/\n=0/\c=0/\len=0)\/(a=some ⟨256*k+510,0,none⟩/\n=len)
def Sh(k:Nat)(a:Option Addr)(n c len:Nat):Prop:=B7 k a n c len\/((∃b o s,a=some ⟨b,o,some s⟩)/\n=0/\c=0/\len=0)
structure RunT where
 v:jm
 calls:List bw
def sameKey(y x:RunT):Bool:=(y.v.id.data==x.v.id.data) && (decide (y.v.day=x.v.day) && decide (y.v.inst=x.v.inst))
def Ci(ns:Nat)(x:RunT):Int:=(bH x.calls ns 0 3155932800).2
def dm(ns nr:Nat)(l:List RunT)(i:Nat):Option Int:=match l[i]? with
 |some x=>if bK x.v.id=false then some 12 else if x.v.oC< -1\/x.v.inst<0 then some 2 else if x.v.day<0\/36524<x.v.day then some 11
  else if x.v.gE<0\/(nr:Int)<=x.v.gE then some 9 else if Ci ns x≠0 then some (Ci ns x) else if (l.take i).any (fun y=>sameKey y x)=true then some 6 else none
 |none=>none
structure qp(z:T aa)(l:List RunT):Prop where
 Kt:cf z 1 (l.map fun r=>r.v.row)
 sl: ∀(j:Nat)(r:RunT),l[j]? =some r->Sh (6+j) r.v.ca r.v.cn r.v.cc r.calls.length
 calls: ∀(j:Nat)(r:RunT),l[j]? =some r->cf z (6+j) (r.calls.map bw.row)
section
variable{z:T aa}{zn:Nat}
theorem JW(hz:ay z zn)(hg:fB prog z gP)(k:Nat)(l:List bw){a:Option Addr}{n c:Nat}(hs:Sh k a n c l.length)(ht:cf z k (l.map bw.row))(s lo hi:Int):
 A1 z zn 60 [.slice a n c,zv s,zv lo,zv hi] [] 0 0 (.tuple ⟨[zv (bH l s lo hi).1,zv (bH l s lo hi).2]⟩) []:=by
 rcases hs with (⟨rfl,rfl,rfl,h⟩|⟨rfl,rfl⟩)|⟨⟨b,o,sp,rfl⟩,rfl,rfl,h⟩
 rotate_left 2
 ·have hr:bH l s lo hi=(0,5):=if_pos (by omega)
  rw[hr]
  refine cW hg (fn:=f60) (by kernel_rfl) (by kernel_rfl) hz ⟨by decide,by decide⟩ rfl (XJ z zn b o sp s lo hi _ ?_)
  (repeat' first|(with_reducible first|exact rfl|assumption|apply And.intro)|exact q1)
 ·have hr:bH l s lo hi=(0,5):=if_pos (by omega)
  rw[hr]
  refine cW hg (fn:=f60) (by kernel_rfl) (by kernel_rfl) hz ⟨by decide,by decide⟩ rfl (XI z zn s lo hi _ ?_)
  (repeat' first|(with_reducible first|exact rfl|assumption|apply And.intro)|exact q1)
 ·exact Ng hz hg k l c ht s lo hi
theorem F1(hz:ay z zn)(hg:fB prog z gP)(k:Nat)(l:List bw){a:Option Addr}{n c:Nat}(hs:Sh k a n c l.length)(ht:cf z k (l.map bw.row))(s lo hi:Int):
 A1 z zn 83 [.slice a n c,zv s,zv lo,zv hi] [] 0 0 (zv (bH l s lo hi).2) []:=by
 rcases hs with (⟨rfl,rfl,rfl,h⟩|⟨rfl,rfl⟩)|⟨⟨b,o,sp,rfl⟩,rfl,rfl,h⟩
 rotate_left 2
 ·have hr:bH l s lo hi=(0,5):=if_pos (by omega)
  rw[hr]
  refine cW hg (fn:=f83) (by kernel_rfl) (by kernel_rfl) hz ⟨by decide,by decide⟩ rfl (XB z zn b o sp s lo hi _ ?_)
  (repeat' first|(with_reducible first|exact rfl|assumption|apply And.intro)|exact q1)
 ·have hr:bH l s lo hi=(0,5):=if_pos (by omega)
  rw[hr]
  refine cW hg (fn:=f83) (by kernel_rfl) (by kernel_rfl) hz ⟨by decide,by decide⟩ rfl (XA z zn s lo hi _ ?_)
  (repeat' first|(with_reducible first|exact rfl|assumption|apply And.intro)|exact q1)
 ·exact JJ hz hg k l c ht s lo hi
theorem B7.Gt{k:Nat}{a:Option Addr}{n c len:Nat}(h:B7 k a n c len)(σ:bu):aW (aA σ []) (.slice a n c)=some (.slice a n c):=by
 rcases h with ⟨rfl,rfl,rfl,_⟩|⟨rfl,_⟩
 ·rfl
 ·exact qH σ k n c
theorem Sh.Gt{k:Nat}{a:Option Addr}{n c len:Nat}(h:Sh k a n c len)(σ:bu):aW (aA σ []) (.slice a n c)=some (.slice a n c):=by
 rcases h with h|⟨⟨b,o,s,rfl⟩,rfl,rfl,_⟩
 ·exact h.Gt σ
 ·rfl
theorem lF{σ:Nat->Option Nat}{v:Value}{l:List Value}(h:aW σ v=some v)(k:bz σ l=some l):bz σ (v::l)=some (v::l):=by simp only[bz,h,k]
theorem PQ(x:RunT)(l:List RunT):kZ 118 x.v.key (l.map fun y=>y.v.key):=⟨fun k' hk'=>by
 obtain⟨y,_,rfl⟩:=List.mem_map.1 hk'
 refine⟨rfl,_,P7 _ _ _ _ _ _,?_⟩
 simp only[Bool.and_eq_true,decide_eq_true_eq,jQ]
 constructor
 ·rintro⟨h1,h2,h3⟩
  show Value.agg _=Value.agg _
  rw[h1,h2,h3]
 ·intro h
  have h:jm.key x.v=jm.key y.v:=h
  simp only[jm.key,Value.agg.injEq,Array.mk.injEq,List.cons.injEq,Value.string.injEq,Value.int.injEq,true_and,and_true] at h
  exact h⟩
theorem mem_keys(x:RunT)(l:List RunT):x.v.key∈(l.map fun y=>y.v.key)↔l.any (fun y=>sameKey y x)=true:=by
 rw[List.mem_map,List.any_eq_true]
 constructor
 ·rintro⟨y,h1,h2⟩
  refine⟨y,h1,?_⟩
  have h:jm.key y.v=jm.key x.v:=h2
  simp only[jm.key,Value.agg.injEq,Array.mk.injEq,List.cons.injEq,Value.string.injEq,Value.int.injEq,true_and,and_true] at h
  simp only[sameKey,Bool.and_eq_true,decide_eq_true_eq,jQ]
  exact h
 ·rintro⟨y,h1,h2⟩
  refine⟨y,h1,?_⟩
  simp only[sameKey,Bool.and_eq_true,decide_eq_true_eq,jQ] at h2
  show Value.agg _=Value.agg _
  rw[h2.1,h2.2.1,h2.2.2]
theorem Cq(l:List RunT): ∀k,k∈(l.map fun y=>y.v.key)->au k=true:=fun k hk=>by
 obtain⟨t,_,rfl⟩:=List.mem_map.1 hk
 rfl
theorem PM(hz:ay z zn)(hg:fB prog z gP)(N:aM)(l:List RunT)(hl:l.length<100000)(hN:N.nu=l.length)(hZ:qp z l)(hnet: ∀σ:bu,aI (aA σ []) N.jP=some N.jP)(r:Int × Int)(hr:scan (dm N.ns N.nr l) l.length 0=r):
 ai prog (ah (ag f45) 0) 3 96 (Re N.nu N.uc 0) [(0,N.jP),(1,c7 0 0 0),(2,bb [])] 3 z zn (Al.R (ZU z zn N (if r.2=0 then 0 else 2) r.1 r.2).l):=by
 refine an hD hg (α:=Nat) 3 96 3 (fun i=>i<=l.length/\scan (dm N.ns N.nr l) (l.length - i) i=r) (fun i=>Re N.nu N.uc i) (fun i=>[(0,N.jP),(1,c7 0 0 0),(2,bb ((l.take i).map fun y=>y.v.key))]) (fun _=>z) (fun _=>zn) (fun i=>l.length - i) _ (fun i hI=>?_) 0 ⟨Nat.zero_le _,hr⟩
 obtain⟨h1,h2⟩:=hI
 by_cases hi:i<l.length
 ·obtain⟨e,he⟩:=hZ.Kt.aw (i:=i) (by simpa using hi)
  obtain⟨x,hx⟩:=eV hi
  have hid:=UD (hZ.Kt.sz (i:=i) (r:=x.v.row) (s:=x.v.id) (by rw[List.getElem?_map,hx];rfl) (by simp))
  have hlen:=aQ (row:=fun r:RunT=>r.v.row) (sz:=8) l fun _=>rfl
  have hrow:aE prog (bq e (l.map fun r=>r.v.row).flatten) 42 (0+i*8)=some (.agg ⟨x.v.row⟩):=bG (r:=x.v.row) (sz:=8) underlying42 rfl rfl hlen (by rw[List.getElem?_map,hx];rfl)
  have hk:=PQ x (l.take i)
  have hps:=Cq (l.take i)
  have hany:=mem_keys x (l.take i)
  have hsl:=(hZ.sl i x hx).Gt
  have hcalls:=JW hz hg (6+i) x.calls (hZ.sl i x hx) (hZ.calls i x hx) N.ns 0 3155932800
  have hargs:bz (sig []) [.slice x.v.ca x.v.cn x.v.cc,iv N.ns,I 0,I 3155932800]=some [.slice x.v.ca x.v.cn x.v.cc,iv N.ns,I 0,I 3155932800]:=by
   have:=hsl []
   rw[zH] at this
   exact lF this rfl
  have hbad:dm N.ns N.nr l i=if bK x.v.id=false then some 12 else if x.v.oC< -1\/x.v.inst<0 then some 2 else if x.v.day<0\/36524<x.v.day then some 11
   else if x.v.gE<0\/(N.nr:Int)<=x.v.gE then some 9 else if (bH x.calls N.ns 0 3155932800).2≠0 then some (bH x.calls N.ns 0 3155932800).2 else if (l.take i).any (fun y=>sameKey y x)=true then some 6 else none:=by
   unfold dm;rw[hx];rfl
  have hc:decide ((i:Int)<(N.nu:Int))=true:=by simp;omega
  have ret: ∀e:Int,dm N.ns N.nr l i=some e->e≠0->Al.R (ZU z zn N (if r.2=0 then 0 else 2) r.1 r.2).l ⟨.ret,[(2,ip 1)],[(1,c7 2 i e)],3,z,zn⟩:=fun e h h0=>by
   have:r=((i:Int),e):=by rw[←h2,dr hi h]
   rw[this]
   simp only[if_neg h0]
   exact bD trivial
  refine t100 (ru z zn i N (bq e (l.map fun r=>r.v.row).flatten) x.v ((l.take i).map fun y=>y.v.key) (bH x.calls N.ns 0 3155932800).1 (bH x.calls N.ns 0 3155932800).2 (ak _ _ _ _ _ _ _ _ _) ⟨fun _=>?_,nC1 hc⟩)
  (repeat' first|(with_reducible first|exact rfl|assumption|apply And.intro|exact(by omega:i<N.nu)|exact hk.no|exact hk.ex|exact iI _ hps rfl|exact bP (by omega))|exact(rfl:gP _ _=_)|exact hcalls|exact hnet _|intro hq)
  all_goals try (have hm:=hk.D7 (by with_reducible assumption);rw[hany] at hm)
  all_goals try (have hm:=hk.Kw (by with_reducible assumption);rw[hany] at hm)
  all_goals clear hk hps hrow hany he hz hr hnet hZ hargs hsl hlen
  all_goals first
   |(refine ret _ ?_ (by decide);clear ret h2 hcalls;rw[hbad];clear hbad;(repeat' split)<;>first|rfl|(exfalso;simp only[decide_eq_true_eq,decide_eq_false_iff_not,Bool.not_eq_true',Bool.not_eq_false',bS2] at*;omega)|(exfalso;simp_all;done))
   |(refine ret _ ?_ (by simpa using hq);clear ret h2 hcalls;rw[hbad];clear hbad;(repeat' split)<;>first|rfl|(exfalso;simp only[decide_eq_true_eq,decide_eq_false_iff_not,Bool.not_eq_true',Bool.not_eq_false',bS2] at*;omega)|(exfalso;simp_all;done))
   |(have hb:dm N.ns N.nr l i=none:=by
      clear ret h2 hcalls
      rw[hbad,if_neg (by simp_all),if_neg (by simp only[decide_eq_false_iff_not] at*;omega),if_neg (by simp only[decide_eq_false_iff_not] at*;omega),if_neg (by simp only[decide_eq_false_iff_not] at*;omega),if_neg (by simp_all),if_neg hm]
     refine⟨i+1,rfl,?_,rfl,rfl,rfl,⟨hi,by rw[←cN hi hb];exact h2⟩,by show l.length - (i+1)<l.length - i;omega⟩
     rw[fM]
     show _=[(0,N.jP),(1,c7 0 0 0),(2,bb ((l.take (i+1)).map fun y=>y.v.key))]
     rw[List.take_add_one,hx]
     simp)
 ·have hc:decide ((i:Int)<(N.nu:Int))=false:=by simp;omega
  refine t100 (ru z zn i N ⟨[],0,0,0,true,true,0,true⟩ ⟨0,0,0,⟨#[]⟩,0,true,true,none,0,0⟩ ((l.take i).map fun y=>y.v.key) 0 0 (ak _ _ _ _ _ _ _ _ _) ⟨nC1 hc,fun _=>?_⟩)
  (repeat' first|(with_reducible first|exact rfl|assumption|apply And.intro))
  rw[dH (by omega)] at h2
  refine dD (bD ?_)
  rw[←h2]
  exact⟨rfl,rfl,rfl⟩
def cG(ns nr:Nat)(l:List RunT):Int × Int:=if 1024<l.length then (0,5) else scan (dm ns nr l) l.length 0
theorem Qp(hz:ay z zn)(hg:fB prog z gP)(N:aM)(l:List RunT)(hN:N.nu=l.length)(hZ:qp z l)(hnet: ∀σ:bu,aI (aA σ []) N.jP=some N.jP):
 A1 z zn 45 [.agg ⟨N.uW⟩] [] 0 0 (.agg ⟨[zv (if (cG N.ns N.nr l).2=0 then 0 else 2),zv (cG N.ns N.nr l).1,zv (cG N.ns N.nr l).2]⟩) []:=by
 refine cW hg (fn:=f45) (by kernel_rfl) (by kernel_rfl) hz ⟨by decide,by decide⟩ rfl (fu z zn N (if (cG N.ns N.nr l).2=0 then 0 else 2) (cG N.ns N.nr l).1 (cG N.ns N.nr l).2 _ ?_)
 by_cases h:1024<l.length
 ·have hr:cG N.ns N.nr l=(0,5):=if_pos h
  have hc:decide ((N.nu:Int)>1024)=true:=by simp;omega
  rw[hr]
  refine⟨fun _=>?_,nC1 hc⟩
  (repeat' first|(with_reducible first|exact rfl|assumption|apply And.intro)|exact(rfl:gP _ _=_)|exact q1)
 ·have hr:cG N.ns N.nr l=scan (dm N.ns N.nr l) l.length 0:=if_neg h
  have hc:decide ((N.nu:Int)>1024)=false:=by simp;omega
  have hL:=PM hz hg N l (by omega) hN hZ hnet (cG N.ns N.nr l) hr.symm
  refine⟨nC1 hc,fun _=>?_⟩
  (repeat' first|(with_reducible first|exact rfl|assumption|apply And.intro|exact q1)|exact hL|exact hnet _|intro hq)
  all_goals first|(rw[hq.1,hq.2.1,hq.2.2];exact q1)|trace_state
end
theorem zM{σ:Nat->Option Nat}(x:jm)(h:aW σ (.slice x.ca x.cn x.cc)=some (.slice x.ca x.cn x.cc)):aI σ (py x)=some (py x):=by
 have hr:bz σ x.row=some x.row:=by
  unfold jm.row
  repeat (first|exact lF h rfl|refine lF rfl ?_)
 simp only[aI,hr]
section
variable{z:T aa}{zn:Nat}
theorem L7(hz:ay z zn)(hg:fB prog z gP)(N:aM)(l:List RunT)(hl:l.length<100000)(hN:N.nu=l.length)(hZ:qp z l)(hnet: ∀σ:bu,aI (aA σ []) N.jP=some N.jP)(i:Nat)(x:RunT)(hx:l[i]? =some x)(b:Bool)(hb:b=(l.take i).any fun y=>sameKey y x):
 ai prog (ah (ag f69) 0) 2 79 (Ax i 0) [(0,N.jP),(1,py x.v)] 2 z zn (Al.R (S5 z zn i N x.v b).l):=by
 have hil:i<l.length:=(List.getElem?_eq_some_iff.1 hx).1
 have hsl:=(hZ.sl i x hx).Gt
 have hrun: ∀σ:bu,aI (aA σ []) (py x.v)=some (py x.v):=fun σ=>zM x.v (hsl σ)
 refine an hD hg (α:=Nat) 2 79 2 (fun k=>k<=i/\((l.take k).any fun y=>sameKey y x)=false) (fun k=>Ax i k) (fun _=>[(0,N.jP),(1,py x.v)]) (fun _=>z) (fun _=>zn) (fun k=>i - k) _ (fun k hI=>?_) 0 ⟨Nat.zero_le _,rfl⟩
 obtain⟨h1,h2⟩:=hI
 by_cases hk:k<i
 ·obtain⟨e,he⟩:=hZ.Kt.aw (i:=k) (by simp;omega)
  obtain⟨y,hy⟩:=eV (l:=l) (i:=k) (by omega)
  have hlen:=aQ (row:=fun r:RunT=>r.v.row) (sz:=8) l fun _=>rfl
  have hrow:aE prog (bq e (l.map fun r=>r.v.row).flatten) 42 (0+k*8)=some (.agg ⟨y.v.row⟩):=bG (r:=y.v.row) (sz:=8) underlying42 rfl rfl hlen (by rw[List.getElem?_map,hy];rfl)
  have hc:decide ((k:Int)<(i:Int))=true:=by simp;omega
  have hsame:sameKey y x=((y.v.id.toList==x.v.id.toList) && ((y.v.day==x.v.day) && (y.v.inst==x.v.inst))):=by
   rw[o7];rfl
  have jY:sameKey y x=false->ak (fun k=>k<=i/\((l.take k).any fun y=>sameKey y x)=false) (fun k=>Ax i k) (fun _=>[(0,N.jP),(1,py x.v)]) 2 (fun _=>z) (fun _=>zn) (fun k=>i - k) (Al.R (S5 z zn i N x.v b).l) k .normal (Ax i (k+1)) [(0,N.jP),(1,py x.v)] 2 z zn:=fun h=>
   ⟨k+1,rfl,rfl,rfl,rfl,rfl,⟨hk,by rw[jR hy,h2,h];rfl⟩,by show i - (k+1)<i - k;omega⟩
  refine t100 (ZC z zn i k N (bq e (l.map fun r=>r.v.row).flatten) x.v y.v (ak _ _ _ _ _ _ _ _ _) ⟨fun _=>?_,nC1 hc⟩)
  (repeat' first|(with_reducible first|exact rfl|assumption|apply And.intro|exact(by omega:k<N.nu)|exact bP (by omega))|exact hnet _|exact hrun _|intro hq)
  all_goals first
   |(refine jY ?_;rw[hsame];simp_all;done)
   |(refine bD ?_;rw[hb];refine any_true hy hk ?_;rw[hsame];simp_all;done)
 ·have hc:decide ((k:Int)<(i:Int))=false:=by simp;omega
  refine t100 (ZC z zn i k N ⟨[],0,0,0,true,true,0,true⟩ x.v x.v (ak _ _ _ _ _ _ _ _ _) ⟨nC1 hc,fun _=>?_⟩)
  (repeat' first|(with_reducible first|exact rfl|assumption|apply And.intro))
  refine dD (bD ?_)
  rw[hb,←h2,show k=i by omega]
theorem Qq(hz:ay z zn)(hg:fB prog z gP)(N:aM)(l:List RunT)(hl:l.length<100000)(hN:N.nu=l.length)(hZ:qp z l)(hnet: ∀σ:bu,aI (aA σ []) N.jP=some N.jP)(i:Nat)(hi:i<l.length):
 A1 z zn 69 [.agg ⟨N.uW⟩,iv i] [] 0 0 (zv ((dm N.ns N.nr l i).getD 0)) []:=by
 obtain⟨e,he⟩:=hZ.Kt.aw (i:=i) (by simpa using hi)
 obtain⟨x,hx⟩:=eV hi
 have hid:=UC (hZ.Kt.sz (i:=i) (r:=x.v.row) (s:=x.v.id) (by rw[List.getElem?_map,hx];rfl) (by simp))
 have hlen:=aQ (row:=fun r:RunT=>r.v.row) (sz:=8) l fun _=>rfl
 have hrow:aE prog (bq e (l.map fun r=>r.v.row).flatten) 42 (0+i*8)=some (.agg ⟨x.v.row⟩):=bG (r:=x.v.row) (sz:=8) underlying42 rfl rfl hlen (by rw[List.getElem?_map,hx];rfl)
 have hsl:=(hZ.sl i x hx).Gt
 have hrun: ∀σ:bu,aI (aA σ []) (py x.v)=some (py x.v):=fun σ=>zM x.v (hsl σ)
 have hcalls:=F1 hz hg (6+i) x.calls (hZ.sl i x hx) (hZ.calls i x hx) N.ns 0 3155932800
 have hargs:bz (sig []) [.slice x.v.ca x.v.cn x.v.cc,iv N.ns,I 0,I 3155932800]=some [.slice x.v.ca x.v.cn x.v.cc,iv N.ns,I 0,I 3155932800]:=by
  have:=hsl []
  rw[zH] at this
  exact lF this rfl
 have hL:=L7 hz hg N l hl hN hZ hnet i x hx _ rfl
 have hbad:dm N.ns N.nr l i=if bK x.v.id=false then some 12 else if x.v.oC< -1\/x.v.inst<0 then some 2 else if x.v.day<0\/36524<x.v.day then some 11
  else if x.v.gE<0\/(N.nr:Int)<=x.v.gE then some 9 else if (bH x.calls N.ns 0 3155932800).2≠0 then some (bH x.calls N.ns 0 3155932800).2 else if (l.take i).any (fun y=>sameKey y x)=true then some 6 else none:=by
  unfold dm;rw[hx];rfl
 generalize ((l.take i).any fun y=>sameKey y x)=b at hL hbad
 generalize (bH x.calls N.ns 0 3155932800).2=ce at hcalls hbad
 refine cW hg (fn:=f69) (by kernel_rfl) (by kernel_rfl) hz ⟨by decide,by decide⟩ rfl (Xu z zn i N (bq e (l.map fun r=>r.v.row).flatten) x.v ce b _ ?_)
 (repeat' first|(with_reducible first|exact rfl|assumption|apply And.intro|exact(by omega:i<N.nu))|exact(rfl:gP _ _=_)|exact hcalls|exact hL|exact hnet _|exact hrun _|intro hq)
 all_goals clear hL hcalls hrow he hz hnet hZ hargs hsl hlen hrun
 all_goals first
  |(have hv:(dm N.ns N.nr l i).getD 0=12:=by(rw[hbad];clear hbad;(repeat' split)<;>first|rfl|(exfalso;simp only[bS1,bS2] at*;omega)|(exfalso;simp_all;done))
    rw[hv];exact q1)
  |(have hv:(dm N.ns N.nr l i).getD 0=2:=by(rw[hbad];clear hbad;(repeat' split)<;>first|rfl|(exfalso;simp only[bS1,bS2] at*;omega)|(exfalso;simp_all;done))
    rw[hv];exact q1)
  |(have hv:(dm N.ns N.nr l i).getD 0=11:=by(rw[hbad];clear hbad;(repeat' split)<;>first|rfl|(exfalso;simp only[bS1,bS2] at*;omega)|(exfalso;simp_all;done))
    rw[hv];exact q1)
  |(have hv:(dm N.ns N.nr l i).getD 0=9:=by(rw[hbad];clear hbad;(repeat' split)<;>first|rfl|(exfalso;simp only[bS1,bS2] at*;omega)|(exfalso;simp_all;done))
    rw[hv];exact q1)
  |(have hv:(dm N.ns N.nr l i).getD 0=6:=by(rw[hbad];clear hbad;(repeat' split)<;>first|rfl|(exfalso;simp only[bS1,bS2] at*;omega)|(exfalso;simp_all;done))
    rw[hv];exact q1)
  |(have hv:(dm N.ns N.nr l i).getD 0=0:=by(rw[hbad];clear hbad;(repeat' split)<;>first|rfl|(exfalso;simp only[bS1,bS2] at*;omega)|(exfalso;simp_all;done))
    rw[hv];exact q1)
  |(have hv:(dm N.ns N.nr l i).getD 0=ce:=by(rw[hbad];clear hbad;(repeat' split)<;>first|rfl|(exfalso;simp only[bS1,bS2] at*;omega)|(exfalso;simp_all;done))
    rw[hv];exact q1)
end
end Go.Proofs.Nw
namespace Go.Proofs.Nw
open Go Go.AV Tryz Go.jo
set_option maxRecDepth 100000
def stays(l:List aH):List (Int × Int):=(l.filter (·.stay)).map fun x=>(x.fz1,x.aq)
def C1(x y:aH):Bool:=y.stay && ((y.fz1==x.fz1)||(y.aq==x.aq))
def jE(U:List RunT)(f:Int):Nat:=match U[f.toNat]? with|some r=>r.calls.length|none=>0
def kN(U:List RunT)(f c:Int):Int:=match U[f.toNat]? with|some r=>(match r.calls[c.toNat]? with|some x=>x.stop|none=>0)|none=>0
def iM(U:List RunT)(L:List aH)(i:Nat)(x:aH):Int:=
 if x.fz1<0\/(U.length:Int)<=x.fz1\/x.aq<0\/(U.length:Int)<=x.aq\/x.fz1=x.aq then 9
 else if x.fc<0\/(jE U x.fz1:Int)<=x.fc\/x.tc<0\/(jE U x.aq:Int)<=x.tc then 9
 else if kN U x.fz1 x.fc≠kN U x.aq x.tc then 13
 else if x.stay=true/\(x.fc+1≠jE U x.fz1\/x.tc≠0) then 19
 else if x.stay=true/\(L.take i).any (C1 x)=true then 19
 else if x.stay=true/\dI (gK (stays (L.take i))) x.fz1 (i+1) x.aq=true then 19
 else if (L.take i).any (mg x)=true then 6 else 0
def fw(U:List RunT)(L:List aH)(i:Nat):Option Int:=match L[i]? with
 |some x=>if iM U L i x=0 then none else some (iM U L i x)
 |none=>none
def bL(U:List RunT)(L:List aH):Int × Int:=if 1024<L.length then (0,5) else scan (fw U L) L.length 0
theorem lx(l:List aH)(x:aH):stays (l++[x])=if x.stay=true then stays l++[(x.fz1,x.aq)] else stays l:=by
 unfold stays
 rw[List.filter_append]
 cases h:x.stay<;>simp[h]
theorem Fx{l:List (Int × Int)}{a:Int}:nV l a=none↔ ∀p∈l,p.1≠a:=by
 induction l with
 |nil=>simp[nV]
 |cons p l ih=>
  obtain⟨x,b⟩:=p
  simp only[nV]
  by_cases h:a=x
  ·simp[h]
  ·simp only[if_neg h,ih,List.mem_cons,forall_eq_or_imp]
   exact⟨fun k=>⟨fun e=>h e.symm,k⟩,fun k=>k.2⟩
theorem Et(l:List aH)(x:aH):l.any (C1 x)=false↔nV (stays l) x.fz1=none/\x.aq ∉ (stays l).map (·.2):=by
 rw[Fx]
 unfold stays
 simp only[List.any_eq_false,C1,Bool.and_eq_true,Bool.or_eq_true,beq_iff_eq,List.mem_map,List.mem_filter,not_and,not_or,not_exists,forall_exists_index,and_imp]
 constructor
 ·intro h
  exact⟨fun p y h1 h2 h3 e=>(h y h1 h2).1 (by subst h3;exact e),fun p y h1 h2 h3 e=>(h y h1 h2).2 (by subst h3;exact e)⟩
 ·rintro⟨h1,h2⟩ y hy hs
  exact⟨fun e=>h1 _ y hy hs rfl e,fun e=>h2 _ y hy hs rfl e⟩
structure yX(l:List aH):Prop where
 eq:nV (stays l)=gK (stays l)
 dep: ∀f,∃d,vZ (gK (stays l)) f d
 pos: ∀p∈stays l,0<=p.1
theorem HA:yX []:=⟨rfl,fun f=>⟨0, .nil rfl⟩,fun p hp=>by cases hp⟩
theorem yX.neg{l:List aH}(h:yX l):gK (stays l) (-1)=none:=by
 cases hc:gK (stays l) (-1) with
 |none=>rfl
 |some a=>have:=h.pos _ (wC hc);simp at this
theorem EL(l:List aH):(stays l).length<=l.length:=by
 unfold stays;rw[List.length_map];exact List.length_filter_le _ _
theorem yX.leads{l:List aH}(h:yX l){a b:Int}(hb:0<=b){n:Nat}(hn:l.length<=n):dI (gK (stays l)) b (n+1) a=true↔jT (gK (stays l)) b a:=by
 obtain⟨d,hd⟩:=h.dep a
 refine CJ hb h.neg hd _ ?_
 have:=hd.Mt ((stays l).map (·.1)) fun x hx=>LA hx
 rw[List.length_map] at this
 have:=EL l
 omega
theorem yX.snoc{l:List aH}(h:yX l){U:List RunT}{L:List aH}{i:Nat}{x:aH}(hl:l=L.take i)(hi:i<=L.length)(he:iM U L i x=0):yX (l++[x]):=by
 cases hs:x.stay with
 |false=>
  have e:stays (l++[x])=stays l:=by rw[lx,hs];rfl
  exact⟨by rw[e];exact h.eq,by rw[e];exact h.dep,by rw[e];exact h.pos⟩
 |true=>
  have e:stays (l++[x])=stays l++[(x.fz1,x.aq)]:=by rw[lx,hs];rfl
  unfold iM at he
  split at he
  ·cases he
  rename_i c1
  split at he
  ·cases he
  rename_i c2
  split at he
  ·cases he
  split at he
  ·cases he
  split at he
  ·cases he
  rename_i c5
  split at he
  ·cases he
  rename_i c6
  rw[hs] at c5 c6
  have c5:(L.take i).any (C1 x)=false:=by simpa using c5
  rw[←hl] at c5 c6
  obtain⟨h1,h2⟩:=(Et l x).1 c5
  have hn:gK (stays l) x.fz1=none:=by rw[←h.eq];exact h1
  have hlen:l.length<=i:=by rw[hl,List.length_take];omega
  have hnl: ¬jT (gK (stays l)) x.fz1 x.aq:=fun k=>c6 ⟨rfl,(h.leads (by omega) hlen).2 k⟩
  refine⟨?_,?_,?_⟩
  ·rw[e,Fw _ _ _ h1,nF,h.eq]
  ·rw[e,nF]
   exact MQ h.dep hn (by omega) hnl
  ·rw[e]
   intro p hp
   rcases List.mem_append.1 hp with q|q
   ·exact h.pos p q
   ·simp at q;subst q;simp;omega
theorem wB(U:List RunT)(L:List aH): ∀k,k<=L.length->(∀j,j<k->fw U L j=none)->yX (L.take k)
 |0,_,_=>HA
 |k+1,hk,h=>by
  obtain⟨x,hx⟩:=eV (l:=L) (i:=k) (by omega)
  rw[List.take_add_one,hx]
  refine(wB U L k (by omega) fun j hj=>h j (by omega)).snoc (U:=U) rfl (by omega) ?_
  have:=h k (by omega)
  unfold fw at this
  rw[hx] at this
  simpa using this
end Go.Proofs.Nw
namespace Go.Proofs.Nw
open Go Go.AV Tryz Go.jo
set_option maxHeartbeats 4000000
set_option maxRecDepth 100000
def BY(L:List aH)(k:Nat)(f:Int):Int:=(gK (stays (L.take k)) f).getD (-1)
theorem HX{L:List aH}{k:Nat}{y:aH}(hy:L[k]? =some y)(f:Int):BY L (k+1) f=if y.stay=true/\y.fz1=f then y.aq else BY L k f:=by
 unfold BY
 rw[List.take_add_one,hy]
 show(gK (stays (L.take k++[y])) f).getD (-1)=_
 rw[lx]
 cases hs:y.stay with
 |false=>simp
 |true=>
  simp only[if_true,nF,ins]
  by_cases h:f=y.fz1
  ·simp[h]
  ·simp[h,Ne.symm h]
section
variable{z:T aa}{zn:Nat}
theorem Io(hz:ay z zn)(hg:fB prog z gP)(N:aM)(L:List aH)(hl:L.length<100000)(hN:N.nl=L.length)(hL:cf z 0 (L.map aH.row))(hnet: ∀σ:bu,aI (aA σ []) (N.cA N.u0 N.l1)=some (N.cA N.u0 N.l1))(i j:Nat)(hi:i<=L.length)(f tt:Int):
 ai prog (ah (ah (ag f84) 0) 0) 1 48 (rJ i f tt j (-1) 0) [(0,N.cA N.u0 N.l1)] 1 z zn (Al.R (NS z zn N i f tt j (BY L i f) (-1)).l):=by
 refine an hD hg (α:=Nat) 1 48 1 (fun k=>k<=i) (fun k=>rJ i f tt j (BY L k f) k) (fun _=>[(0,N.cA N.u0 N.l1)]) (fun _=>z) (fun _=>zn) (fun k=>i - k) _ (fun k hk=>?_) 0 (Nat.zero_le _)
 by_cases h:k<i
 ·obtain⟨e,he⟩:=hL.aw (i:=k) (by simp;omega)
  obtain⟨y,hy⟩:=eV (l:=L) (i:=k) (by omega)
  have hlen:=aQ (row:=aH.row) (sz:=5) L fun _=>rfl
  have hrow:(L.map aH.row)[k]? =some y.row:=by rw[List.getElem?_map,hy];rfl
  have r4:aE prog (bq e (L.map aH.row).flatten) 4 (0+k*5+4)=some (.bool y.stay):=bc underlying4 rfl hlen hrow rfl
  have r0:aE prog (bq e (L.map aH.row).flatten) 3 (0+k*5+0)=some (zv y.fz1):=bc underlying3 rfl hlen hrow rfl
  have r2:aE prog (bq e (L.map aH.row).flatten) 3 (0+k*5+2)=some (zv y.aq):=bc underlying3 rfl hlen hrow rfl
  have hn:=HX hy f
  have hc:decide ((k:Int)<(i:Int))=true:=by simp;omega
  have jY: ∀m:Int,BY L (k+1) f=m->ak (fun k=>k<=i) (fun k=>rJ i f tt j (BY L k f) k) (fun _=>[(0,N.cA N.u0 N.l1)]) 1 (fun _=>z) (fun _=>zn) (fun k=>i - k) (Al.R (NS z zn N i f tt j (BY L i f) (-1)).l) k .normal (rJ i f tt j m (k+1)) [(0,N.cA N.u0 N.l1)] 1 z zn:=fun m hm=>
   ⟨k+1,by rw[←hm],rfl,rfl,rfl,rfl,(by omega:k+1<=i),by show i - (k+1)<i - k;omega⟩
  refine t100 (ZG z zn i k j N (bq e (L.map aH.row).flatten) y f tt (BY L k f) (ak _ _ _ _ _ _ _ _ _) ⟨fun _=>?_,nC1 hc⟩)
  (repeat' first|(with_reducible first|exact rfl|assumption|apply And.intro|exact(by omega:k<N.nl)|exact bP (by omega))|exact hnet _|intro hq)
  all_goals (refine jY _ ?_;rw[hn];simp_all;done)
 ·have hc:decide ((k:Int)<(i:Int))=false:=by simp;omega
  refine t100 (ZG z zn i k j N ⟨[],0,0,0,true,true,0,true⟩ ⟨0,0,0,0,true⟩ f tt (BY L k f) (ak _ _ _ _ _ _ _ _ _) ⟨nC1 hc,fun _=>?_⟩)
  (repeat' first|(with_reducible first|exact rfl|assumption|apply And.intro)|exact hnet _)
  rw[show k=i by omega]
  exact bD trivial
theorem IG(nx:Int->Option Int)(t:Int): ∀(n:Nat)(f:Int),dI nx t (n+1) f=if (nx f).getD (-1)=t then true else dI nx t n ((nx f).getD (-1)):=fun _ _=>rfl
theorem L6(hz:ay z zn)(hg:fB prog z gP)(N:aM)(L:List aH)(hl:L.length<100000)(hN:N.nl=L.length)(hL:cf z 0 (L.map aH.row))(hnet: ∀σ:bu,aI (aA σ []) (N.cA N.u0 N.l1)=some (N.cA N.u0 N.l1))(i:Nat)(hi:i<=L.length)(f tt:Int)(b:Bool)(hb:b=dI (gK (stays (L.take i))) tt (i+1) f):
 ai prog (ah (ag f84) 0) 1 48 (E9 i f tt 0) [(0,N.cA N.u0 N.l1)] 1 z zn (Al.R (WT z zn N i f tt b).l):=by
 refine an hD hg (α:=Nat × Int) 1 48 1 (fun x=>x.1<=i+1/\b=dI (gK (stays (L.take i))) tt (i+1 - x.1) x.2) (fun x=>E9 i x.2 tt x.1) (fun _=>[(0,N.cA N.u0 N.l1)]) (fun _=>z) (fun _=>zn) (fun x=>i+1 - x.1) _ (fun x hx=>?_) (0,f) ⟨Nat.zero_le _,hb⟩
 obtain⟨j,f⟩:=x
 obtain⟨h1,h2⟩:=hx
 simp only at h1 h2
 by_cases h:j<=i
 ·have hc:decide ((j:Int)<=(i:Int))=true:=by simp;omega
  have hin:=Io hz hg N L hl hN hL hnet i j hi f tt
  rw[show i+1 - j=(i - j)+1 by omega,IG] at h2
  refine t100 (ZH z zn i j N (BY L i f) f tt (ak _ _ _ _ _ _ _ _ _) ⟨fun _=>?_,nC1 hc⟩)
  (repeat' first|(with_reducible first|exact rfl|assumption|apply And.intro|exact bP (by omega))|exact hin|exact hnet _|intro hq)
  all_goals first
   |(refine bD ?_
     have e:BY L i f=tt:=by simp_all
     unfold BY at e
     rw[h2,if_pos e];done)
   |(have e:BY L i f≠tt:=by simp_all
     unfold BY at e
     rw[if_neg e] at h2
     exact⟨(j+1,BY L i f),rfl,rfl,rfl,rfl,rfl,⟨by show j+1<=i+1;omega,by show b=dI _ _ (i+1 - (j+1)) _;rw[h2,show i+1 - (j+1)=i - j by omega];rfl⟩,by show i+1 - (j+1)<i+1 - j;omega⟩)
 ·have hc:decide ((j:Int)<=(i:Int))=false:=by simp;omega
  refine t100 (ZH z zn i j N 0 f tt (ak _ _ _ _ _ _ _ _ _) ⟨nC1 hc,fun _=>?_⟩)
  (repeat' first|(with_reducible first|exact rfl|assumption|apply And.intro))
  refine dD (bD ?_)
  rw[h2,show i+1 - j=0 by omega];rfl
theorem JG(hz:ay z zn)(hg:fB prog z gP)(N:aM)(L:List aH)(hl:L.length<100000)(hN:N.nl=L.length)(hL:cf z 0 (L.map aH.row))(hnet: ∀σ:bu,aI (aA σ []) (N.cA N.u0 N.l1)=some (N.cA N.u0 N.l1))(i:Nat)(hi:i<=L.length)(f tt:Int):
 A1 z zn 84 [.agg ⟨N.eA N.u0 N.l1⟩,iv i,zv f,zv tt] [] 0 0 (.bool (dI (gK (stays (L.take i))) tt (i+1) f)) []:=by
 have h:=L6 hz hg N L hl hN hL hnet i hi f tt _ rfl
 refine cW hg (fn:=f84) (by kernel_rfl) (by kernel_rfl) hz ⟨by decide,by decide⟩ rfl (frl z zn i N f tt (dI (gK (stays (L.take i))) tt (i+1) f) _ ?_)
 (repeat' first|(with_reducible first|exact rfl|assumption|apply And.intro)|exact h|exact hnet _|intro hq)
 all_goals first
  |(have e:dI (gK (stays (L.take i))) tt (i+1) f=true:=by assumption
    rw[e];exact q1)
  |(have e:dI (gK (stays (L.take i))) tt (i+1) f=false:=by assumption
    rw[e];exact q1)
end
end Go.Proofs.Nw
