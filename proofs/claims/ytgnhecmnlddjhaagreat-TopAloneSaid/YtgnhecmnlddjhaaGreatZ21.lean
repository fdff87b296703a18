/- TopAlone, part 22 of 24: a proof squeezed by a program. -/
import Derived.Test.YtgnhecmnlddjhaaGreatZ20
set_option linter.unusedVariables false
set_option linter.unusedSimpArgs false
set_option linter.defProp false
set_option maxRecDepth 100000
set_option maxHeartbeats 6400000
namespace Go.Proofs.YtgnhecmnlddjhaaGreat
open Go.RowKit Go.Proofs.Tryz
variable{K:KS}{T:List oO}{b vs:LN}{d:Tok.Td}{e:oO}{j k q seq t:Nat}{l:List (Option LN)}{r:Rq}{s:Tok.Sl}
section
open Tok (TM)
theorem oV{α:Type}: ∀(l:List α) (k:Nat),Tok.uw l k=l[k]?
 | [],k=>by simp[Tok.uw]
 |a::l,0=>by simp[Tok.uw]
 |a::l,k+1=>by simp[Tok.uw,oV l k]
theorem qD{α:Type}: ∀(l:List α) (k:Nat) (x:α),Tok.vG l k x=l.set k x
 | [],k,x=>by simp[Tok.vG]
 |a::l,0,x=>by simp[Tok.vG]
 |a::l,k+1,x=>by simp[Tok.vG,qD l k]
theorem qH{α:Type}: ∀(n:Nat) (a:α),Tok.tH n a=List.replicate n a
 |0,a=>rfl
 |n+1,a=>by rw[Tok.tH,qH n a,List.replicate_succ]
abbrev mF.at(G:mF)(K:KS):mF:={G with K:=K}
def mF.yX(G:mF)(n:Nat)(o:Tok.Out):List (Int×List Int):=o.map fun p=>(zI n p.1,G.bytes p.2)
structure Gl(G:mF)(b:LN):Prop where
 up:Up G.nD.length b
 two:b.length<=2
 rise:b.Pairwise (· < ·)
structure Vs(n q:Nat)(vs:LN):Prop where
 len:vs.length=q
 rise:vs.Pairwise (· < ·)
 lt: ∀i∈vs,i<n
structure Plc(c:Tok.qM)(k seq:Nat):Prop where
 k:k<=c.f
 one:1<=seq
 most:seq<=16
def Ew(c:Tok.qM)(G:mF):TM->Prop
 | .req t=>1<=t/\t<=G.nD.length
 | .prop src t=>src<c.n/\1<=t/\t<=G.nD.length
 | .pp src k seq b=>src=k/\Plc c k seq/\Gl G b/\b≠ []
 | .uf src k seq b=>src<c.n/\Plc c k seq/\Gl G b
 | .com src k seq b=>src<c.n/\Plc c k seq/\Gl G b
 | .proof src k seq b vs=>src<c.n/\Plc c k seq/\Gl G b/\Vs c.n c.q vs
 | .rep src t=>src<c.n/\1<=t/\t<=G.nD.length
structure vH(c:Tok.qM)(G:mF)(m:TM):Prop where
 form:Ew c G m
 has:G.has m
structure vD(c:Tok.qM):Prop where
 f1:1<=c.f
 f4:c.f<=4
 n:c.n=3*c.f+1
 q:c.q=2*c.f+1
abbrev ct0:List (Int×Int):=List.replicate 2 (0,0)
def mX(G:mF)(k:Nat):Kr:=qL ([],st0,ct0) (G.nD.take k)
structure sS(c:Tok.qM)(G:mF):Prop where
 f:G.f=c.f
 len:G.res.length=G.nD.length
 few:G.nD.length<=100
 rq: ∀t,1<=t->t<=G.nD.length->(G.rq t).1=1/\(G.rq t).2.1=t/\sU G.K 2 (G.rq t)
 ok: ∀t,1<=t->t<=G.nD.length->Yf (mX G (t -1)).2.2 (G.rq t)=true
 rs: ∀t,1<=t->t<=G.nD.length->G.res.getD (t -1) 0=uK (mX G (t -1)) (G.rq t)
 last: ∀k,k<=G.nD.length->lastOf (mX G k).2.2 1=k
 res: ∀z∈G.res,-549755813887<=z/\z<=549755813887
def ZF(G:mF)(k j:Nat)(s:Tok.Sl)(p:uo):Prop:=
 p.has=s.has/\p.b=G.qR s.b/\p.pr=G.zL 4 k (j+1) s.pr 0/\p.co=G.zL 5 k (j+1) s.co 0/\p.told=s.told/\p.done=s.done.map fun q=>G.ce k (j+1) q.1 q.2
structure Ci(c:Tok.qM)(G:mF)(k j:Nat)(s:Tok.Sl):Prop where
 b:Gl G s.b
 prl:s.pr.length=c.n
 col:s.co.length=c.n
 pr: ∀i b,s.pr[i]?=some (some b)->Gl G b/\G.BO 4 i k (j+1) b∈G.K
 co: ∀i b,s.co[i]?=some (some b)->Gl G b/\G.BO 5 i k (j+1) b∈G.K
 done: ∀b v,s.done=some (b,v)->Gl G b/\Vs c.n c.q v/\ ∀i∈v,G.BO 5 i k (j+1) b∈G.K
structure InR(c:Tok.qM)(G:mF)(k:Nat)(ins:List Tok.Sl)(i:Ba):Prop where
 vw:i.vw=0
 on:i.on=true
 l1:ins.length=16
 l2:i.ps.length=16
 at_: ∀j s,ins[j]?=some s-> ∃p,i.ps[j]?=some p/\ZF G k j s p/\Ci c G k j s
structure Li(G:mF)(now:Nat)(d:Tok.Td)(e:oO):Prop where
 r:e.r=G.rq d.t
 t:1<=d.t/\d.t<=G.nD.length
 nX: ∀i,i<13->d.nX[i]?=some (e.nX i)
 l:d.nX.length=13
 ready:e.ready=d.ready
 since:e.since=d.since
 le:d.since<=now
inductive uq{α β:Type}(R:α->β->Prop):List α->List β->Prop
 |nil:uq R [] []
 |cons {a:α} {b:β} {l:List α} {m:List β}:R a b->uq R l m->uq R (a::l) (b::m)
theorem uq.imp{α β:Type}{R S:α->β->Prop}(h: ∀a b,R a b->S a b): ∀{l:List α} {m:List β},uq R l m->uq S l m
 |_,_,.nil=> .nil
 |_,_,.cons k t=> .cons (h _ _ k) (t.imp h)
abbrev agI(m:Nat):List Value:=List.flatten (List.replicate m [U 0,U 0,U 0,U 0,U 0,U 0,U 0,(),(),(),()])
structure tO(c:Tok.qM)(G:mF)(N:Nat)(s:Tok.Nd)(v:ql):Prop where
 now:v.now=s.now
 Ag:s.now<=1000
 il:s.insts.length=c.f+1
 vl:v.is.length=c.f+1
 at_: ∀k ins,s.insts[k]?=some ins-> ∃i,v.is[k]?=some i/\InR c G k ins i
 tab:uq (Li G s.now) s.tab v.T
 Fh:s.tab.length<=8
 ES:s.led<=G.nD.length
 es:v.es=(mX G s.led).1
 st:v.st=(mX G s.led).2.1
 ct:v.ct=(mX G s.led).2.2
 ga:v.ga=s.wT.map fun p=>((p.1:Int),(p.2:Int))
 gal:s.wT.length=c.f+1
 gaB: ∀p∈s.wT,p.1<=1000/\p.2<=100000
 run:v.run=s.run
 BN:s.run<=16
 view:v.view=0
 vk:v.vk≠0
 since:0<=v.since/\v.since<=1000000
 start:v.start=s.start
 JM:s.start<=s.now
 stop:v.stopped=false
 cnt:0<=v.c0/\v.c0<=N/\0<=v.c2/\v.c2<=N
 vZ:v.vZ=agI (c.f+1)
 nN: ∀k,k<=c.f-> ∃l,v.nN[k]?=some l/\l.length=17
 nG: ∀k,k<=c.f-> ∃l,v.nG[k]?=some l/\l.length=17
 QZ:v.nN.length=c.f+1
 Qg:v.nG.length=c.f+1
 V13:v.V.length<=13
 xU: ∃np,v.xU.length=np*5/\np<=64
 Yj: ∀x∈v.xU,x.oneCell'=true
section
variable{c:Tok.qM}{G H:mF}{N:Nat}{s:Tok.Nd}{v:ql}
structure xC(G:mF)(K:KS):Prop where
 ex: ∃l,K=G.K++l
theorem xC.le(h:xC G K)(hl:G.res.length=G.nD.length):G.Le (G.at K):=⟨rfl,⟨[],lT⟩,⟨[],lT⟩,hl,h.ex⟩
theorem xC.refl(G:mF):xC G G.K:=⟨[],lT⟩
theorem xC.trans{K':KS}(h:xC G K)(k:xC (G.at K) K'):xC G K':=by
 obtain⟨a,ha⟩:=h.ex;obtain⟨b,hb⟩:=k.ex;exact⟨a++b,by rw[hb];show K++b=_;rw[ha,bW]⟩
theorem xC.sealed(q:Int×List Int):xC G (sealed G.K q):=⟨CJ _ _⟩
theorem xC.mem(h:xC G K){q:Int×List Int}(hq:q∈G.K):q∈K/\num K q=num G.K q:=by
 obtain⟨l,rfl⟩:=h.ex;exact⟨bL _ hq,VX hq⟩
theorem sU.le{cl:Int}(h:sU G.K cl r)(k:xC G K):sU K cl r:=⟨h.valid,h.ok,h.key,(k.mem h.mem).1,(k.mem h.mem).2.trans h.num,h.small⟩
theorem sS.le(h:sS c G)(k:xC G K):sS c (G.at K):=
 ⟨h.f,h.len,h.few,fun t h1 h2=>⟨(h.rq t h1 h2).1,(h.rq t h1 h2).2.1,(h.rq t h1 h2).2.2.le k⟩,h.ok,h.rs,h.last,h.res⟩
theorem Gl.le(h:Gl G b):Gl (G.at K) b:=⟨h.up,h.two,h.rise⟩
theorem Pb(h:xC G K)(kind:Int)(k seq:Nat): ∀(l:List (Option LN)) (i:Nat),(∀j b,l[j]?=some (some b)->G.BO kind (i+j) k seq b∈G.K)->(G.at K).zL kind k seq l i=G.zL kind k seq l i
 | [],i,_=>rfl
 |none::l,i,hl=>by
  rw[mF.zL,mF.zL,Pb h kind k seq l (i+1) fun j b hj=>by have:=hl (j+1) b (mR hj);rwa [show i+1+j=i+(j+1) by omega]]
 |some b::l,i,hl=>by
  rw[mF.zL,mF.zL,Pb h kind k seq l (i+1) fun j b hj=>by have:=hl (j+1) b (mR hj);rwa [show i+1+j=i+(j+1) by omega]];have:=hl 0 b lT;rw[Nat.add_zero] at this;show some (num K (G.BO kind i k seq b),G.qR b)::_=_;rw[(h.mem this).2]
theorem afn(h:xC G K)(hv: ∀i∈vs,G.BO 5 i k seq b∈G.K):(G.at K).ce k seq b vs=G.ce k seq b vs:=by
 unfold mF.ce
 congr 1
 refine dX fun i hi=> ?_;show((i:Int),num K (G.BO 5 i k seq b))=_;rw[(h.mem (hv i hi)).2];rfl
theorem Ci.le{s:Tok.Sl}(h:Ci c G k j s)(hK:xC G K):Ci c (G.at K) k j s:=
 ⟨h.b.le,h.prl,h.col,fun i b hi=>⟨(h.pr i b hi).1.le,(hK.mem (h.pr i b hi).2).1⟩,fun i b hi=>⟨(h.co i b hi).1.le,(hK.mem (h.co i b hi).2).1⟩,fun b v hd=>⟨(h.done b v hd).1.le,(h.done b v hd).2.1,fun i hi=>(hK.mem ((h.done b v hd).2.2 i hi)).1⟩⟩
theorem ZF.le{s:Tok.Sl}{p:uo}(h:ZF G k j s p)(ho:Ci c G k j s)(hK:xC G K):ZF (G.at K) k j s p:=by
 obtain⟨h1,h2,h3,h4,h5,h6⟩:=h;refine⟨h1,h2,?_,?_,h5,?_⟩
 ·rw[Pb hK 4 k (j+1) s.pr 0 fun i b hi=>by rw[aO];exact(ho.pr i b hi).2];exact h3
 ·rw[Pb hK 5 k (j+1) s.co 0 fun i b hi=>by rw[aO];exact(ho.co i b hi).2];exact h4
 rw[h6]
 cases hd:s.done with
 |none=>rfl
 |some q=>
  obtain⟨b,vs⟩:=q;show some (G.ce k (j+1) b vs)=some ((G.at K).ce k (j+1) b vs);rw[afn hK (ho.done b vs hd).2.2]
theorem InR.le{ins:List Tok.Sl}{i:Ba}(h:InR c G k ins i)(hK:xC G K):InR c (G.at K) k ins i:=
 ⟨h.vw,h.on,h.l1,h.l2,fun j s hj=>by
  obtain⟨p,h1,h2,h3⟩:=h.at_ j s hj;exact⟨p,h1,h2.le h3 hK,h3.le hK⟩⟩
theorem Li.MW{now:Nat}(h:Li G now d e):Li (G.at K) now d e:=⟨h.r,h.t,h.nX,h.l,h.ready,h.since,h.le⟩
theorem tO.le(h:tO c G N s v)(hK:xC G K):tO c (G.at K) N s v:=
 {h with
  at_:=fun k ins hk=>by
   obtain⟨i,h1,h2⟩:=h.at_ k ins hk;exact⟨i,h1,h2.le hK⟩
  tab:=h.tab.imp fun _ _ h=>h.MW
  ES:=h.ES
  es:=h.es
  st:=h.st
  ct:=h.ct}
theorem Ew.le{m:TM}(h:Ew c G m):Ew c (G.at K) m:=by
 cases m with
 |req t=>exact h
 |prop s t=>exact h
 |pp s k q b=>exact⟨h.1,h.2.1,h.2.2.1.le,h.2.2.2⟩
 |uf s k q b=>exact⟨h.1,h.2.1,h.2.2.le⟩
 |com s k q b=>exact⟨h.1,h.2.1,h.2.2.le⟩
 |proof s k q b vs=>exact⟨h.1,h.2.1,h.2.2.1.le,h.2.2.2⟩
 |rep s t=>exact h
theorem Ew.upto{m:TM}(h:Ew c G m):upto G.nD.length m:=by
 cases m with
 |req t=>exact h
 |prop s t=>exact h.2
 |pp s k q b=>exact h.2.2.1.up
 |uf s k q b=>exact h.2.2.up
 |com s k q b=>exact h.2.2.up
 |proof s k q b vs=>exact h.2.2.1.up
 |rep s t=>exact h.2
theorem vH.le{m:TM}(h:vH c G m)(hK:xC G K)(hl:G.res.length=G.nD.length):vH c (G.at K) m/\(G.at K).bytes m=G.bytes m:=
 ⟨⟨h.form.le,(hK.le hl).has h.form.upto h.has⟩,((hK.le hl).bytes h.form.upto h.has).1⟩
end
end
section
open Tok (TM)
structure uF(c:Tok.qM)(G:mF)(N:Nat)(v:ql)(s':Tok.Nd)(o:Tok.Out)(K':KS)(v':ql):Prop where
 le:xC G K'
 nd:tO c (G.at K') N s' v'
 out:v'.out=v.out++(G.at K').yX c.n o
 msg: ∀p∈o,vH c (G.at K') p.2/\p.1<c.n+2
 len:K'.length<=G.K.length+o.length
structure Room(G:mF)(v:ql)(o:Tok.Out):Prop where
 K:G.K.length+o.length<=900000
 out:v.out.length+o.length<=3000
abbrev who(c:Tok.qM)(id:Nat):Who:=⟨c.f,c.n,id⟩
section
variable{c:Tok.qM}{G:mF}{N:Nat}{s s' s1 s2:Tok.Nd}{v v' v1 v2:ql}{o o1 o2:Tok.Out}{K1 K2:KS}{k j seq id:Nat}{ins:List Tok.Sl}{sl sl':Tok.Sl}{i:Ba}{p p':uo}
theorem uF.refl(h:tO c G N s v):uF c G N v s [] G.K v:=⟨xC.refl G,h,by simp[mF.yX],fun p hp=>by simp at hp,lT⟩
theorem uF.then(hG:sS c G)(h:uF c G N v s1 o1 K1 v1)(k:uF c (G.at K1) N v1 s2 o2 K2 v2):uF c G N v s2 (o1++o2) K2 v2:=by
 have e:=fun p hp=>(h.msg p hp).1.le k.le hG.len;refine⟨h.le.trans k.le,k.nd,?_,fun p hp=> ?_,?_⟩
 ·rw[k.out,h.out,bW]
  congr 1
  simp only[mF.yX,bR]
  congr 1
  exact dX fun p hp=>by rw[(e p hp).2]
 ·rcases aQ.1 hp with hp|hp
  ·exact⟨(e p hp).1,(h.msg p hp).2⟩
  exact k.msg p hp
 have:=h.len;have:=k.len;simp only[av] at*;omega
theorem Room.left(h:Room G v (o1++o2)):Room G v o1:=⟨by have:=h.K;simp only[av] at this;omega,by have:=h.out;simp only[av] at this;omega⟩
theorem Room.right(h:Room G v (o1++o2))(k:uF c G N v s1 o1 K1 v1):Room (G.at K1) v1 o2:=by
 have a:=h.K;have b:=h.out;have e:=k.len;simp only[av] at a b;refine⟨by show K1.length+_<=_;omega,?_⟩;rw[k.out,av];simp only[mF.yX,aT];omega
theorem yC(K:KS)(q:Int×List Int):0<=num K q/\num K q<=K.length:=by
 unfold num;split
 ·rename_i h
  have:K.idxOf q<K.length:=jF h;omega
 omega
theorem mF.yZ(hG:sS c G)(hb:Gl G b): ∀r∈G.qR b,sU G.K 2 r:=fun r hr=>by
 obtain⟨t,ht,rfl⟩:=bM.1 hr;exact(hG.rq t (hb.up t ht).1 (hb.up t ht).2).2.2
theorem qJ{z:Int}(h:0<=z)(k:z<=1000000):qh z:=⟨h,lK⟩
theorem ajR(hc:vD c)(hG:sS c G)(hK:G.K.length<=900000)(hp:Plc c k seq)(hb:Gl G b)(hv:Vs c.n c.q vs):Et (G.ce k seq b vs):=by
 have:=hp.k;have:=hp.most;have:=hc.f4;have:=hc.n;have:=hc.q;refine⟨qJ (by show(0:Int)<=0;omega) (by show(0:Int)<=_;omega),qJ (by show(0:Int)<=(k:Int);omega) (by show(k:Int)<=_;omega),qJ (by show(0:Int)<=(seq:Int);omega) (by show(seq:Int)<=_;omega),fun r hr=>(mF.yZ hG hb r hr).ok,fun x hx=> ?_,?_,?_⟩
 ·obtain⟨i,hi,rfl⟩:=bM.1 hx
  have:=hv.lt i hi;have:=yC G.K (G.BO 5 i k seq b);exact⟨qJ (by show(0:Int)<=(i:Int);omega) (by show(i:Int)<=_;omega),qJ this.1 (by show num _ _<=_;omega)⟩
 ·show(b.map _).length<=_
  have:=hb.two;rw[aT];omega
 show(vs.map _).length<=_;have:=hv.len;rw[aT];omega
theorem abP(hG:sS c G)(t:Nat): -549755813887<=G.res.getD t 0/\G.res.getD t 0<=549755813887:=by
 rw[bE]
 cases e:G.res[t]? with
 |none=>exact⟨lN,lN⟩
 |some z=>exact hG.res z (ak e)
theorem acE(hc:vD c)(hG:sS c G){kind:Int}(h0:0<=kind)(h1:kind<=10){src:Nat}(hs:src<c.n)(hp:Plc c k seq)(hb:Gl G b):Ev (G.wL kind src k seq b):=by
 have:=hp.k;have:=hp.most;have:=hc.f4;have:=hc.n;refine⟨qJ h0 (by show kind<=_;omega),qJ (by show(0:Int)<=(src:Int);omega) (by show(src:Int)<=_;omega),qJ (by show(0:Int)<=0;omega) (by show(0:Int)<=_;omega),qJ (by show(0:Int)<=(k:Int);omega) (by show(k:Int)<=_;omega),qJ (by show(0:Int)<=(seq:Int);omega) (by show(seq:Int)<=_;omega),⟨by show(_:Int)<=0;omega,by show(0:Int)<_;omega⟩,fun r hr=>(mF.yZ hG hb r hr).ok,fun x hx=>by simp[mF.wL] at hx,fun x hx=>by simp[mF.wL] at hx,?_,by simp[mF.wL],by simp[mF.wL]⟩;show(b.map _).length<=_;have:=hb.two;rw[aT];omega
theorem MB(hc:vD c)(hG:sS c G)(hK:G.K.length<=900000){m:TM}(hm:Ew c G m):Ev (G.ms m)/\(lX (G.ms m)).length<=65000:=by
 have n4:=hc.f4;have nn:=hc.n;have nq:=hc.q;have few:=hG.few;have z: ∀n:Nat,n<=1000000->qh (n:Int):=fun n hn=>qJ lK lK;have s0:wP 0:=⟨lK,lK⟩
 cases m with
 |req t=>
  refine⟨⟨z 1 lK,z 101 lK,z 0 lK,z 0 lK,z 0 lK,s0,fun r hr=> ?_,fun x hx=>by simp[mF.ms] at hx,fun x hx=>by simp[mF.ms] at hx,by simp[mF.ms],by simp[mF.ms],by simp[mF.ms]⟩,wQ (by simp[mF.ms]) (by simp[mF.ms]) (by simp[mF.ms]) (by simp[mF.ms])⟩;simp only[mF.ms,au] at hr;subst hr;exact(hG.rq t hm.1 hm.2).2.2.ok
 |prop src t=>
  have:=hm.1;refine⟨⟨z 2 lK,z src lK,z 0 lK,z 0 lK,z 0 lK,s0,fun r hr=> ?_,fun x hx=>by simp[mF.ms] at hx,fun x hx=>by simp[mF.ms] at hx,by simp[mF.ms],by simp[mF.ms],by simp[mF.ms]⟩,wQ (by simp[mF.ms]) (by simp[mF.ms]) (by simp[mF.ms]) (by simp[mF.ms])⟩;simp only[mF.ms,au] at hr;subst hr;exact(hG.rq t hm.2.1 hm.2.2).2.2.ok
 |pp src k seq b=>
  obtain⟨rfl,hp,hb,_⟩:=hm;have:=hp.k;have two:=hb.two;exact⟨acE hc hG (kind:=3) lK lK (src:=src) lK hp hb,wQ (by simp[mF.ms,mF.qR];omega) (by simp[mF.ms]) (by simp[mF.ms]) (by simp[mF.ms])⟩
 |uf src k seq b=>
  have two:=hm.2.2.two;exact⟨acE hc hG (kind:=4) lK lK hm.1 hm.2.1 hm.2.2,wQ (by simp[mF.ms,mF.wL,mF.qR];omega) (by simp[mF.ms,mF.wL]) (by simp[mF.ms,mF.wL]) (by simp[mF.ms,mF.wL])⟩
 |com src k seq b=>
  have two:=hm.2.2.two;exact⟨acE hc hG (kind:=5) lK lK hm.1 hm.2.1 hm.2.2,wQ (by simp[mF.ms,mF.wL,mF.qR];omega) (by simp[mF.ms,mF.wL]) (by simp[mF.ms,mF.wL]) (by simp[mF.ms,mF.wL])⟩
 |proof src k seq b vs=>
  obtain⟨hs,hp,hb,hv⟩:=hm;have two:=hb.two;have lv:=hv.len;refine⟨⟨z 9 lK,z src lK,z 0 lK,z 0 lK,z 0 lK,s0,fun r hr=>by simp[mF.ms] at hr,fun x hx=>by simp[mF.ms] at hx,fun x hx=> ?_,by simp[mF.ms],by simp[mF.ms],by simp[mF.ms]⟩,wQ (by simp[mF.ms]) (by simp[mF.ms]) (by simp[mF.ms]) fun x hx=> ?_⟩
  ·simp only[mF.ms,au] at hx
   subst hx;exact ajR hc hG hK hp hb hv
  simp only[mF.ms,au] at hx;subst hx;simp only[mF.ce,mF.qR,aT];omega
 |rep src t=>
  have:=hm.1;have:=hm.2.2;have r:=abP hG (t -1);exact⟨⟨z 10 lK,z src lK,z 0 lK,z 1 lK,z t lK,⟨by show(_:Int)<=G.res.getD (t -1) 0;omega,by show G.res.getD (t -1) 0<_;omega⟩,fun r hr=>by simp[mF.ms] at hr,fun x hx=>by simp[mF.ms] at hx,fun x hx=>by simp[mF.ms] at hx,by simp[mF.ms],by simp[mF.ms],by simp[mF.ms]⟩,wQ (by simp[mF.ms]) (by simp[mF.ms]) (by simp[mF.ms]) (by simp[mF.ms])⟩
theorem CO(n self:Nat)(m:TM): ∀k,Tok.sendAll n self m k=((List.range k).filter fun i=>decide (i≠self)).map fun i=>(i,m)
 |0=>rfl
 |k+1=>by
  have ih:=CO n self m k;show(if Nat.beq k self then Tok.sendAll n self m k else Tok.sendAll n self m k++ [(k,m)])=_;rw[gV,fV,bR,ih];by_cases e:k=self
  ·subst e
   simp
  have:Nat.beq k self=false:=by
   rw[jT];exact fun h=>e (bO h)
  simp[this,e]
def Ie(G:mF):TM->Prop
 | .proof src k seq b vs=> ∀i∈vs,G.BO 5 i k seq b∈G.K
 |_=>True
theorem afF{m:TM}(h:Ie G m)(hK:xC G K):(G.at K).ms m=G.ms m:=by
 cases m with
 |proof src k seq b vs=>
  show Ms.mk _ _ _ _ _ _ _ _ [(G.at K).ce k seq b vs]=Ms.mk _ _ _ _ _ _ _ _ [G.ce k seq b vs];rw[afn hK h]
 |_=>rfl
theorem agV{m:TM}(h:Ie G m)(hK:xC G K)(hm:G.key m∈K):(G.at K).has m:=by
 have e:(G.at K).key m=G.key m:=by unfold mF.key;rw[afF h hK]
 have hm:(G.at K).key m∈(G.at K).K:=by rw[e];exact hm
 cases m with
 |proof src k seq b vs=>exact⟨hm,fun i hi=>(hK.mem (h i hi)).1⟩
 |_=>exact hm
theorem ze(K:KS)(q:Int×List Int):(sealed K q).length<=K.length+1:=by
 unfold sealed;split<;>simp
theorem V9(hc:vD c)(hG:sS c G)(h:tO c G N s v){m:TM}(hm:Ew c G m)(hi:Ie G m)(l:LN)(hl: ∀d∈l,d<c.n+2)(h0:l≠ [])(v':ql)(hv:v'={v with out:=v.out++(G.at (sealed G.K (G.key m))).yX c.n (l.map fun d=>(d,m))}):
  uF c G N v s (l.map fun d=>(d,m)) (sealed G.K (G.key m)) v':=by
 have hK:xC G (sealed G.K (G.key m)):=xC.sealed _;subst hv;refine⟨hK,?_,rfl,fun p hp=> ?_,?_⟩
 ·have:=h.le hK
  exact{this with}
 ·obtain⟨d,hd,rfl⟩:=bM.1 hp
  exact⟨⟨hm.le,agV hi hK (zf _ _)⟩,hl d hd⟩
 have:=ze G.K (G.key m);have:1<=l.length:=by cases l with
  |nil=>exact absurd rfl h0
  |cons=>simp
 rw[aT];omega
theorem aes{m:TM}{l:LN}{bs:LI}(hl: ∀d∈l,d<c.n)(hb:(G.at K).bytes m=bs):(G.at K).yX c.n (l.map fun d=>(d,m))=l.map fun d:Nat=>((d:Int),bs):=by
 unfold mF.yX;rw[gu];refine dX fun d hd=> ?_;show(zI c.n d,(G.at K).bytes m)=_;rw[hb,zI,aV (hl d hd)]
theorem ab5(E:Who)(m:Ms)(S:KN):yI E m S=(fun M:Ms=>(must (Lh S.1 S.2 M)).map fun _=>((sealed S.1 (M.sender,lX M),{S.2 with out:=S.2.out++(others E.n E.id).map fun k:Nat=>((k:Int),FY (sealed S.1 (M.sender,lX M)) M)}),num (sealed S.1 (M.sender,lX M)) (M.sender,lX M))) {m with sender:=(E.id:Int)}:=rfl
theorem Ed(hc:vD c)(hG:sS c G)(h:tO c G N s v)(hid:id<c.n)(M:Ms)(m:TM)(hM:({M with sender:=(id:Int)}:Ms)=G.ms m)(hm:Ew c G m)(hi:Ie G m)(hr:Room G v (Tok.sendAll c.n id m c.n)):
  ∃v',yI (who c id) M (G.K,v)=some ((sealed G.K (G.key m),v'),num (sealed G.K (G.key m)) (G.key m))/\(∃O0,v'={v with out:=O0})/\uF c G N v s (Tok.sendAll c.n id m c.n) (sealed G.K (G.key m)) v':=by
 have hn:=hc.n;have hf:=hc.f1;have e:=CO c.n id m c.n;have hlt: ∀d∈others c.n id,d<c.n:=fun d hd=>by
  unfold others at hd;exact fE.1 (kI.1 hd).1
 have hne:others c.n id≠ []:=fun e=>by
  have h0:(if id=0 then 1 else 0)∈others c.n id:=by
   unfold others;refine kI.2 ⟨fE.2 ?_,aZ ?_⟩<;>split<;>omega
  rw[e] at h0;simp at h0
 have hpos:1<=(others c.n id).length:=by
  cases e:others c.n id with
  |nil=>exact absurd e hne
  |cons=>simp
 have hr1:=hr.K;have hr2:=hr.out;rw[e,aT] at hr1 hr2;change G.K.length+(others c.n id).length<=_ at hr1;change v.out.length+(others c.n id).length<=_ at hr2;have ok:=MB hc hG lK hm;have hkey:({M with sender:=((who c id).id:Int)}:Ms)=G.ms m:=hM;have hb:(G.at (sealed G.K (G.key m))).bytes m=FY (sealed G.K (G.key m)) (G.ms m):=by
  unfold mF.bytes mF.key;rw[afF hi (xC.sealed _)];rfl
 refine⟨{v with out:=v.out++(G.at (sealed G.K (G.key m))).yX c.n ((others c.n id).map fun d=>(d,m))},?_,⟨_,rfl⟩,?_⟩
 ·rw[ab5,hkey,aes hlt hb]
  show(must (Lh G.K v (G.ms m))).map _=_;rw[nQ (⟨ok.1,ok.2,by show G.K.length<_;omega,by show v.out.length<=_;omega⟩:Lh G.K v (G.ms m))];rfl
 rw[e];exact V9 hc hG h hm hi _ (fun d hd=>by have:=hlt d hd;omega) hne _ rfl
theorem Cq(h:Tok.tV s k seq=some sl): ∃j ins,seq=j+1/\s.insts[k]?=some ins/\ins[j]?=some sl:=by
 unfold Tok.tV at h
 cases seq with
 |zero=>cases h
 |succ j=>
  simp only[oV] at h
  cases e:s.insts[k]? with
  |none=>rw[e] at h;cases h
  |some ins=>rw[e] at h;exact⟨j,ins,rfl,rfl,h⟩
theorem JH(hk:s.insts[k]?=some ins):Tok.su s k (j+1) sl'={s with insts:=s.insts.set k (ins.set j sl')}:=by
 unfold Tok.su;simp only[oV,qD,hk,fF]
theorem zW(h:tO c G N s v)(hk:s.insts[k]?=some ins)(hj:ins[j]?=some sl): ∃i p,v.pl k j=some (i,p)/\i.on=true/\i.vw=0/\ZF G k j sl p/\Ci c G k j sl/\j<16/\k<=c.f:=by
 obtain⟨i,hi,hI⟩:=h.at_ k ins hk;obtain⟨p,hp,h1,h2⟩:=hI.at_ j sl hj;refine⟨i,p,?_,hI.on,hI.vw,h1,h2,?_,?_⟩
 ·simp[ql.pl,hi,hp]
 ·have:=(ah.1 hj).1
  rw[hI.l1] at this;exact this
 have:=(ah.1 hk).1;rw[h.il] at this;omega
theorem ahG(v:ql)(k j:Nat)(p:uo)(q:Nat):(v.put k j p).is[q]?=v.is[q]?.map fun i=>if k=q then{i with ps:=i.ps.set j p} else i:=by
 show(v.is.modify k _)[q]?=_;rw[eY]
 cases v.is[q]? with
 |none=>rfl
 |some a=>by_cases e:k=q<;>simp[e]
theorem Bq(h:tO c G N s v)(hk:s.insts[k]?=some ins)(hj:ins[j]?=some sl)(h1:ZF G k j sl' p')(h2:Ci c G k j sl'):tO c G N (Tok.su s k (j+1) sl') (v.put k j p'):=by
 rw[JH hk];have hkl:=(ah.1 hk).1;have hjl:=(ah.1 hj).1;exact{h with
  il:=by show(s.insts.set k _).length=_;rw[bG];exact h.il
  vl:=by show(v.is.modify k _).length=_;rw[iV];exact h.vl
  at_:=fun q ins' hq=>by
   replace hq:(s.insts.set k (ins.set j sl'))[q]?=some ins':=hq;rw[ahG];by_cases e:k=q
   ·subst e
    rw[aL hkl] at hq;injection hq with hq;subst hq;obtain⟨i,hi,hI⟩:=h.at_ k ins hk;refine⟨{i with ps:=i.ps.set j p'},by simp[hi],hI.vw,hI.on,by rw[bG];exact hI.l1,by show(i.ps.set j p').length=16;rw[bG];exact hI.l2,fun r sr hr=> ?_⟩;show∃p,(i.ps.set j p')[r]?=some p/\_;by_cases e:j=r
    ·subst e
     rw[aL hjl] at hr;injection hr with hr;subst hr;exact⟨p',by rw[aL];rw[hI.l2,<-hI.l1];exact hjl,h1,h2⟩
    rw[aX e] at hr|-;exact hI.at_ r sr hr
   rw[aX e] at hq;obtain⟨i,hi,hI⟩:=h.at_ q ins' hq;exact⟨i,by simp[hi,e],hI⟩}
end
end
section
open Tok (TM)
section
variable{c:Tok.qM}{G:mF}{N:Nat}{s s' s1 s2:Tok.Nd}{v v' v1 v2:ql}{o o1 o2:Tok.Out}{K1 K2:KS}{k j seq id:Nat}{ins:List Tok.Sl}{sl sl':Tok.Sl}{i:Ba}{p p':uo}
theorem Sb (hc:vD c) (hG:sS c G) (h:tO c G N s v) (hid:id<c.n) (kind:Int) (m:TM) (b:LN) (hm:m=(if kind=4 then TM.uf id k (j+1) b else TM.com id k (j+1) b)) (ag6:kind=4\/kind=5) (hb:Gl G b)
  (hk:s.insts[k]?=some ins) (hj:ins[j]?=some sl) (hr:Room G v (Tok.sendAll c.n id m c.n)) (hn:if kind=4 then sl.pr[id]?=some none else sl.co[id]?=some none)
  (hsl:sl'=if kind=4 then{sl with pr:=sl.pr.set id (some b)} else{sl with co:=sl.co.set id (some b)}):
  ∃K' v',vL (who c id) kind k j (G.qR b) (G.K,v)=some (K',v')/\uF c G N v (Tok.su s k (j+1) sl') (Tok.sendAll c.n id m c.n) K' v':=by
 obtain⟨i,p,hp,hon,hvw,h1,h2,xM,Qv⟩:=zW h hk hj;have hpl:Plc c k (j+1):=⟨Qv,lK,lK⟩;have hM:({(⟨kind,0,v.view,k,j+1,0,G.qR b,[],[]⟩:Ms) with sender:=(id:Int)}:Ms)=G.ms m:=by
  rw[hm,h.view];rcases ag6 with rfl|rfl
  ·rw[aV rfl]
   rfl
  rw[aU lN];rfl
 have hf:Ew c G m:=by
  rw[hm];split
  ·exact⟨hid,hpl,hb⟩
  exact⟨hid,hpl,hb⟩
 have hi:Ie G m:=by
  rw[hm];split<;>trivial
 have hkey:G.key m=G.BO kind id k (j+1) b:=by
  unfold mF.key;rw[hm];rcases ag6 with rfl|rfl
  ·rw[aV rfl]
   rfl
  rw[aU lN];rfl
 obtain⟨v1,hs,⟨O0,hO⟩,S⟩:=Ed hc hG h hid _ m hM hf hi hr;have hp1:v1.pl k j=some (i,p):=by rw[hO];exact hp
 have hKL:xC G (sealed G.K (G.key m)):=S.le;have h1':=h1.le h2 hKL;have h2':=h2.le hKL;have b2:=hb.two;have bl:(G.qR b).length<=4096:=by unfold mF.qR;rw[aT];omega
 have xP:id<13:=by have:=hc.n;have:=hc.f4;omega
 have fin: ∀p':uo,ZF (G.at (sealed G.K (G.key m))) k j sl' p'->Ci c (G.at (sealed G.K (G.key m))) k j sl'->uF c G N v (Tok.su s k (j+1) sl') (Tok.sendAll c.n id m c.n) (sealed G.K (G.key m)) (v1.put k j p'):=fun p' e1 e2=>
  ⟨S.le,Bq S.nd hk hj e1 e2,S.out,S.msg,S.len⟩
 have hmem:(G.at (sealed G.K (G.key m))).BO kind id k (j+1) b∈(G.at (sealed G.K (G.key m))).K:=by
  show G.BO kind id k (j+1) b∈sealed G.K (G.key m);rw[hkey];exact zf _ _
 unfold vL;rw[show(⟨kind,0,((G.K,v):KN).2.view,(k:Int),(j:Int)+1,0,G.qR b,[],[]⟩:Ms)=⟨kind,0,v.view,k,(j:Int)+1,0,G.qR b,[],[]⟩ from rfl,hs];simp only[Option.bind_some];rw[hp1];simp only[Option.bind_some];rcases ag6 with rfl|rfl
 ·rw[aV rfl] at hn hsl|-
  have hpr:p.pr[id]?=some none:=by
   rw[h1.2.2.1];have:=El G 4 k (j+1) sl.pr 0 id none (by rw[oV];exact hn);simpa using this
  have aaH:id<sl.pr.length:=(ah.1 hn).1;rw[nQ ⟨hon,hpr,bl⟩];refine⟨_,_,rfl,?_⟩;rw[hsl];rw[hsl] at fin;refine fin _ ⟨h1'.1,h1'.2.1,?_,h1'.2.2.2.1,h1'.2.2.2.2.1,h1'.2.2.2.2.2⟩ ⟨h2'.b,by show(sl.pr.set id _).length=_;rw[bG];exact h2'.prl,h2'.col,fun a bb ha=> ?_,h2'.co,h2'.done⟩
  ·show p.pr.set id _=_
   have:=En (G.at (sealed G.K (G.key m))) 4 k (j+1) b sl.pr 0 id aaH;rw[qD,aO] at this;rw[this,<-h1'.2.2.1,hkey];rfl
  replace ha:(sl.pr.set id (some b))[a]?=some (some bb):=ha;by_cases e:id=a
  ·subst e
   rw[aL aaH] at ha;injection ha with ha;injection ha with ha;rw[<-ha];exact⟨hb.le,hmem⟩
  rw[aX e] at ha;exact h2'.pr a bb ha
 rw[aU lN] at hn hsl|-;have hpr:p.co[id]?=some none:=by
  rw[h1.2.2.2.1];have:=El G 5 k (j+1) sl.co 0 id none (by rw[oV];exact hn);simpa using this
 have aaH:id<sl.co.length:=(ah.1 hn).1;rw[nQ ⟨rfl,hon,hpr,bl⟩];refine⟨_,_,rfl,?_⟩;rw[hsl];rw[hsl] at fin;refine fin _ ⟨h1'.1,h1'.2.1,h1'.2.2.1,?_,h1'.2.2.2.2.1,h1'.2.2.2.2.2⟩ ⟨h2'.b,h2'.prl,by show(sl.co.set id _).length=_;rw[bG];exact h2'.col,h2'.pr,fun a bb ha=> ?_,h2'.done⟩
 ·show p.co.set id _=_
  have:=En (G.at (sealed G.K (G.key m))) 5 k (j+1) b sl.co 0 id aaH;rw[qD,aO] at this;rw[this,<-h1'.2.2.2.1,hkey];rfl
 replace ha:(sl.co.set id (some b))[a]?=some (some bb):=ha;by_cases e:id=a
 ·subst e
  rw[aL aaH] at ha;injection ha with ha;injection ha with ha;rw[<-ha];exact⟨hb.le,hmem⟩
 rw[aX e] at ha;exact h2'.co a bb ha
theorem sS.inj(hG:sS c G):G.Inj:=fun a b h1 h2 h3 h4 e=>by
 have:=(hG.rq a h1 h2).2.1;rw[e,(hG.rq b h3 h4).2.1] at this;omega
theorem Ci.upv(h:Ci c G k j sl):UpV G.nD.length sl.pr/\UpV G.nD.length sl.co:=by
 refine⟨fun b hb=> ?_,fun b hb=> ?_⟩
 ·obtain⟨i,hi⟩:=bT.1 hb
  exact(h.pr i b hi).1.up
 obtain⟨i,hi⟩:=bT.1 hb;exact(h.co i b hi).1.up
theorem Ro(hk:s.insts[k]?=some ins)(hj:ins[j]?=some sl)(x y:Tok.Sl):Tok.su (Tok.su s k (j+1) x) k (j+1) y=Tok.su s k (j+1) y:=by
 have hkl:=(ah.1 hk).1;rw[JH hk,JH (ins:=ins.set j x) (by rw[aL hkl]),JH hk];simp
end
end
section
open Tok (TM)
section
variable{c:Tok.qM}{G:mF}{N:Nat}{s s' s1 s2:Tok.Nd}{v v' v1 v2:ql}{o o1 o2:Tok.Out}{K1 K2:KS}{k j seq id now:Nat}{ins:List Tok.Sl}{sl sl':Tok.Sl}{i:Ba}{p p':uo}
theorem uq.len{α β:Type}{R:α->β->Prop}: ∀{l:List α} {m:List β},uq R l m->l.length=m.length
 |_,_,.nil=>rfl
 |_,_,.cons _ t=>by simp[t.len]
theorem uq.filter{α β:Type}{R:α->β->Prop}{f:α->Bool}{g:β->Bool}(hfg: ∀a b,R a b->f a=g b): ∀{l:List α} {m:List β},uq R l m->uq R (l.filter f) (m.filter g)
 |_,_,.nil=> .nil
 |_,_,.cons (a:=a) (b:=b) h t=>by
  have ih:=t.filter hfg;rw[kg,kg,hfg a b h];split
  ·exact .cons h ih
  exact ih
theorem ED(hG:sS c G)(h1:1<=t)(h2:t<=G.nD.length): ∀{tab:List Tok.Td} {T:List oO} (k0:Nat),uq (Li G now) tab T->
  (Tok.Pn tab t=some none->Xp (G.rq t) T k0=some (k0+T.length,false))/\(∀d,Tok.Pn tab t=some (some d)-> ∃i e,Xp (G.rq t) T k0=some (k0+i,true)/\tab[i]?=some d/\T[i]?=some e/\Li G now d e/\d.t=t)
 |_,_,k0,.nil=>⟨fun _=>rfl,fun d h=>by simp[Tok.Pn] at h⟩
 |_,_,k0,.cons (a:=a) (b:=b) (l:=l) (m:=m) hd tl=>by
  have ih:=ED hG h1 h2 (k0+1) tl;have ra:=hG.rq a.t hd.t.1 hd.t.2;have rt:=hG.rq t h1 h2;have e0:Tok.Pn (a::l) t=if Nat.beq a.t t then some (some a) else if Nat.blt a.t t then Tok.Pn l t else none:=rfl;rw[e0,Xp,hd.r];by_cases e:a.t=t
  ·subst e
   rw[aV (gB a.t),aV rfl];refine⟨fun h=>(by cases h),fun d h=> ?_⟩;injection h with h;injection h with h;subst h;exact⟨0,b,rfl,rfl,rfl,hd,rfl⟩
  have nb: ¬Nat.beq a.t t=true:=fun h=>e (bO h);have ne: ¬G.rq a.t=G.rq t:=fun h=>e (hG.inj _ _ hd.t.1 hd.t.2 h1 h2 h);rw[aU nb,aU ne];by_cases lt:a.t<t
  ·have:Nat.blt a.t t=true:=by simpa[iA] using lt
   rw[aV this,aV (EJ (by rw[ra.1,rt.1]) (by rw[ra.2.1,rt.2.1];omega))];refine⟨fun h=>by rw[ih.1 h,List.length_cons];congr 2;omega,fun d h=> ?_⟩;obtain⟨i,e,h1,h2,h3,h4,h5⟩:=ih.2 d h;exact⟨i+1,e,by rw[h1];congr 2;omega,h2,h3,h4,h5⟩
  have: ¬Nat.blt a.t t=true:=by simpa[iA] using lt
  rw[aU this];exact⟨fun h=>(by cases h),fun d h=>(by cases h)⟩
theorem aaz(g:List (Nat×Nat))(k a b:Nat):(g.set k (a,b)).map (fun p=>((p.1:Int),(p.2:Int)))=(g.map fun p=>((p.1:Int),(p.2:Int))).set k ((a:Int),(b:Int)):=by
 rw[eT]
theorem Mc(hc:vD c)(hG:sS c G){tab:List Tok.Td}(hT:uq (Li G now) tab T)(Oc:now<=1000)(hk:k<=c.f): ∀(b:LN) (g g':List (Nat×Nat)),Up G.nD.length b->g.length=c.f+1->(∀p∈g,p.1<=1000/\p.2<=100000)->Tok.yR tab now k b g=some g'->
  wu k now T (G.qR b) (g.map fun p=>((p.1:Int),(p.2:Int)))=some (g'.map fun p=>((p.1:Int),(p.2:Int)))/\g'.length=c.f+1/\ ∀p∈g',p.1<=1000/\p.2<=100000
 | [],g,g',_,hl,hb,h=>by
  simp only[Tok.yR,aD] at h;subst h;exact⟨rfl,hl,hb⟩
 |t::b,g,g',hu,hl,hb,h=>by
  have ht:=hu t lT;have A:=ED hG ht.1 ht.2 0 hT;have ih:=fun g1=>Mc hc hG hT Oc hk b g1 g' (fun x hx=>hu x (by simp[hx]));rw[Tok.yR] at h;show wu k now T (G.rq t::G.qR b) _=_/\_;rw[wu];unfold AA
  cases ha:Tok.Pn tab t with
  |none=>rw[ha] at h;cases h
  |some od=>
   cases od with
   |none=>
    rw[ha] at h;rw[A.1 ha];exact ih g hl hb h
   |some d=>
    rw[ha] at h;obtain⟨i,e,e1,e2,e3,e4,e5⟩:=A.2 d ha;rw[e1];simp only[Option.map_some,aO,fH,e3,e4.ready,Option.bind_some] at h|-;by_cases hr:d.ready=true
    ·rw[aV hr] at h
     rw[aV hr]
     cases hg:Tok.agD g k (now -d.since) with
     |none=>rw[hg] at h;cases h
     |some g1=>
      rw[hg] at h;replace h:Tok.yR tab now k b g1=some g':=h;unfold Tok.agD at hg;rw[oV] at hg
      cases hq:g[k]? with
      |none=>rw[hq] at hg;cases hg
      |some q=>
       obtain⟨a,z⟩:=q;rw[hq] at hg;simp only at hg;split at hg
       ·rename_i hcond
        simp only[bX,Nat.ble_eq] at hcond;injection hg with hg;rw[qD] at hg;subst hg;have hle:=e4.le;have kl:k<g.length:=by rw[hl];omega
        have hcast:(now:Int) -e.since=((now -d.since:Nat):Int):=by rw[e4.since];omega
        simp only[];rw[show must (qX ((now:Int) -e.since)/\Roomy (g.map fun p=>((p.1:Int),(p.2:Int)))/\(g.map fun p=>((p.1:Int),(p.2:Int))).length<=5/\qX (k:Int))=some () from nQ ⟨by rw[hcast];exact⟨lK,lK⟩,fun z hz=>by
         obtain⟨q,hq,rfl⟩:=bM.1 hz;have:=hb q hq;exact⟨by show(0:Int)<=q.1;omega,by show(q.1:Int)<=_;omega,by show(0:Int)<=q.2;omega,by show(q.2:Int)<=_;omega⟩,by rw[aT,hl];have:=hc.f4;omega,⟨lK,by have:=hc.f4;omega⟩⟩]
        simp only[Option.bind_some];have hadd:C8 (g.map fun p=>((p.1:Int),(p.2:Int))) k ((now:Int) -e.since)=(g.set k (a+1,z+(now -d.since))).map fun p=>((p.1:Int),(p.2:Int)):=by
         have hb1:PU (g.map fun p=>((p.1:Int),(p.2:Int))) k ((now:Int) -e.since)=true:=by
          unfold PU VU;rw[aT,hcast];simp only[bX,dQ];omega
         unfold C8;rw[aV hb1,Int.toNat_natCast,aaz,bE,aS,hq,hcast];simp
        rw[hadd];refine ih _ (by rw[bG];exact hl) (fun q hq=> ?_) h;rcases cB hq with hq|rfl
        ·exact hb q hq
        exact⟨hcond.1,hcond.2⟩
       cases hg
    rw[aU hr] at h;rw[aU hr];exact ih g hl hb h
theorem Dv(hG:sS c G)(h1:1<=t)(h2:t<=G.nD.length):mX G t=((mX G (t -1)).1++ [(G.rq t,G.res.getD (t -1) 0)],yD (mX G (t -1)).2.1 (G.rq t).2.2.1 (G.rq t).2.2.2.1 (G.rq t).2.2.2.2.1,Aw (mX G (t -1)).2.2 (G.rq t).1 (G.rq t).2.1 (G.res.getD (t -1) 0)):=by
 have hl:t -1<G.nD.length:=lK;have e:G.nD.take t=G.nD.take (t -1)++ [G.rq t]:=by
  rw[show t=(t -1)+1 by omega,fM,aj hl];unfold mF.rq;rw[bE];simp[aj hl]
 have h:mX G t=qg (mX G (t -1)) (G.rq t):=by
  unfold mX qL;rw[e,jR];rfl
 rw[h,qg,aV (hG.ok t h1 h2),hG.rs t h1 h2]
theorem VO(hG:sS c G): ∀k,k<=G.nD.length->(mX G k).1.length=k
 |0,_=>rfl
 |k+1,h=>by
  rw[Dv hG lK h];simp[VO hG k lK]
theorem yH: ∀(rs:List Rq) (l:List CY) (st:List (Bool×Int)) (ct:List (Int×Int)),qL (l,st,ct) rs=(l++(qL ([],st,ct) rs).1,(qL ([],st,ct) rs).2)
 | [],l,st,ct=>by simp[qL]
 |r::rs,l,st,ct=>by
  show qL (qg (l,st,ct) r) rs=(l++(qL (qg ([],st,ct) r) rs).1,(qL (qg ([],st,ct) r) rs).2);unfold qg;by_cases hk:Yf ct r=true
  ·rw[aV (show Yf ((l,st,ct):Kr).2.2 r=true from hk),aV (show Yf (([],st,ct):Kr).2.2 r=true from hk)]
   have e:uK (l,st,ct) r=uK ([],st,ct) r:=rfl;rw[yH rs (l++ [(r,uK (l,st,ct) r)]),yH rs (([]:List CY)++ [(r,uK ([],st,ct) r)]),e];simp
  rw[aU (show ¬Yf ((l,st,ct):Kr).2.2 r=true from hk),aU (show ¬Yf (([],st,ct):Kr).2.2 r=true from hk)];exact yH rs l st ct
theorem Wx(hG:sS c G): ∀(b:LN) (s s':Tok.Nd) (o:Tok.Out),Up G.nD.length b->Tok.BN c id s b=some (s',o)->qL (mX G s.led) (G.qR b)=mX G s'.led/\(qL ([],(mX G s.led).2) (G.qR b)).1=b.map (fun t=>(G.rq t,G.res.getD (t -1) 0))/\(s.led<=G.nD.length->s'.led<=G.nD.length)
 | [],s,s',o,_,h=>by
  simp only[Tok.BN,aD,aM] at h;rw[<-h.1];exact⟨rfl,rfl,fun h=>h⟩
 |t::b,s,s',o,hu,h=>by
  have ht:=hu t lT;rw[Tok.BN] at h;split at h
  ·rename_i hb
   have hb:=bO hb
   cases hr:Tok.BN c id {s with led:=t,tab:=Tok.LJ s.tab t} b with
   |none=>rw[hr] at h;cases h
   |some q=>
    obtain⟨s1,o1⟩:=q;rw[hr] at h;simp only[aD,aM] at h;obtain⟨rfl,_⟩:=h;obtain⟨i1,i2,i3⟩:=Wx hG b _ _ _ (fun x hx=>hu x (by simp[hx])) hr;have e:=Dv hG ht.1 ht.2;have el:t -1=s.led:=lK;rw[el] at e;have e2:qg (mX G s.led) (G.rq t)=mX G t:=by
     have ok:=hG.ok t ht.1 ht.2;have rs:=hG.rs t ht.1 ht.2;rw[el] at ok rs;rw[qg,aV ok,<-rs,e]
    refine⟨?_,?_,fun _=>i3 ht.2⟩
    ·show qL (qg (mX G s.led) (G.rq t)) (G.qR b)=_
     rw[e2];exact i1
    show(qL (qg ([],(mX G s.led).2) (G.rq t)) (G.qR b)).1=_;have ok:=hG.ok t ht.1 ht.2;have rs:=hG.rs t ht.1 ht.2;rw[el] at ok rs;have e3:qg ([],(mX G s.led).2) (G.rq t)=([(G.rq t,G.res.getD (t -1) 0)],(mX G t).2):=by
     rw[qg,aV ok,e,el,rs];rfl
    rw[e3,yH,i2];rfl
  cases h
end
end
section
open Tok (TM)
section
variable{c:Tok.qM}{G:mF}{N:Nat}{s s' s1 s2:Tok.Nd}{v v' v1 v2:ql}{o o1 o2:Tok.Out}{K1 K2:KS}{k j seq id now:Nat}{ins:List Tok.Sl}{sl sl':Tok.Sl}{i:Ba}{p p':uo}
abbrev ql.books(v:ql)(es:List CY)(st:List (Bool×Int))(ct:List (Int×Int)):ql:={v with es:=es,st:=st,ct:=ct}
theorem Yt(hc:vD c)(hG:sS c G)(h:tO c G N s v)(hid:id<c.n)(h1:1<=t)(h2:t<=G.nD.length)(es:List CY)(st:List (Bool×Int))(ct:List (Int×Int))(hr:Room G v [(c.n+1,TM.rep id t)]):
  ∃v',Cz (who c id) (G.rq t).1 (G.rq t).2.1 (G.res.getD (t -1) 0) (G.K,v.books es st ct)=some (sealed G.K (G.key (.rep id t)),v'.books es st ct)/\(∃O0,v'={v with out:=O0})/\uF c G N v s [(c.n+1,TM.rep id t)] (sealed G.K (G.key (.rep id t))) v':=by
 have hm:Ew c G (.rep id t):=⟨hid,h1,h2⟩;have S:uF c G N v s [(c.n+1,TM.rep id t)] (sealed G.K (G.key (.rep id t))) {v with out:=v.out++(G.at (sealed G.K (G.key (.rep id t)))).yX c.n [(c.n+1,TM.rep id t)]}:=V9 hc hG h hm trivial [c.n+1] (fun d hd=>by simp at hd;omega) lT _ rfl;have hk:=hr.K;have ho:=hr.out;simp only[List.length_singleton] at hk ho;have ok:=MB hc hG lK hm;have rt:=hG.rq t h1 h2;have e:(⟨10,((who c id).id:Int),0,(G.rq t).1,(G.rq t).2.1,G.res.getD (t -1) 0,[],[],[]⟩:Ms)=G.ms (.rep id t):=by
  rw[rt.1,rt.2.1];rfl
 have hO:(G.at (sealed G.K (G.key (.rep id t)))).yX c.n [(c.n+1,TM.rep id t)]= [(100+(G.rq t).1,FY (sealed G.K ((G.ms (.rep id t)).sender,lX (G.ms (.rep id t)))) (G.ms (.rep id t)))]:=by
  show [(zI c.n (c.n+1),(G.at (sealed G.K (G.key (.rep id t)))).bytes (.rep id t))]=_;rw[rt.1,zI,aU lK,show 100+(((c.n+1:Nat):Int) -(c.n:Int))=100+1 by omega];rfl
 refine⟨_,?_,⟨_,rfl⟩,S⟩;unfold Cz;simp only[e];rw[nQ ⟨(⟨ok.1,ok.2,by show G.K.length<_;omega,by show v.out.length<=_;omega⟩:Lh G.K (v.books es st ct) (G.ms (.rep id t))),by rw[rt.1];omega,by rw[rt.1];omega⟩,hO];rfl
theorem aaj(hG:sS c G){tab:List Tok.Td}(hT:uq (Li G now) tab T)(h1:1<=t)(h2:t<=G.nD.length):uq (Li G now) (Tok.LJ tab t) (LH T (G.rq t).1 (G.rq t).2.1):=by
 have rt:=hG.rq t h1 h2;refine hT.filter fun a b h=> ?_;have ra:=hG.rq a.t h.t.1 h.t.2;rw[h.r,ra.1,rt.1,ra.2.1,rt.2.1];by_cases e:a.t<=t
 ·have:Nat.ble a.t t=true:=by simpa[Nat.ble_eq] using e
  rw[this];simp;omega
 have:Nat.ble a.t t=false:=by simpa[Nat.ble_eq,jT] using e
 rw[this];simp;omega
theorem Tp{α:Type}(f:α->Bool)(l:List α):(l.filter f).length<=l.length:=fB _ _
theorem FU(hc:vD c)(es:List CY)(st:List (Bool×Int))(ct:List (Int×Int))(hid:id<c.n): ∀(b:LN) (G:mF) (s s':Tok.Nd) (v:ql) (o:Tok.Out),sS c G->Up G.nD.length b->tO c G N s v->Tok.BN c id s b=some (s',o)->Room G v o->
  ∃K' v',rG (who c id) (b.map fun t=>(G.rq t,G.res.getD (t -1) 0)) (G.K,v.books es st ct)=some (K',v'.books es st ct)/\uF c G N v s' o K' v'
 | [],G,s,s',v,o,hG,_,h,hr,_=>by
  simp only[Tok.BN,aD,aM] at hr;obtain⟨rfl,rfl⟩:=hr;exact⟨_,v,rfl,uF.refl h⟩
 |t::b,G,s,s',v,o,hG,hu,h,hr,hroom=>by
  have ht:=hu t lT;rw[Tok.BN] at hr;split at hr
  ·rename_i hb
   have hb:=bO hb
   cases hq:Tok.BN c id {s with led:=t,tab:=Tok.LJ s.tab t} b with
   |none=>rw[hq] at hr;cases hr
   |some q=>
    obtain⟨sq,oq⟩:=q;rw[hq] at hr;simp only[aD,aM] at hr;obtain⟨rfl,rfl⟩:=hr;obtain⟨v1,e1,⟨O0,hO⟩,S1⟩:=Yt hc hG h hid ht.1 ht.2 es st ct (Room.left (o1:= [(c.n+1,TM.rep id t)]) (o2:=oq) hroom);have hG1:=hG.le S1.le;have R2:tO c (G.at (sealed G.K (G.key (.rep id t)))) N {s with led:=t,tab:=Tok.LJ s.tab t} (({v1 with T:=LH v1.T (G.rq t).1 (G.rq t).2.1}:ql).books (mX G t).1 (mX G t).2.1 (mX G t).2.2):=
     {S1.nd with
      tab:=aaj hG1 S1.nd.tab ht.1 ht.2
      Fh:=aG (Tp _ _) S1.nd.Fh
      ES:=ht.2
      es:=rfl
      st:=rfl
      ct:=rfl}
    have S2:uF c G N v {s with led:=t,tab:=Tok.LJ s.tab t} [(c.n+1,TM.rep id t)] (sealed G.K (G.key (.rep id t))) (({v1 with T:=LH v1.T (G.rq t).1 (G.rq t).2.1}:ql).books (mX G t).1 (mX G t).2.1 (mX G t).2.2):=⟨S1.le,R2,S1.out,S1.msg,S1.len⟩;obtain⟨K',v',e3,S3⟩:=FU hc es st ct hid b (G.at (sealed G.K (G.key (.rep id t)))) _ _ _ _ hG1 (fun x hx=>hu x (by simp[hx])) R2 hq (Room.right (o1:= [(c.n+1,TM.rep id t)]) (o2:=oq) hroom S2);refine⟨K',v',?_,S2.then hG S3⟩;rw[bV,rG,e1];exact e3
  cases hr
theorem ahJ(h:xH r):RqI r:=by
 obtain⟨h1,h2,h3,h4,h5,h6⟩:=h;unfold qh at h1 h2 h3 h6;unfold wP at h4 h5;exact⟨⟨lK,lK⟩,⟨lK,lK⟩,⟨lK,lK⟩,⟨lK,lK⟩,⟨lK,lK⟩,⟨lK,lK⟩⟩
theorem aeG(hc:vD c)(hG:sS c G)(h:tO c G N s v)(hid:id<c.n)(hb:Gl G b)(hr:Tok.BN c id s b=some (s',o))(hroom:Room G v o):
  ∃K' v',Yx (who c id) (G.qR b) (G.K,v)=some (K',v')/\uF c G N v s' o K' v':=by
 obtain⟨l1,l2,l3⟩:=Wx hG b s s' o hb.up hr;obtain⟨K',v',e,S⟩:=FU hc (mX G s'.led).1 (mX G s'.led).2.1 (mX G s'.led).2.2 hid b G s s' v o hG hb.up h hr hroom;have two:=hb.two;have few:=hG.few;have lb:=h.ES;have el:=VO hG s.led lb;have tl:=h.tab.len;have tb:=h.Fh;have hv:v'.books (mX G s'.led).1 (mX G s'.led).2.1 (mX G s'.led).2.2=v':=by
  have a:=S.nd.es;have b:=S.nd.st;have c:=S.nd.ct;have e: ∀k,mX (G.at K') k=mX G k:=fun _=>rfl;rw[e] at a b c;obtain⟨x1,x2,x3,x4,x5,x6,x7,x8,x9,x10,x11,x12,x13,x14,x15,x16,x17,x18,x19,x20,x21,x22,x23,x24⟩:=v';simp only at a b c;subst a;subst b;subst c;rfl
 refine⟨K',v',?_,S⟩;unfold Yx;have fit:ZA ((G.K,v):KN).2 (G.qR b):=⟨fun r hr=>ahJ (mF.yZ hG hb r hr).ok,by
  show v.es.length+(b.map _).length<=1000;rw[h.es,el,aT];omega,by show(b.map _).length<=4;rw[aT];omega,by show v.T.length<=64;omega⟩
 rw[nQ fit];simp only[Option.bind_some];have e1:qL ([],v.st,v.ct) (G.qR b)=(b.map (fun t=>(G.rq t,G.res.getD (t -1) 0)),(mX G s'.led).2):=by
  have p:=yH (G.qR b) (mX G s.led).1 (mX G s.led).2.1 (mX G s.led).2.2;rw[show(((mX G s.led).1,(mX G s.led).2.1,(mX G s.led).2.2):Kr)=mX G s.led from rfl,l1] at p;rw[h.st,h.ct];refine Prod.ext_iff.2 ⟨?_,?_⟩
  ·exact l2
  exact(congrArg Prod.snd p).symm
 have e2:v.es++b.map (fun t=>(G.rq t,G.res.getD (t -1) 0))=(mX G s'.led).1:=by
  have p:=yH (G.qR b) (mX G s.led).1 (mX G s.led).2.1 (mX G s.led).2.2;rw[show(((mX G s.led).1,(mX G s.led).2.1,(mX G s.led).2.2):Kr)=mX G s.led from rfl,l1] at p;rw[h.es,p];show _=(mX G s.led).1++_
  congr 1
  exact l2.symm
 simp only[e1,e2];rw[<-hv];exact e
theorem Qk: ∀(l:List Tok.Sl) (m:List uo),l.length=m.length->(∀(j:Nat) (s:Tok.Sl) (p:uo),l[j]?=some s->m[j]?=some p->p.done.isSome=s.done.isSome)->oh m=Tok.doneN l
 | [],[],_,_=>rfl
 | [],_::_,h,_=>by simp at h
 |_::_,[],h,_=>by simp at h
 |s::l,p::m,h,hd=>by
  have ih:=Qk l m (mR h) fun j s p h1 h2=>hd (j+1) s p (mR h1) (mR h2);have h0:=hd 0 s p rfl rfl;rw[oh,ih,h0];show _=match s.done with|some _=>Tok.doneN l+1|none=>0
  cases s.done<;>rfl
theorem InR.done(h:InR c G k ins i):oh i.ps=Tok.doneN ins:=by
 refine Qk _ _ (by rw[h.l1,h.l2]) fun j s p h1 h2=> ?_;obtain⟨p',h3,h4,_⟩:=h.at_ j s h1;rw[h2] at h3;injection h3 with h3;subst h3;rw[h4.2.2.2.2.2];simp
theorem Qm(hc:vD c)(hid:id<c.n): ∀(m:Nat) (G:mF) (s s':Tok.Nd) (v:ql) (o:Tok.Out),sS c G->tO c G N s v->Tok.execute c id m s=some (s',o)->Room G v o-> ∀m',m<=m'-> ∃K' v',wS (who c id) m' (G.K,v)=some (K',v')/\uF c G N v s' o K' v'
 |0,G,s,s',v,o,hG,h,he,hr,m',_=>by
  rw[Tok.execute,oV] at he
  cases hi:s.insts[0]? with
  |none=>rw[hi] at he;cases he
  |some ins=>
   rw[hi] at he;simp only at he;split at he
   ·rename_i hle
    simp only[aD,aM] at he;obtain⟨rfl,rfl⟩:=he;obtain⟨i,hv,hI⟩:=h.at_ 0 ins hi;have hd:(oh i.ps:Int)<=v.run:=by
     rw[hI.done,h.run];have:=eD hle;omega
    refine⟨G.K,v,?_,uF.refl h⟩
    cases m' with
    |zero=>
     rw[wS];simp only[hv,Option.bind_some];rw[nQ hd];rfl
    |succ m'=>
     rw[wS];simp only[hv,Option.bind_some];rw[aV hd]
   cases he
 |m+1,G,s,s',v,o,hG,h,he,hr,m',hm=>by
  obtain⟨m'',rfl⟩: ∃q,m'=q+1:=⟨m' -1,lK⟩;rw[Tok.execute,oV] at he
  cases hi:s.insts[0]? with
  |none=>rw[hi] at he;cases he
  |some ins=>
   rw[hi] at he;simp only at he;obtain⟨i,hv,hI⟩:=h.at_ 0 ins hi;rw[wS];simp only[hv,Option.bind_some];split at he
   ·rename_i hle
    simp only[aD,aM] at he;obtain⟨rfl,rfl⟩:=he;have hd:(oh i.ps:Int)<=v.run:=by
     rw[hI.done,h.run];have:=eD hle;omega
    exact⟨G.K,v,by rw[aV hd],uF.refl h⟩
   rename_i hle;have hd: ¬(oh i.ps:Int)<=v.run:=by
    rw[hI.done,h.run];have: ¬Tok.doneN ins<=s.run:=fun e=>hle (dS e);omega
   rw[aU hd];rw[oV] at he
   cases hs:ins[s.run]? with
   |none=>rw[hs] at he;cases he
   |some sl=>
    rw[hs] at he;simp only at he;obtain⟨p,hp,h1,h2⟩:=hI.at_ s.run sl hs
    cases hdn:sl.done with
    |none=>rw[hdn] at he;cases he
    |some q=>
     obtain⟨b,vs⟩:=q;rw[hdn] at he;simp only at he
     cases hrn:Tok.BN c id {s with run:=s.run+1} b with
     |none=>rw[hrn] at he;cases he
     |some q1=>
      obtain⟨s1,o1⟩:=q1;rw[hrn] at he;simp only at he
      cases hex:Tok.execute c id m s1 with
      |none=>rw[hex] at he;cases he
      |some q2=>
       obtain⟨s2,o2⟩:=q2;rw[hex] at he;simp only[aD,aM] at he;obtain⟨rfl,rfl⟩:=he;have arX:s.run<16:=by
        have:=(ah.1 hs).1;rw[hI.l1] at this;exact this
       have R1:tO c G N {s with run:=s.run+1} {v with run:=v.run+1}:={h with run:=by show v.run+1=((s.run+1:Nat):Int);rw[h.run];omega,BN:=by show s.run+1<=16;omega};obtain⟨K1,v1,e1,S1⟩:=aeG hc hG R1 hid (h2.done b vs hdn).1 hrn (⟨hr.left.K,hr.left.out⟩);have S1':uF c G N v s1 o1 K1 v1:=⟨S1.le,S1.nd,S1.out,S1.msg,S1.len⟩;obtain⟨K2,v2,e2,S2⟩:=Qm hc hid m (G.at K1) s1 s2 v1 o2 (hG.le S1.le) S1.nd hex (hr.right S1') m'' lK;have hb:i.ps[v.run.toNat]?.bind uo.done=some (G.ce 0 (s.run+1) b vs):=by
        rw[h.run,Int.toNat_natCast,hp,Option.bind_some,h1.2.2.2.2.2,hdn];rfl
       refine⟨K2,v2,?_,S1'.then hG S2⟩;rw[hb];simp only[Option.bind_some];rw[show(G.ce 0 (s.run+1) b vs).batch=G.qR b from rfl,e1];exact e2
theorem adt(hc:vD c)(hG:sS c G)(h:tO c G N s v)(hid:id<c.n)(hb:Gl G b)(hk:k<=c.f)(hcm:Tok.Cj c id k b s=some (s',o))(hr:Room G v o):
  ∃K' v',NC (who c id) k (G.qR b) (G.K,v)=some (K',v')/\uF c G N v s' o K' v':=by
 unfold Tok.Cj at hcm
 cases hg:Tok.yR s.tab s.now k b s.wT with
 |none=>rw[hg] at hcm;cases hcm
 |some g=>
  rw[hg] at hcm;simp only at hcm;obtain⟨g1,g2,g3⟩:=Mc hc hG h.tab h.Ag hk b s.wT g hb.up h.gal h.gaB hg;have R1:tO c G N {s with wT:=g} {v with ga:=g.map fun p=>((p.1:Int),(p.2:Int))}:={h with ga:=rfl,gal:=g2,gaB:=g3};have two:=hb.two;have tl:=h.tab.len;have tb:=h.Fh;have nb:=h.Ag;have rb:=h.BN;have fit:Sy v k (G.qR b):=⟨lK,by show(b.map _).length<=4;rw[aT];omega,by rw[h.now];omega,by rw[h.run];omega⟩;unfold NC;rw[nQ (show Sy ((G.K,v):KN).2 k (G.qR b) from fit)];simp only[Option.bind_some];rw[show wu (k:Int) v.now v.T (G.qR b) v.ga=some (g.map fun p=>((p.1:Int),(p.2:Int))) by rw[h.now,h.ga];exact g1];simp only[Option.bind_some];by_cases hk0:k=0
  ·subst hk0
   rw[aV (gB 0)] at hcm;rw[aV rfl]
   cases hex:Tok.execute c id 4 {s with wT:=g} with
   |none=>rw[hex] at hcm;cases hcm
   |some q=>
    obtain⟨s2,o2⟩:=q;rw[hex] at hcm;simp only at hcm;split at hcm
    ·cases hcm
    rename_i hrun;simp only[aD,aM] at hcm;obtain⟨rfl,rfl⟩:=hcm;obtain⟨K2,v2,e2,S2⟩:=Qm hc hid 4 G _ _ _ _ hG R1 hex ⟨hr.K,hr.out⟩ 16 lK;refine⟨K2,v2,?_,⟨S2.le,S2.nd,S2.out,S2.msg,S2.len⟩⟩;rw[e2];simp only[Option.bind_some];have:v2.run<16:=by
     rw[S2.nd.run];have: ¬16<=s2.run:=fun e=>hrun (dS e);omega
    rw[nQ this];rfl
  rw[aU (fun e=>hk0 (bO e))] at hcm;rw[aU hk0];simp only[aD,aM] at hcm;obtain⟨rfl,rfl⟩:=hcm;exact⟨G.K,_,rfl,⟨xC.refl G,R1,by simp[mF.yX],fun p hp=>by simp at hp,lT⟩⟩
end
end
section
open Tok (TM)
section
variable{c:Tok.qM}{G:mF}{N:Nat}{s s' s1 s2:Tok.Nd}{v v' v1 v2:ql}{o o1 o2:Tok.Out}{K1 K2:KS}{k j seq id now:Nat}{ins:List Tok.Sl}{sl sl':Tok.Sl}{i:Ba}{p p':uo}
theorem quo(hc:vD c):(2*(who c id).f+1).toNat=c.q:=by
 have:=hc.q;show(2*(c.f:Int)+1).toNat=c.q;omega
theorem xA: ∀(l:List (Option LN)) (n0 q i:Nat),i∈Tok.oW l b n0 q->n0<=i/\i<n0+l.length/\l[i -n0]?=some (some b)
 | [],n0,q,i,h=>by simp[Tok.oW] at h
 |none::l,n0,q,i,h=>by
  obtain⟨h1,h2,h3⟩:=xA l (n0+1) q i h;refine⟨lK,by simp only[List.length_cons];omega,?_⟩;rw[show i -n0=(i -(n0+1))+1 by omega,List.getElem?_cons_succ];exact h3
 |some b'::l,n0,q,i,h=>by
  cases q with
  |zero=>simp[Tok.oW] at h
  |succ q=>
   rw[show Tok.oW (some b'::l) b n0 (q+1)=if Tok.YZ b' b then n0::Tok.oW l b (n0+1) q else Tok.oW l b (n0+1) (q+1) from rfl] at h;have key: ∀q,i∈Tok.oW l b (n0+1) q->n0<=i/\i<n0+(some b'::l).length/\(some b'::l)[i -n0]?=some (some b):=fun q h=>by
    obtain⟨h1,h2,h3⟩:=xA l (n0+1) q i h;refine⟨lK,by simp only[List.length_cons];omega,?_⟩;rw[show i -n0=(i -(n0+1))+1 by omega,List.getElem?_cons_succ];exact h3
   split at h
   ·rename_i he
    rcases ay.1 h with rfl|h
    ·refine⟨aF _,lT,?_⟩
     rw[fJ,(Dc b' b).1 he];rfl
    exact key q h
   exact key (q+1) h
theorem vO: ∀(l:List (Option LN)) (n0 q:Nat),(Tok.oW l b n0 q).Pairwise (· < ·)
 | [],n0,q=>by simp[Tok.oW]
 |none::l,n0,q=>vO l (n0+1) q
 |some b'::l,n0,q=>by
  cases q with
  |zero=>simp[Tok.oW]
  |succ q=>
   rw[show Tok.oW (some b'::l) b n0 (q+1)=if Tok.YZ b' b then n0::Tok.oW l b (n0+1) q else Tok.oW l b (n0+1) (q+1) from rfl];split
   ·refine eu.2 ⟨fun i hi=> ?_,vO l (n0+1) q⟩
    have:=(xA l (n0+1) q i hi).1;omega
   exact vO l (n0+1) (q+1)
theorem XC(h:Tok.enough l b q=some vs):vs.length=q/\vs.Pairwise (· < ·)/\ ∀i∈vs,i<l.length/\l[i]?=some (some b):=by
 unfold Tok.enough at h;simp only at h;split at h
 ·rename_i he
  injection h with h;subst h;refine⟨by rw[<-pQ];exact bO he,vO l 0 q,fun i hi=> ?_⟩;obtain⟨_,h2,h3⟩:=xA l 0 q i hi;exact⟨lK,by simpa using h3⟩
 cases h
theorem yP: ∀(r:List (Option LN)),Tok.qG r l q=some (b,vs)->Tok.enough l b q=some vs/\some b∈r
 | [],h=>by simp[Tok.qG] at h
 |none::r,h=>by
  obtain⟨h1,h2⟩:=yP r h;exact⟨h1,cK _ h2⟩
 |some b'::r,h=>by
  rw[Tok.qG] at h
  cases he:Tok.enough l b' q with
  |none=>
   rw[he] at h;obtain⟨h1,h2⟩:=yP r h;exact⟨h1,cK _ h2⟩
  |some vs'=>
   rw[he] at h;injection h with h;simp only[aM] at h;obtain⟨rfl,rfl⟩:=h;exact⟨he,jL⟩
theorem aah(h:tO c G N s v)(hk:k<=c.f)(i:Nat)(z:Int):tO c G N s {v with nG:=v.nG.modify k fun l=>l.set i z}:=
 {h with
  Qg:=by show(v.nG.modify k _).length=_;rw[iV];exact h.Qg
  nG:=fun q hq=>by
   obtain⟨l,h1,h2⟩:=h.nG q hq;show∃l,(v.nG.modify k _)[q]?=some l/\_;rw[eY,h1];by_cases e:k=q
   ·exact⟨l.set i z,by simp[e],by rw[bG];exact h2⟩
   exact⟨l,by simp[e],h2⟩}
theorem abG(h:tO c G N s v)(hk:k<=c.f)(i:Nat)(z:Int):tO c G N s {v with nN:=v.nN.modify k fun l=>l.set i z}:=
 {h with
  QZ:=by show(v.nN.modify k _).length=_;rw[iV];exact h.QZ
  nN:=fun q hq=>by
   obtain⟨l,h1,h2⟩:=h.nN q hq;show∃l,(v.nN.modify k _)[q]?=some l/\_;rw[eY,h1];by_cases e:k=q
   ·exact⟨l.set i z,by simp[e],by rw[bG];exact h2⟩
   exact⟨l,by simp[e],h2⟩}
theorem abF(hc:vD c)(hG:sS c G)(h:tO c G N s v)(hid:id<c.n)(hp:Tok.Wq c id k (j+1) s=some (s',o))(hr:Room G v o):
  ∃K' v',QY (who c id) k j (G.K,v)=some (K',v')/\uF c G N v s' o K' v':=by
 unfold Tok.Wq at hp
 cases hs:Tok.tV s k (j+1) with
 |none=>rw[hs] at hp;cases hp
 |some sl=>
  rw[hs] at hp;simp only at hp;obtain⟨j',ins,hjj,hk,hj⟩:=Cq hs;obtain rfl:j'=j:=lK;obtain⟨i,p,hpl,hon,hvw,h1,h2,xM,Qv⟩:=zW h hk hj;have b2:=h2.b.two;have fit:Ve (who c id) v i p k j':=⟨hon,xM,by rw[hvw];exact⟨lN,lN⟩,by rw[h1.2.1];unfold mF.qR;rw[aT];omega,by obtain⟨l,l1,l2⟩:=h.nG k Qv;exact⟨l,l1,lK⟩,by rw[h.view];decide⟩;unfold QY;rw[show((G.K,v):KN).2.pl k j'=some (i,p) from hpl];simp only[Option.bind_some];rw[nQ fit];simp only[Option.bind_some];rw[h1.2.2.2.2.1,h1.1];by_cases ht:(sl.told||!sl.has)=true
  ·rw[aV ht] at hp|-
   simp only[aD,aM] at hp;obtain⟨rfl,rfl⟩:=hp;exact⟨G.K,v,rfl,uF.refl h⟩
  rw[aU ht] at hp|-;rw[quo (id:=id) hc,h1.2.2.1,h1.2.1,Ir hG.inj h2.b.up 4 k (j'+1) sl.pr c.q h2.upv.1]
  cases he:Tok.enough sl.pr sl.b c.q with
  |none=>
   rw[he] at hp;simp only[aD,aM] at hp;obtain⟨rfl,rfl⟩:=hp;exact⟨G.K,v,rfl,uF.refl h⟩
  |some vs=>
   rw[he] at hp;simp only[oV,qD] at hp;simp only[Option.map_some]
   cases hco:sl.co[id]? with
   |none=>rw[hco] at hp;cases hp
   |some oc=>
    cases oc with
    |some x=>rw[hco] at hp;cases hp
    |none=>
     rw[hco] at hp;simp only[aD,aM] at hp;obtain⟨rfl,rfl⟩:=hp;have hkl:=(ah.1 hk).1;have hjl:=(ah.1 hj).1;obtain⟨q,hq⟩: ∃q:uo,q={has:=sl.has,b:=G.qR sl.b,pr:=G.zL 4 k (j'+1) sl.pr 0,co:=p.co,told:=true,cert:=some ⟨i.vw,k,j'+1,G.qR sl.b,vs.map (G.vo 4 k (j'+1) sl.b)⟩,done:=p.done}:=⟨_,rfl⟩;have R1:tO c G N (Tok.su s k (j'+1) {sl with told:=true}) {v.put k j' q with nG:=v.nG.modify k fun l=>l.set (j'+1) (v.view+1)}:=by
      have:=Bq h hk hj (sl':={sl with told:=true}) (p':=q) (by rw[hq];exact⟨rfl,rfl,rfl,h1.2.2.2.1,rfl,h1.2.2.2.2.2⟩) ⟨h2.b,h2.prl,h2.col,h2.pr,h2.co,h2.done⟩;exact aah this Qv (j'+1) (v.view+1)
     have hk':(Tok.su s k (j'+1) {sl with told:=true}).insts[k]?=some (ins.set j' {sl with told:=true}):=by rw[JH hk];exact aL hkl
     have hj':(ins.set j' {sl with told:=true})[j']?=some {sl with told:=true}:=aL hjl;obtain⟨K',v',e,S⟩:=Sb hc hG R1 hid 5 (.com id k (j'+1) sl.b) sl.b (by rw[aU lN]) (.inr rfl) h2.b hk' hj' ⟨hr.K,hr.out⟩ (by rw[aU lN];exact hco) rfl;rw[aU lN,Ro hk hj] at S;refine⟨K',v',?_,⟨S.le,S.nd,S.out,S.msg,S.len⟩⟩;rw[<-hq];exact e
theorem XB(hc:vD c)(hG:sS c G)(h:tO c G N s v)(hid:id<c.n)(hp:Tok.Vx c id k (j+1) s=some (s',o))(hr:Room G v o):
  ∃K' v',Fz (who c id) k j (G.K,v)=some (K',v')/\uF c G N v s' o K' v':=by
 unfold Tok.Vx at hp
 cases hs:Tok.tV s k (j+1) with
 |none=>rw[hs] at hp;cases hp
 |some sl=>
  rw[hs] at hp;simp only at hp;obtain⟨j',ins,hjj,hk,hj⟩:=Cq hs;obtain rfl:j'=j:=lK;obtain⟨i,p,hpl,hon,hvw,h1,h2,xM,Qv⟩:=zW h hk hj;unfold Fz;rw[show((G.K,v):KN).2.pl k j'=some (i,p) from hpl];simp only[Option.bind_some];rw[nQ (show qX i.vw by rw[hvw];exact⟨lN,lN⟩)];simp only[Option.bind_some];rw[h1.2.2.2.2.2]
  cases hd:sl.done with
  |some q=>
   rw[hd] at hp;simp only[aD,aM] at hp;obtain⟨rfl,rfl⟩:=hp;exact⟨G.K,v,rfl,uF.refl h⟩
  |none=>
   rw[hd] at hp;simp only at hp;rw[Option.map_none,aU lT,quo (id:=id) hc,h1.2.2.2.1,xJ hG.inj 5 k (j'+1) sl.co c.q h2.upv.2 sl.co 0 h2.upv.2]
   cases hcm:Tok.qG sl.co sl.co c.q with
   |none=>
    rw[hcm] at hp;simp only[aD,aM] at hp;obtain⟨rfl,rfl⟩:=hp;exact⟨G.K,v,rfl,uF.refl h⟩
   |some q=>
    obtain⟨b,vs⟩:=q;rw[hcm] at hp;simp only at hp;simp only[Option.map_some];obtain⟨he,hbm⟩:=yP sl.co hcm;obtain⟨e1,e2,e3⟩:=XC he;obtain⟨x,hx⟩:=bT.1 hbm;have hbt:=(h2.co x b hx).1;obtain⟨q,hq⟩: ∃q:uo,q={has:=p.has,b:=p.b,pr:=p.pr,co:=G.zL 5 k (j'+1) sl.co 0,told:=p.told,cert:=p.cert,done:=some (⟨i.vw,k,(j':Int)+1,G.qR b,vs.map (G.vo 5 k (j'+1) b)⟩:Ce)}:=⟨_,rfl⟩;have R1:tO c G N (Tok.su s k (j'+1) {sl with done:=some (b,vs)}) (v.put k j' q):=
     Bq h hk hj (by
      rw[hq];refine⟨h1.1,h1.2.1,h1.2.2.1,rfl,h1.2.2.2.2.1,?_⟩;show some _=some _;rw[hvw];rfl) ⟨h2.b,h2.prl,h2.col,h2.pr,h2.co,fun b' v' hd'=>by
      simp only[aD,aM] at hd';obtain⟨rfl,rfl⟩:=hd';exact⟨hbt,⟨e1,e2,fun i hi=>by rw[<-h2.col];exact(e3 i hi).1⟩,fun i hi=>(h2.co i b (e3 i hi).2).2⟩⟩
    obtain⟨K',v',e,S⟩:=adt hc hG R1 hid hbt Qv hp ⟨hr.K,hr.out⟩;refine⟨K',v',?_,⟨S.le,S.nd,S.out,S.msg,S.len⟩⟩;rw[<-hq];exact e
theorem Jj(hc:vD c)(hG:sS c G)(h:tO c G N s v)(hid:id<c.n)(hp:Tok.looked c id k (j+1) s=some (s',o))(hr:Room G v o):
  ∃K' v',Ca (who c id) k j (G.K,v)=some (K',v')/\uF c G N v s' o K' v':=by
 unfold Tok.looked at hp
 cases h1:Tok.Wq c id k (j+1) s with
 |none=>rw[h1] at hp;cases hp
 |some q=>
  obtain⟨s1,o1⟩:=q;rw[h1] at hp;simp only at hp
  cases h2:Tok.Vx c id k (j+1) s1 with
  |none=>rw[h2] at hp;cases hp
  |some q=>
   obtain⟨s2,o2⟩:=q;rw[h2] at hp;simp only[aD,aM] at hp;obtain⟨rfl,rfl⟩:=hp;obtain⟨K1,v1,e1,S1⟩:=abF hc hG h hid h1 hr.left;obtain⟨K2,v2,e2,S2⟩:=XB hc (hG.le S1.le) S1.nd hid h2 (hr.right S1);refine⟨K2,v2,?_,S1.then hG S2⟩;unfold Ca;rw[e1];exact e2
theorem Vk(hc:vD c)(hG:sS c G)(h:tO c G N s v)(hid:id<c.n)(hp:Tok.accepted c id k (j+1) b s=some (s',o))(hr:Room G v o):
  ∃K' v',Nu (who c id) k j (G.K,v)=some (K',v')/\uF c G N v s' o K' v':=by
 unfold Tok.accepted at hp
 cases hs:Tok.tV s k (j+1) with
 |none=>rw[hs] at hp;cases hp
 |some sl=>
  rw[hs] at hp;simp only[oV,qD] at hp;obtain⟨j',ins,hjj,hk,hj⟩:=Cq hs;obtain rfl:j'=j:=lK;obtain⟨i,p,hpl,hon,hvw,h1,h2,xM,Qv⟩:=zW h hk hj
  cases hpr:sl.pr[id]? with
  |none=>rw[hpr] at hp;cases hp
  |some ov=>
   cases ov with
   |some x=>rw[hpr] at hp;cases hp
   |none=>
    rw[hpr] at hp
    cases hh:(sl.has&&Tok.YZ sl.b b) with
    |false=>rw[hh] at hp;cases hp
    |true=>
     rw[hh] at hp;simp only at hp;rw[bX] at hh;have hbe:sl.b=b:=(Dc _ _).1 hh.2;subst hbe
     cases hl:Tok.looked c id k (j'+1) (Tok.su s k (j'+1) {sl with pr:=sl.pr.set id (some sl.b)}) with
     |none=>rw[hl] at hp;cases hp
     |some q=>
      obtain⟨s2,o2⟩:=q;rw[hl] at hp;simp only[aD,aM] at hp;obtain⟨rfl,rfl⟩:=hp;obtain⟨K1,v1,e1,S1⟩:=Sb hc hG h hid 4 (.uf id k (j'+1) sl.b) sl.b (by rw[aV rfl]) (.inl rfl) h2.b hk hj hr.left (by rw[aV rfl];exact hpr) rfl;rw[aV rfl] at S1;obtain⟨K2,v2,e2,S2⟩:=Jj hc (hG.le S1.le) S1.nd hid hl (hr.right S1);refine⟨K2,v2,?_,S1.then hG S2⟩;unfold Nu;rw[show((G.K,v):KN).2.pl k j'=some (i,p) from hpl];simp only[Option.bind_some];rw[nQ (show p.has=true by rw[h1.1];exact hh.1)];simp only[Option.bind_some];rw[h1.2.1,e1];exact e2
end
end
section
open Tok (TM)
section
variable{c:Tok.qM}{G:mF}{N:Nat}{s s' s1 s2:Tok.Nd}{v v' v1 v2:ql}{o o1 o2:Tok.Out}{K1 K2:KS}{k j seq id now node:Nat}{ins:List Tok.Sl}{sl sl':Tok.Sl}{i:Ba}{p p':uo}{tab JQ:List Tok.Td}{T T':List oO}{t:Nat}
theorem WE(hG:sS c G)(h1:1<=t)(h2:t<=G.nD.length): ∀{tab:List Tok.Td} {T:List oO} (k0:Nat) (d:Tok.Td),uq (Li G now) tab T->Tok.Pn tab t=some (some d)->
  ∃i e,Xp (G.rq t) T k0=some (k0+i,true)/\T[i]?=some e/\Li G now d e/\d.t=t/\ ∀d' e',Li G now d' e'->uq (Li G now) (Tok.KR tab t d') (T.set i e')
 |_,_,k0,d,.nil,h=>by simp[Tok.Pn] at h
 |_,_,k0,d,.cons (a:=a) (b:=b) (l:=l) (m:=m) hd tl,h=>by
  have ra:=hG.rq a.t hd.t.1 hd.t.2;have rt:=hG.rq t h1 h2;have e0:Tok.Pn (a::l) t=if Nat.beq a.t t then some (some a) else if Nat.blt a.t t then Tok.Pn l t else none:=rfl;rw[e0] at h;rw[Xp,hd.r];by_cases e:a.t=t
  ·subst e
   rw[aV (gB a.t)] at h;injection h with h;injection h with h;subst h;refine⟨0,b,by rw[aV rfl];rfl,rfl,hd,rfl,fun d' e' hr=> ?_⟩;rw[show Tok.KR (a::l) a.t d'=if Nat.beq a.t a.t then d'::l else a::Tok.KR l a.t d' from rfl,aV (gB a.t)];exact .cons hr tl
  have nb: ¬Nat.beq a.t t=true:=fun h=>e (bO h);have ne: ¬G.rq a.t=G.rq t:=fun h=>e (hG.inj _ _ hd.t.1 hd.t.2 h1 h2 h);rw[aU nb] at h;rw[aU ne];by_cases lt:a.t<t
  ·have hlt:Nat.blt a.t t=true:=by simpa[iA] using lt
   rw[aV hlt] at h;rw[aV (EJ (by rw[ra.1,rt.1]) (by rw[ra.2.1,rt.2.1];omega))];obtain⟨i,e,e1,e2,e3,e4,e5⟩:=WE hG h1 h2 (k0+1) d tl h;refine⟨i+1,e,by rw[e1];congr 2;omega,e2,e3,e4,fun d' e' hr=> ?_⟩;rw[show Tok.KR (a::l) t d'=if Nat.beq a.t t then d'::l else a::Tok.KR l t d' from rfl,aU nb,List.set_cons_succ];exact .cons hd (e5 d' e' hr)
  have: ¬Nat.blt a.t t=true:=by simpa[iA] using lt
  rw[aU this] at h;cases h
theorem NV(hG:sS c G)(hT:uq (Li G now) tab T)(h1:1<=t)(h2:t<=G.nD.length)(hn:node<13){b:Bool}(h:Tok.IB tab t node=some b):NR T (G.rq t) node=some b:=by
 unfold Tok.IB at h;unfold NR
 cases ha:Tok.Pn tab t with
 |none=>rw[ha] at h;cases h
 |some od=>
  cases od with
  |none=>
   rw[ha] at h;rw[(ED hG h1 h2 0 hT).1 ha];exact h
  |some d=>
   rw[ha] at h;obtain⟨i,e,e1,e2,e3,e4,e5⟩:=(ED hG h1 h2 0 hT).2 d ha;rw[e1];simp only[Option.map_some,fH,aO,e3];simp only[oV] at h;rw[e4.nX node hn] at h;exact h
theorem ahn{l:List Bool}{g:Nat->Bool}(hl:l.length=13)(h: ∀i,i<13->l[i]?=some (g i)):l= [g 0,g 1,g 2,g 3,g 4,g 5,g 6,g 7,g 8,g 9,g 10,g 11,g 12]:=by
 refine dD fun i=> ?_;by_cases hi:i<13
 ·rw[h i hi]
  match i,hi with
  |0,_|1,_|2,_|3,_|4,_|5,_|6,_|7,_|8,_|9,_|10,_|11,_|12,_=>rfl
 rw[fT lK,fT (by simp only[List.length_cons,List.length_nil];omega)]
theorem acu(hd:Li G now d e)(hn:node<13)(f:Nat):Li G now (Tok.JU (f+1) now node d) (e.told f node now):=by
 have hby: ∀i,i<13->(d.nX.set node true)[i]?=some ((e.tell node).nX i):=fun i hi=>by
  rw[je];show _=some (if i=node then true else e.nX i);by_cases h:node=i
  ·rw[aV h,aV (by rw[hd.l];omega),aV h.symm]
  rw[aU h,aU (dR h)];exact hd.nX i hi
 have hlen:(d.nX.set node true).length=13:=by rw[bG];exact hd.l
 have hcount:Tok.count (d.nX.set node true)=(e.tell node).count:=by
  rw[ahn hlen hby];rfl
 unfold Tok.JU oO.told;simp only[qD];rw[hcount,hd.ready];by_cases hr:d.ready=false/\f+1<=(e.tell node).count
 ·have c1:(!d.ready&&Nat.ble (f+1) (e.tell node).count)=true:=by
   rw[hr.1,dS hr.2];rfl
  rw[aV c1,aV ⟨hr.1,by have:=hr.2;omega⟩];exact⟨hd.r,hd.t,hby,hlen,rfl,rfl,aF _⟩
 have c1: ¬(!d.ready&&Nat.ble (f+1) (e.tell node).count)=true:=fun h=>by
  rw[bX] at h;exact hr ⟨by simpa using h.1,eD h.2⟩
 rw[aU c1,aU (fun h=>hr ⟨h.1,by have:=h.2;omega⟩)];exact⟨hd.r,hd.t,hby,hlen,hd.ready,hd.since,hd.le⟩
theorem Eh(hc:vD c)(hG:sS c G)(hT:uq (Li G now) tab T)(h1:1<=t)(h2:t<=G.nD.length)(hn:node<13)(h:Tok.DN (c.f+1) now node tab t=some JQ)(hl:tab.length<=8): ∃T',zH c.f node now (G.rq t) T=some T'/\uq (Li G now) JQ T'/\JQ.length<=8:=by
 unfold Tok.DN at h;unfold zH
 cases ha:Tok.Pn tab t with
 |none=>rw[ha] at h;cases h
 |some od=>
  cases od with
  |none=>
   rw[ha] at h;rw[(ED hG h1 h2 0 hT).1 ha]
   cases hT with
   |nil=>
    simp only[aD] at h;subst h;refine⟨_,rfl,.cons ⟨rfl,⟨h1,h2⟩,fun i hi=> ?_,?_,rfl,rfl,bF _⟩ .nil,lT⟩
    ·show(Tok.vG (Tok.tH 13 false) node true)[i]?=some (if i=node then true else false)
     rw[qD,qH,je];by_cases e:node=i
     ·rw[aV e,aV (by simp;omega),aV e.symm]
     rw[aU e,aU (dR e),dI,aV hi]
    show(Tok.vG (Tok.tH 13 false) node true).length=13;rw[qD,qH];simp
   |cons _ _=>cases h
  |some d=>
   rw[ha] at h;obtain⟨i,e,e1,e2,e3,e4,e5⟩:=WE hG h1 h2 0 d hT ha;rw[e1];simp only[aO,e2,Option.bind_some];simp only[oV] at h;rw[e3.nX node hn] at h
   cases hb:e.nX node with
   |true=>rw[hb] at h;cases h
   |false=>
    rw[hb] at h;simp only[aD] at h;subst h;refine⟨_,rfl,e5 _ _ (acu e3 hn c.f),?_⟩;have: ∀l:List Tok.Td,(Tok.KR l t (Tok.JU (c.f+1) now node d)).length=l.length:=fun l=>by
     induction l with
     |nil=>rfl
     |cons a l ih=>
      rw[show Tok.KR (a::l) t (Tok.JU (c.f+1) now node d)=if Nat.beq a.t t then(Tok.JU (c.f+1) now node d)::l else a::Tok.KR l t (Tok.JU (c.f+1) now node d) from rfl];split<;>simp[ih]
    rw[this];exact hl
theorem Ee(h:tO c G N s v)(hT:uq (Li G s.now) JQ T')(hl:JQ.length<=8):tO c G N {s with tab:=JQ} {v with T:=T'}:={h with tab:=hT,Fh:=hl}
theorem Ra(hc:vD c)(hG:sS c G)(h:tO c G N s v)(hid:id<c.n)(h1:1<=t)(h2:t<=G.nD.length)(hr:Room G v (Tok.sendAll c.n id (.prop id t) c.n)):
  ∃v',Jy (who c id) (G.rq t) (G.K,v)=some (sealed G.K (G.key (.prop id t)),v')/\(∃O0,v'={v with out:=O0})/\uF c G N v s (Tok.sendAll c.n id (.prop id t) c.n) (sealed G.K (G.key (.prop id t))) v':=by
 obtain⟨v',e,hO,S⟩:=Ed hc hG h hid ⟨2,0,0,0,0,0,[G.rq t],[],[]⟩ (.prop id t) rfl ⟨hid,h1,h2⟩ trivial hr;refine⟨v',?_,hO,S⟩;unfold Jy;rw[e];rfl
theorem Vz(hc:vD c)(hG:sS c G)(h:tO c G N s v)(h1:1<=t)(h2:t<=G.nD.length)(hl: ¬Nat.ble t s.led=true)(hn:node<c.n):adf v/\sU G.K 2 (G.rq t)/\lastOf v.ct (G.rq t).1<(G.rq t).2.1/\node<c.n/\node<13/\0<=(G.rq t).1/\(G.rq t).1<2:=by
 have rt:=hG.rq t h1 h2;have tl:=h.tab.len;have tb:=h.Fh;have nb:=h.Ag;have n13:=hc.n;have f4:=hc.f4;have hlt: ¬t<=s.led:=fun e=>hl (dS e);refine⟨⟨lK,by rw[h.now];omega⟩,rt.2.2,?_,hn,lK,by rw[rt.1];omega,by rw[rt.1];omega⟩;rw[h.ct,rt.1,rt.2.1,hG.last s.led h.ES];omega
theorem aeD(hc:vD c)(hG:sS c G)(h:tO c G N s v)(hid:id<c.n)(h1:1<=t)(h2:t<=G.nD.length)(src:Nat)(hp:Tok.takeN c id (.req t) s=some (s',o))(hr:Room G v o):
  ∃K' v' a,JE (who c id) 1 src (G.rq t) (G.K,v)=some ((K',v'),a)/\uF c G N v s' o K' v':=by
 rw[show Tok.takeN c id (.req t) s=(if Nat.ble t s.led then none else match Tok.IB s.tab t id with
  |none=>none
  |some true=>some (s,[])
  |some false=>match Tok.DN (c.f+1) s.now id s.tab t with
   |none=>none
   |some T=>some ({s with tab:=T},Tok.sendAll c.n id (.prop id t) c.n)) from rfl] at hp
 split at hp
 ·cases hp
 rename_i hle;have F:=Vz (node:=id) hc hG h h1 h2 hle hid;have n13:=F.2.2.2.2.1;unfold JE;simp only[aV];rw[nQ (show adf v/\sU G.K 2 (G.rq t)/\lastOf v.ct (G.rq t).1<(G.rq t).2.1/\(who c id).id<(who c id).n/\(who c id).id<13/\0<=(G.rq t).1/\(G.rq t).1<2 from F)];simp only[Option.bind_some]
 cases hh:Tok.IB s.tab t id with
 |none=>rw[hh] at hp;cases hp
 |some b=>
  rw[hh] at hp;rw[show NR v.T (G.rq t) (who c id).id=some b from NV hG h.tab h1 h2 n13 hh];simp only[Option.bind_some]
  cases b with
  |true=>
   simp only[aD,aM] at hp;obtain⟨rfl,rfl⟩:=hp;exact⟨G.K,v,.stale,by rw[aV rfl],uF.refl h⟩
  |false=>
   rw[aU lN];simp only at hp
   cases hput:Tok.DN (c.f+1) s.now id s.tab t with
   |none=>rw[hput] at hp;cases hp
   |some JQ=>
    rw[hput] at hp;simp only[aD,aM] at hp;obtain⟨rfl,rfl⟩:=hp;obtain⟨T',e1,e2,e3⟩:=Eh hc hG h.tab h1 h2 n13 hput h.Fh;have R1:=Ee h e2 e3;obtain⟨v',e4,_,S⟩:=Ra hc hG R1 hid h1 h2 ⟨hr.K,hr.out⟩;refine⟨_,v',.used,?_,⟨S.le,S.nd,S.out,S.msg,S.len⟩⟩;rw[aU lN];rw[show zH (who c id).f (who c id).id v.now (G.rq t) v.T=some T' by rw[h.now];exact e1];simp only[Option.bind_some];rw[e4];simp
theorem OY(hc:vD c)(hG:sS c G)(h:tO c G N s v)(hid:id<c.n)(src:Nat)(hsrc:src<c.n)(h1:1<=t)(h2:t<=G.nD.length)(hp:Tok.takeN c id (.prop src t) s=some (s',o))(hr:Room G v o):
  ∃K' v' a,JE (who c id) 2 src (G.rq t) (G.K,v)=some ((K',v'),a)/\uF c G N v s' o K' v':=by
 rw[show Tok.takeN c id (.prop src t) s=(if Nat.ble t s.led||Nat.beq src id then none else match Tok.IB s.tab t src with
  |none=>none
  |some true=>some (s,[])
  |some false=>match Tok.IB s.tab t id with
   |none=>none
   |some true=>match Tok.DN (c.f+1) s.now src s.tab t with
    |none=>none
    |some T=>some ({s with tab:=T},[])
   |some false=>match Tok.DN (c.f+1) s.now id s.tab t with
    |none=>none
    |some T=>match Tok.DN (c.f+1) s.now src T t with
     |none=>none
     |some T'=>some ({s with tab:=T'},Tok.sendAll c.n id (.prop id t) c.n)) from rfl] at hp
 split at hp
 ·cases hp
 rename_i hcond;rw[eZ] at hcond;have hle: ¬Nat.ble t s.led=true:=fun e=>hcond (.inl e);have hne:src≠id:=fun e=>hcond (.inr (by rw[e];exact gB id));have F:=Vz (node:=src) hc hG h h1 h2 hle hsrc;have s13:=F.2.2.2.2.1;have n13:id<13:=by have:=hc.n;have:=hc.f4;omega
 unfold JE;rw[aU lN];simp only[];rw[nQ (show adf v/\sU G.K 2 (G.rq t)/\lastOf v.ct (G.rq t).1<(G.rq t).2.1/\src<(who c id).n/\src<13/\0<=(G.rq t).1/\(G.rq t).1<2 from F)];simp only[Option.bind_some]
 cases hh:Tok.IB s.tab t src with
 |none=>rw[hh] at hp;cases hp
 |some b=>
  rw[hh] at hp;rw[NV hG h.tab h1 h2 s13 hh];simp only[Option.bind_some]
  cases b with
  |true=>
   simp only[aD,aM] at hp;obtain⟨rfl,rfl⟩:=hp;exact⟨G.K,v,.stale,by rw[aV rfl],uF.refl h⟩
  |false=>
   rw[aU lN];simp only at hp
   cases hh2:Tok.IB s.tab t id with
   |none=>rw[hh2] at hp;cases hp
   |some b2=>
    rw[hh2] at hp;rw[show NR v.T (G.rq t) (who c id).id=some b2 from NV hG h.tab h1 h2 n13 hh2];simp only[Option.bind_some]
    cases b2 with
    |true=>
     simp only at hp
     cases hput:Tok.DN (c.f+1) s.now src s.tab t with
     |none=>rw[hput] at hp;cases hp
     |some JQ=>
      rw[hput] at hp;simp only[aD,aM] at hp;obtain⟨rfl,rfl⟩:=hp;obtain⟨T',e1,e2,e3⟩:=Eh hc hG h.tab h1 h2 s13 hput h.Fh;refine⟨G.K,_,.used,?_,⟨xC.refl G,Ee h e2 e3,by simp[mF.yX],fun p hp=>by simp at hp,lT⟩⟩;rw[aV rfl];simp only[Option.bind_some];rw[aV ⟨by trivial,hne⟩,show zH (who c id).f src v.now (G.rq t) v.T=some T' by rw[h.now];exact e1];rfl
    |false=>
     simp only at hp
     cases hput:Tok.DN (c.f+1) s.now id s.tab t with
     |none=>rw[hput] at hp;cases hp
     |some apg=>
      rw[hput] at hp;simp only at hp
      cases aaN:Tok.DN (c.f+1) s.now src apg t with
      |none=>rw[aaN] at hp;cases hp
      |some JQ=>
       rw[aaN] at hp;simp only[aD,aM] at hp;obtain⟨rfl,rfl⟩:=hp;obtain⟨T1,e1,e2,e3⟩:=Eh hc hG h.tab h1 h2 n13 hput h.Fh;have R1:=Ee h e2 e3;obtain⟨T',f1,f2,f3⟩:=Eh hc hG e2 h1 h2 s13 aaN e3;obtain⟨v',e4,⟨O0,hO⟩,S⟩:=Ra hc hG R1 hid h1 h2 ⟨hr.K,hr.out⟩;have hG':=hG.le S.le;have e5:v'.T=T1/\v'.now=v.now:=by rw[hO];exact⟨rfl,rfl⟩
       have R2:=Ee S.nd (JQ:=JQ) (T':=T') (f2.imp fun _ _ h=>h.MW) f3;refine⟨_,{v' with T:=T'},.used,?_,⟨S.le,R2,S.out,S.msg,S.len⟩⟩;rw[aU lN];rw[show zH (who c id).f (who c id).id v.now (G.rq t) v.T=some T1 by rw[h.now];exact e1];simp only[Option.bind_some];rw[e4];simp only[Option.bind_some];rw[aV ⟨by trivial,hne⟩,show zH (who c id).f src v'.now (G.rq t) v'.T=some T' by rw[e5.1,e5.2,h.now];exact f1];rfl
end
end
end Go.Proofs.YtgnhecmnlddjhaaGreat
