/- TopSplit, part 11 of 12: a proof squeezed by a program. -/
import Derived.Test.YtgnhecmnlddjhaaGreatZ09
set_option linter.all false
set_option maxRecDepth 100000
set_option maxHeartbeats 6400000
namespace Go.Proofs.YtgnhecmnlddjhaaGreat
open Go.RowKit Go.Proofs.Tryz
variable{K:KS}{N' a j k n q seq src t:Nat}{b vs:LN}{d:Tok.Td}{e:oO}{l:List (Option LN)}{r:Rq}{s:Tok.Sl}
section
open Tok (TM)
theorem oV{α:Type}: ∀(l:List α) (k:Nat),Tok.uw l k=l[k]?
 | [],k=>by simp[Tok.uw]
 |a::l,0=>by simp[Tok.uw]
 |a::l,k+1=>by simp[Tok.uw,oV l k]
theorem qD{α:Type}: ∀(l:List α) (k:Nat) (x:α),Tok.vG l k x=l.set k x
 | [],k,x=>by simp[Tok.vG]
 |a::l,0,x=>by simp[Tok.vG]
 |a::l,k+1,x=>by simp[Tok.vG,qD l k]
theorem qH{α:Type}: ∀(n:Nat) (a:α),Tok.tH n a=List.replicate n a
 |0,a=>rfl
 |n+1,a=>by rw[Tok.tH,qH n a,List.replicate_succ]
abbrev mF.at(G:mF)(K:KS):mF:={G with K:=K}
def mF.yX(G:mF)(n:Nat)(o:Tok.Out):List (Int×List Int):=o.map fun p=>(zI n p.1,G.bytes p.2)
structure Gl(G:mF)(b:LN):Prop where
 up:Up G b
 two:b.length<=2
 rise:b.Pairwise (· < ·)
 one:0∈b->b.length<=1
structure Vs(n q:Nat)(vs:LN):Prop where
 len:vs.length=q
 rise:vs.Pairwise (· < ·)
 lt: ∀i∈vs,i<n
structure Plc(c:Tok.qM)(k seq:Nat):Prop where
 k:k<=c.f
 one:1<=seq
 most:seq<=16
def Ew(c:Tok.qM)(G:mF):TM->Prop
 | .req t=>1<=t/\t<=G.nD.length
 | .prop src t=>src<c.n/\1<=t/\t<=G.nD.length
 | .pp src k seq b=>src=k/\Plc c k seq/\Gl G b/\b≠ []
 | .uf src k seq b=>src<c.n/\Plc c k seq/\Gl G b
 | .com src k seq b=>src<c.n/\Plc c k seq/\Gl G b
 | .proof src k seq b vs=>src<c.n/\Plc c k seq/\Gl G b/\Vs c.n c.q vs
 | .rep src t=>src<c.n/\1<=t/\t<=G.nD.length
structure vH(c:Tok.qM)(G:mF)(m:TM):Prop where
 form:Ew c G m
 has:G.has m
structure vD(c:Tok.qM):Prop where
 f1:1<=c.f
 f4:c.f<=4
 n:c.n=3*c.f+1
 q:c.q=2*c.f+1
abbrev ct0:List (Int×Int):=List.replicate 2 (0,0)
def mX(G:mF)(k:Nat):Kr:=qL ([],st0,ct0) (G.nD.take k)
structure sS(c:Tok.qM)(G:mF):Prop where
 f:G.f=c.f
 cl:G.cl=c.cl
 clb:c.cl<2
 len:G.res.length=G.nD.length
 few:G.nD.length<=100
 rq: ∀t,1<=t->t<=G.nD.length->(G.rq t).1=c.cl/\(G.rq t).2.1=t/\sU G.K 2 (G.rq t)
 alt: ∀r,G.alt=some r->sU G.K 2 r/\r∉G.nD
 ok: ∀t,1<=t->t<=G.nD.length->Yf (mX G (t -1)).2.2 (G.rq t)=true
 rs: ∀t,1<=t->t<=G.nD.length->G.res.getD (t -1) 0=uK (mX G (t -1)) (G.rq t)
 last: ∀k,k<=G.nD.length->lastOf (mX G k).2.2 c.cl=k
 res: ∀z∈G.res,-549755813887<=z/\z<=549755813887
def ZF(G:mF)(k j:Nat)(s:Tok.Sl)(p:uo):Prop:=
 p.has=s.has/\p.b=G.qR s.b/\p.pr=G.zL 4 k (j+1) s.pr 0/\p.co=G.zL 5 k (j+1) s.co 0/\p.told=s.told/\p.done=s.done.map fun q=>G.ce k (j+1) q.1 q.2
structure Ci(c:Tok.qM)(G:mF)(k j:Nat)(s:Tok.Sl):Prop where
 b:Gl G s.b
 gy:s.pr.length=c.n
 col:s.co.length=c.n
 pr: ∀i b,s.pr[i]?=some (some b)->Gl G b/\G.BO 4 i k (j+1) b∈G.K
 co: ∀i b,s.co[i]?=some (some b)->Gl G b/\G.BO 5 i k (j+1) b∈G.K
 done: ∀b v,s.done=some (b,v)->Gl G b/\Vs c.n c.q v/\ ∀i∈v,G.BO 5 i k (j+1) b∈G.K
structure InR(c:Tok.qM)(G:mF)(k:Nat)(ins:List Tok.Sl)(i:Ba):Prop where
 vw:i.vw=0
 on:i.on=true
 l1:ins.length=16
 l2:i.ps.length=16
 at_: ∀j s,ins[j]?=some s-> ∃p,i.ps[j]?=some p/\ZF G k j s p/\Ci c G k j s
structure Li(G:mF)(now:Nat)(d:Tok.Td)(e:oO):Prop where
 r:e.r=G.rq d.t
 t:1<=d.t/\d.t<=G.nD.length
 nX: ∀i,i<13->d.nX[i]?=some (e.nX i)
 l:d.nX.length=13
 ready:e.ready=d.ready
 since:e.since=d.since
 le:d.since<=now
inductive uq{α β:Type}(R:α->β->Prop):List α->List β->Prop
 |nil:uq R [] []
 |cons {a:α} {b:β} {l:List α} {m:List β}:R a b->uq R l m->uq R (a::l) (b::m)
theorem uq.imp{α β:Type}{R S:α->β->Prop}(h: ∀a b,R a b->S a b): ∀{l:List α} {m:List β},uq R l m->uq S l m
 |_,_,.nil=> .nil
 |_,_,.cons k t=> .cons (h _ _ k) (t.imp h)
abbrev agI(m:Nat):List Value:=List.flatten (List.replicate m [U 0,U 0,U 0,U 0,U 0,U 0,U 0,(),(),(),()])
structure tO(c:Tok.qM)(G:mF)(N:Nat)(s:Tok.Nd)(v:ql):Prop where
 now:v.now=s.now
 Ag:s.now<=1000
 il:s.insts.length=c.f+1
 vl:v.is.length=c.f+1
 at_: ∀k ins,s.insts[k]?=some ins-> ∃i,v.is[k]?=some i/\InR c G k ins i
 tab:uq (Li G s.now) s.tab v.T
 Fh:s.tab.length<=8
 ES:s.led<=G.nD.length
 es:v.es=(mX G s.led).1
 st:v.st=(mX G s.led).2.1
 ct:v.ct=(mX G s.led).2.2
 ga:v.ga=s.wT.map fun p=>((p.1:Int),(p.2:Int))
 gal:s.wT.length=c.f+1
 gaB: ∀p∈s.wT,p.1<=1000/\p.2<=100000
 run:v.run=s.run
 kY:s.run<=16
 view:v.view=0
 vk:v.vk≠0
 since:0<=v.since/\v.since<=1000000
 start:v.start=s.start
 JM:s.start<=s.now
 stop:v.stopped=false
 cnt:0<=v.c0/\v.c0<=N/\0<=v.c2/\v.c2<=N
 vZ:v.vZ=agI (c.f+1)
 nN: ∀k,k<=c.f-> ∃l,v.nN[k]?=some l/\l.length=17
 nG: ∀(k:Nat) (ins:List Tok.Sl),s.insts[k]?=some ins-> ∃l:List Int,v.nG[k]?=some l/\l.length=17/\ ∀(j:Nat) (sl:Tok.Sl),ins[j]?=some sl->l[j+1]?=some (if sl.told then 1 else 0)
 QZ:v.nN.length=c.f+1
 Qg:v.nG.length=c.f+1
 V13:v.V.length<=13
 xU: ∃np,v.xU.length=np*5/\np<=64
 Yj: ∀x∈v.xU,x.oneCell'=true
section
variable{c:Tok.qM}{G H:mF}{N:Nat}{s:Tok.Nd}{v:ql}
structure xC(G:mF)(K:KS):Prop where
 ex: ∃l,K=G.K++l
theorem xC.le(h:xC G K)(H:G.res.length=G.nD.length):G.Le (G.at K):=⟨rfl,rfl,rfl,⟨[],bJ⟩,⟨[],bJ⟩,H,h.ex⟩
theorem xC.refl(G:mF):xC G G.K:=⟨[],bJ⟩
theorem xC.trans{K':KS}(h:xC G K)(k:xC (G.at K) K'):xC G K':=by obtain⟨a,H⟩:=h.ex;obtain⟨b,c⟩:=k.ex;exact⟨a++b,by rw[c];show K++b=_;rw[H,bW]⟩
theorem xC.sealed(q:Int×List Int):xC G (sealed G.K q):=⟨CJ _ _⟩
theorem xC.mem(h:xC G K){q:Int×List Int}(H:q∈G.K):q∈K/\num K q=num G.K q:=by obtain⟨l,rfl⟩:=h.ex;exact⟨bL _ H,VX H⟩
theorem sU.le{cl:Int}(h:sU G.K cl r)(k:xC G K):sU K cl r:=⟨h.valid,h.ok,h.key,(k.mem h.mem).1,(k.mem h.mem).2.trans h.num,h.small⟩
theorem sS.le(h:sS c G)(k:xC G K):sS c (G.at K):=
 ⟨h.f,h.cl,h.clb,h.len,h.few,fun t H a=>⟨(h.rq t H a).1,(h.rq t H a).2.1,(h.rq t H a).2.2.le k⟩,fun r b=>⟨(h.alt r b).1.le k,(h.alt r b).2⟩,h.ok,h.rs,h.last,h.res⟩
theorem Gl.le(h:Gl G b):Gl (G.at K) b:=⟨h.up,h.two,h.rise,h.one⟩
theorem Pb(h:xC G K)(kind:Int)(k seq:Nat): ∀(l:List (Option LN)) (i:Nat),(∀j b,l[j]?=some (some b)->G.BO kind (i+j) k seq b∈G.K)->(G.at K).zL kind k seq l i=G.zL kind k seq l i
 | [],i,_=>rfl
 |none::l,i,hl=>by rw[mF.zL,mF.zL,Pb h kind k seq l (i+1) fun j b hj=>by have:=hl (j+1) b (mR hj);rwa [show i+1+j=i+(j+1) by omega]]
 |some b::l,i,hl=>by rw[mF.zL,mF.zL,Pb h kind k seq l (i+1) fun j b hj=>by have:=hl (j+1) b (mR hj);rwa [show i+1+j=i+(j+1) by omega]];have:=hl 0 b bJ;rw[Nat.add_zero] at this;show some (num K (G.BO kind i k seq b),G.qR b)::_=_;rw[(h.mem this).2]
theorem afn(h:xC G K)(a: ∀i∈vs,G.BO 5 i k seq b∈G.K):(G.at K).ce k seq b vs=G.ce k seq b vs:=by
 unfold mF.ce
 congr 1
 refine dX fun i H=> ?_;show((i:Int),num K (G.BO 5 i k seq b))=_;rw[(h.mem (a i H)).2];rfl
theorem Ci.le{s:Tok.Sl}(h:Ci c G k j s)(a:xC G K):Ci c (G.at K) k j s:=
 ⟨h.b.le,h.gy,h.col,fun i b H=>⟨(h.pr i b H).1.le,(a.mem (h.pr i b H).2).1⟩,fun i b H=>⟨(h.co i b H).1.le,(a.mem (h.co i b H).2).1⟩,fun b v d=>⟨(h.done b v d).1.le,(h.done b v d).2.1,fun i H=>(a.mem ((h.done b v d).2.2 i H)).1⟩⟩
theorem ZF.le{s:Tok.Sl}{p:uo}(h:ZF G k j s p)(d:Ci c G k j s)(H:xC G K):ZF (G.at K) k j s p:=by
 obtain⟨e,f,g,l,m,n⟩:=h;refine⟨e,f,?_,?_,m,?_⟩
 ·rw[Pb H 4 k (j+1) s.pr 0 fun i b a=>by rw[aO];exact(d.pr i b a).2];exact g
 ·rw[Pb H 5 k (j+1) s.co 0 fun i b a=>by rw[aO];exact(d.co i b a).2];exact l
 rw[n]
 cases o:s.done with
 |none=>rfl
 |some q=>
  obtain⟨b,v⟩:=q;show some (G.ce k (j+1) b v)=some ((G.at K).ce k (j+1) b v);rw[afn H (d.done b v o).2.2]
theorem InR.le{ins:List Tok.Sl}{i:Ba}(h:InR c G k ins i)(a:xC G K):InR c (G.at K) k ins i:=
 ⟨h.vw,h.on,h.l1,h.l2,fun j s e=>by obtain⟨p,b,d,H⟩:=h.at_ j s e;exact⟨p,b,d.le H a,H.le a⟩⟩
theorem Li.MW{now:Nat}(h:Li G now d e):Li (G.at K) now d e:=⟨h.r,h.t,h.nX,h.l,h.ready,h.since,h.le⟩
theorem tO.le(h:tO c G N s v)(b:xC G K):tO c (G.at K) N s v:=
 {h with
  at_:=fun k I d=>by obtain⟨i,H,a⟩:=h.at_ k I d;exact⟨i,H,a.le b⟩
  tab:=h.tab.imp fun _ _ h=>h.MW
  ES:=h.ES
  es:=h.es
  st:=h.st
  ct:=h.ct}
theorem Ew.le{m:TM}(h:Ew c G m):Ew c (G.at K) m:=by
 cases m with
 |req t=>exact h
 |prop s t=>exact h
 |pp s k q b=>exact⟨h.1,h.2.1,h.2.2.1.le,h.2.2.2⟩
 |uf s k q b=>exact⟨h.1,h.2.1,h.2.2.le⟩
 |com s k q b=>exact⟨h.1,h.2.1,h.2.2.le⟩
 |proof s k q b vs=>exact⟨h.1,h.2.1,h.2.2.1.le,h.2.2.2⟩
 |rep s t=>exact h
theorem Ew.upto{m:TM}(h:Ew c G m):upto G.nD.length m:=by
 cases m with
 |req t=>exact h
 |prop s t=>exact h.2
 |pp s k q b=>exact fun t H=>(h.2.2.1.up t H).2
 |uf s k q b=>exact fun t H=>(h.2.2.up t H).2
 |com s k q b=>exact fun t H=>(h.2.2.up t H).2
 |proof s k q b vs=>exact fun t H=>(h.2.2.1.up t H).2
 |rep s t=>exact h.2
theorem vH.le{m:TM}(h:vH c G m)(H:xC G K)(a:G.res.length=G.nD.length):vH c (G.at K) m/\(G.at K).bytes m=G.bytes m:=
 ⟨⟨h.form.le,(H.le a).has h.form.upto h.has⟩,((H.le a).bytes h.form.upto h.has).1⟩
end
end
section
open Tok (TM)
structure uF(c:Tok.qM)(G:mF)(N:Nat)(v:ql)(s':Tok.Nd)(o:Tok.Out)(K':KS)(v':ql):Prop where
 le:xC G K'
 nd:tO c (G.at K') N s' v'
 out:v'.out=v.out++(G.at K').yX c.n o
 msg: ∀p∈o,vH c (G.at K') p.2/\p.1<c.n+2
 len:K'.length<=G.K.length+o.length
structure Room(G:mF)(v:ql)(o:Tok.Out):Prop where
 K:G.K.length+o.length<=900000
 out:v.out.length+o.length<=3000
abbrev who(c:Tok.qM)(id:Nat):Who:=⟨c.f,c.n,id⟩
section
variable{c:Tok.qM}{G:mF}{N:Nat}{s s' s1 s2:Tok.Nd}{v v' v1 v2:ql}{o o1 o2:Tok.Out}{K1 K2:KS}{k j seq id:Nat}{ins:List Tok.Sl}{sl sl':Tok.Sl}{i:Ba}{p p':uo}
theorem uF.refl(h:tO c G N s v):uF c G N v s [] G.K v:=⟨xC.refl G,h,by simp[mF.yX],fun p H=>by simp at H,bJ⟩
theorem uF.then(a:sS c G)(h:uF c G N v s1 o1 K1 v1)(k:uF c (G.at K1) N v1 s2 o2 K2 v2):uF c G N v s2 (o1++o2) K2 v2:=by
 have e:=fun p H=>(h.msg p H).1.le k.le a.len;refine⟨h.le.trans k.le,k.nd,?_,fun p H=> ?_,?_⟩
 ·rw[k.out,h.out,bW]
  congr 1
  simp only[mF.yX,bR]
  congr 1
  exact dX fun p H=>by rw[(e p H).2]
 ·rcases aQ.1 H with H|H
  ·exact⟨(e p H).1,(h.msg p H).2⟩
  exact k.msg p H
 have:=h.len;have:=k.len;simp only[av] at*;omega
theorem Room.left(h:Room G v (o1++o2)):Room G v o1:=⟨by have:=h.K;simp only[av] at this;omega,by have:=h.out;simp only[av] at this;omega⟩
theorem Room.right(h:Room G v (o1++o2))(k:uF c G N v s1 o1 K1 v1):Room (G.at K1) v1 o2:=by have a:=h.K;have b:=h.out;have e:=k.len;simp only[av] at a b;refine⟨by show K1.length+_<=_;omega,?_⟩;rw[k.out,av];simp only[mF.yX,aT];omega
theorem yC(K:KS)(q:Int×List Int):0<=num K q/\num K q<=K.length:=by
 unfold num;split
 ·rename_i h
  have:K.idxOf q<K.length:=jF h;omega
 omega
theorem sS.sel(h:sS c G)(a:G.T t):sU G.K 2 (G.rq t):=by
 by_cases b:t=0
 ·subst b
  obtain⟨r,H⟩:=jW.1 (a.1.resolve_left aR);have:=(h.alt r H).1;show sU G.K 2 (G.alt.getD rq0);rw[H];exact this
 exact(h.rq t aR a.2).2.2
theorem mF.yZ(h:sS c G)(H:Gl G b): ∀r∈G.qR b,sU G.K 2 r:=fun r a=>by obtain⟨t,d,rfl⟩:=bM.1 a;exact h.sel (H.up t d)
theorem qJ{z:Int}(h:0<=z)(k:z<=1000000):qh z:=⟨h,aR⟩
theorem ajR(h:vD c)(e:sS c G)(j:G.K.length<=900000)(a:Plc c k seq)(H:Gl G b)(d:Vs c.n c.q vs):Et (G.ce k seq b vs):=by
 have:=a.k;have:=a.most;have:=h.f4;have:=h.n;have:=h.q;refine⟨qJ (by show(0:Int)<=0;omega) (by show(0:Int)<=_;omega),qJ (by show(0:Int)<=(k:Int);omega) (by show(k:Int)<=_;omega),qJ (by show(0:Int)<=(seq:Int);omega) (by show(seq:Int)<=_;omega),fun r g=>(mF.yZ e H r g).ok,fun x hx=> ?_,?_,?_⟩
 ·obtain⟨i,f,rfl⟩:=bM.1 hx
  have:=d.lt i f;have:=yC G.K (G.BO 5 i k seq b);exact⟨qJ (by show(0:Int)<=(i:Int);omega) (by show(i:Int)<=_;omega),qJ this.1 (by show num _ _<=_;omega)⟩
 ·show(b.map _).length<=_
  have:=H.two;rw[aT];omega
 show(vs.map _).length<=_;have:=d.len;rw[aT];omega
theorem abP(h:sS c G)(t:Nat): -549755813887<=G.res.getD t 0/\G.res.getD t 0<=549755813887:=by
 rw[bE]
 cases e:G.res[t]? with
 |none=>exact⟨aV,aV⟩
 |some z=>exact h.res z (ak e)
theorem acE(H:vD c)(e:sS c G){kind:Int}(d:0<=kind)(g:kind<=10)(i:src<c.n)(a:Plc c k seq)(h:Gl G b):Ev (G.wL kind src k seq b):=by have:=a.k;have:=a.most;have:=H.f4;have:=H.n;refine⟨qJ d (by show kind<=_;omega),qJ (by show(0:Int)<=(src:Int);omega) (by show(src:Int)<=_;omega),qJ (by show(0:Int)<=0;omega) (by show(0:Int)<=_;omega),qJ (by show(0:Int)<=(k:Int);omega) (by show(k:Int)<=_;omega),qJ (by show(0:Int)<=(seq:Int);omega) (by show(seq:Int)<=_;omega),⟨by show(_:Int)<=0;omega,by show(0:Int)<_;omega⟩,fun r f=>(mF.yZ e h r f).ok,fun x hx=>by simp[mF.wL] at hx,fun x hx=>by simp[mF.wL] at hx,?_,by simp[mF.wL],by simp[mF.wL]⟩;show(b.map _).length<=_;have:=h.two;rw[aT];omega
theorem MB(d:vD c)(H:sS c G)(j:G.K.length<=900000){m:TM}(h:Ew c G m):Ev (G.ms m)/\(dF (G.ms m)).length<=65000:=by
 have N:=d.f4;have p:=d.n;have nq:=d.q;have F:=H.few;have i:=H.cl;have C:=H.clb;have z: ∀n:Nat,n<=1000000->qh (n:Int):=fun n l=>qJ aR aR;have s:wP 0:=⟨aR,aR⟩
 cases m with
 |req t=>
  refine⟨⟨z 1 aR,qJ (by show(0:Int)<=100+(G.cl:Int);omega) (by show 100+(G.cl:Int)<=_;omega),z 0 aR,z 0 aR,z 0 aR,s,fun r a=> ?_,fun x hx=>by simp[mF.ms] at hx,fun x hx=>by simp[mF.ms] at hx,by simp[mF.ms],by simp[mF.ms],by simp[mF.ms]⟩,wQ (by simp[mF.ms]) (by simp[mF.ms]) (by simp[mF.ms]) (by simp[mF.ms])⟩;simp only[mF.ms,au] at a;subst a;exact(H.rq t h.1 h.2).2.2.ok
 |prop src t=>
  have:=h.1;refine⟨⟨z 2 aR,z src aR,z 0 aR,z 0 aR,z 0 aR,s,fun r a=> ?_,fun x hx=>by simp[mF.ms] at hx,fun x hx=>by simp[mF.ms] at hx,by simp[mF.ms],by simp[mF.ms],by simp[mF.ms]⟩,wQ (by simp[mF.ms]) (by simp[mF.ms]) (by simp[mF.ms]) (by simp[mF.ms])⟩;simp only[mF.ms,au] at a;subst a;exact(H.rq t h.2.1 h.2.2).2.2.ok
 |pp src k seq b=>
  obtain⟨rfl,f,e,_⟩:=h;have:=f.k;have two:=e.two;exact⟨acE d H (kind:=3) aR aR (src:=src) aR f e,wQ (by simp[mF.ms,mF.qR];omega) (by simp[mF.ms]) (by simp[mF.ms]) (by simp[mF.ms])⟩
 |uf src k seq b=>
  have two:=h.2.2.two;exact⟨acE d H (kind:=4) aR aR h.1 h.2.1 h.2.2,wQ (by simp[mF.ms,mF.wL,mF.qR];omega) (by simp[mF.ms,mF.wL]) (by simp[mF.ms,mF.wL]) (by simp[mF.ms,mF.wL])⟩
 |com src k seq b=>
  have two:=h.2.2.two;exact⟨acE d H (kind:=5) aR aR h.1 h.2.1 h.2.2,wQ (by simp[mF.ms,mF.wL,mF.qR];omega) (by simp[mF.ms,mF.wL]) (by simp[mF.ms,mF.wL]) (by simp[mF.ms,mF.wL])⟩
 |proof src k seq b vs=>
  obtain⟨o,f,e,g⟩:=h;have two:=e.two;have L:=g.len;refine⟨⟨z 9 aR,z src aR,z 0 aR,z 0 aR,z 0 aR,s,fun r a=>by simp[mF.ms] at a,fun x hx=>by simp[mF.ms] at hx,fun x hx=> ?_,by simp[mF.ms],by simp[mF.ms],by simp[mF.ms]⟩,wQ (by simp[mF.ms]) (by simp[mF.ms]) (by simp[mF.ms]) fun x hx=> ?_⟩
  ·simp only[mF.ms,au] at hx
   subst hx;exact ajR d H j f e g
  simp only[mF.ms,au] at hx;subst hx;simp only[mF.ce,mF.qR,aT];omega
 |rep src t=>
  have:=h.1;have:=h.2.2;have r:=abP H (t -1);exact⟨⟨z 10 aR,z src aR,z 0 aR,z G.cl aR,z t aR,⟨by show(_:Int)<=G.res.getD (t -1) 0;omega,by show G.res.getD (t -1) 0<_;omega⟩,fun r a=>by simp[mF.ms] at a,fun x hx=>by simp[mF.ms] at hx,fun x hx=>by simp[mF.ms] at hx,by simp[mF.ms],by simp[mF.ms],by simp[mF.ms]⟩,wQ (by simp[mF.ms]) (by simp[mF.ms]) (by simp[mF.ms]) (by simp[mF.ms])⟩
theorem CO(n self:Nat)(m:TM): ∀k,Tok.sendAll n self m k=((List.range k).filter fun i=>decide (i≠self)).map fun i=>(i,m)
 |0=>rfl
 |k+1=>by
  have ih:=CO n self m k;show(if Nat.beq k self then Tok.sendAll n self m k else Tok.sendAll n self m k++ [(k,m)])=_;rw[gV,fV,bR,ih];by_cases e:k=self
  ·subst e
   simp
  have:Nat.beq k self=false:=by rw[jT];exact fun h=>e (bO h)
  simp[this,e]
def Ie(G:mF):TM->Prop
 | .proof src k seq b vs=> ∀i∈vs,G.BO 5 i k seq b∈G.K
 |_=>True
theorem afF{m:TM}(h:Ie G m)(H:xC G K):(G.at K).ms m=G.ms m:=by
 cases m with
 |proof src k seq b vs=>
  show Ms.mk _ _ _ _ _ _ _ _ [(G.at K).ce k seq b vs]=Ms.mk _ _ _ _ _ _ _ _ [G.ce k seq b vs];rw[afn H h]
 |_=>rfl
theorem agV{m:TM}(h:Ie G m)(a:xC G K)(H:G.key m∈K):(G.at K).has m:=by
 have e:(G.at K).key m=G.key m:=by unfold mF.key;rw[afF h a]
 have H:(G.at K).key m∈(G.at K).K:=by rw[e];exact H
 cases m with
 |proof src k seq b vs=>exact⟨H,fun i c=>(a.mem (h i c)).1⟩
 |_=>exact H
theorem ze(K:KS)(q:Int×List Int):(sealed K q).length<=K.length+1:=by unfold sealed;split<;>simp
theorem af0(n:vD c)(k:sS c G)(h:tO c G N s v){m:TM}(g:Ew c G m)(e:Ie G m)(l:LN)(f: ∀d∈l,d<c.n+2)(a:l≠ [])(V:ql)(j:V={v with out:=v.out++(G.at (sealed G.K (G.key m))).yX c.n (l.map fun d=>(d,m))}):
  uF c G N v s (l.map fun d=>(d,m)) (sealed G.K (G.key m)) V:=by
 have H:xC G (sealed G.K (G.key m)):=xC.sealed _;subst j;refine⟨H,?_,rfl,fun p i=> ?_,?_⟩
 ·have:=h.le H
  exact{this with}
 ·obtain⟨d,b,rfl⟩:=bM.1 i
  exact⟨⟨g.le,agV e H (zf _ _)⟩,f d b⟩
 have:=ze G.K (G.key m);have:1<=l.length:=by cases l with
  |nil=>exact absurd rfl a
  |cons=>simp
 rw[aT];omega
theorem aes{m:TM}{l:LN}{bs:LI}(a: ∀d∈l,d<c.n)(h:(G.at K).bytes m=bs):(G.at K).yX c.n (l.map fun d=>(d,m))=l.map fun d:Nat=>((d:Int),bs):=by unfold mF.yX;rw[gu];refine dX fun d H=> ?_;show(zI c.n d,(G.at K).bytes m)=_;rw[h,zI,if_pos (a d H)]
theorem ab5(E:Who)(m:Ms)(S:KN):yI E m S=(fun M:Ms=>(must (Lh S.1 S.2 M)).map fun _=>((sealed S.1 (M.sender,dF M),{S.2 with out:=S.2.out++(others E.n E.id).map fun k:Nat=>((k:Int),FY (sealed S.1 (M.sender,dF M)) M)}),num (sealed S.1 (M.sender,dF M)) (M.sender,dF M))) {m with sender:=(E.id:Int)}:=rfl
theorem Ed(i:vD c)(l:sS c G)(h:tO c G N s v)(w:id<c.n)(M:Ms)(m:TM)(t:({M with sender:=(id:Int)}:Ms)=G.ms m)(o:Ew c G m)(n:Ie G m)(q:Room G v (Tok.sendAll c.n id m c.n)):
  ∃v',yI (who c id) M (G.K,v)=some ((sealed G.K (G.key m),v'),num (sealed G.K (G.key m)) (G.key m))/\(∃r,v'={v with out:=r})/\uF c G N v s (Tok.sendAll c.n id m c.n) (sealed G.K (G.key m)) v':=by
 have y:=i.n;have x:=i.f1;have e:=CO c.n id m c.n;have a: ∀d∈others c.n id,d<c.n:=fun d j=>by unfold others at j;exact fE.1 (kI.1 j).1
 have b:others c.n id≠ []:=fun e=>by
  have k:(if id=0 then 1 else 0)∈others c.n id:=by unfold others;refine kI.2 ⟨fE.2 ?_,decide_eq_true ?_⟩<;>split<;>omega
  rw[e] at k;simp at k
 have p:1<=(others c.n id).length:=by
  cases e:others c.n id with
  |nil=>exact absurd e b
  |cons=>simp
 have f:=q.K;have g:=q.out;rw[e,aT] at f g;change G.K.length+(others c.n id).length<=_ at f;change v.out.length+(others c.n id).length<=_ at g;have O:=MB i l aR o;have H:({M with sender:=((who c id).id:Int)}:Ms)=G.ms m:=t;have u:(G.at (sealed G.K (G.key m))).bytes m=FY (sealed G.K (G.key m)) (G.ms m):=by unfold mF.bytes mF.key;rw[afF n (xC.sealed _)];rfl
 refine⟨{v with out:=v.out++(G.at (sealed G.K (G.key m))).yX c.n ((others c.n id).map fun d=>(d,m))},?_,⟨_,rfl⟩,?_⟩
 ·rw[ab5,H,aes a u]
  show(must (Lh G.K v (G.ms m))).map _=_;rw[nQ (⟨O.1,O.2,by show G.K.length<_;omega,by show v.out.length<=_;omega⟩:Lh G.K v (G.ms m))];rfl
 rw[e];exact af0 i l h o n _ (fun d j=>by have:=a d j;omega) b _ rfl
theorem Cq(h:Tok.tV s k seq=some sl): ∃j ins,seq=j+1/\s.insts[k]?=some ins/\ins[j]?=some sl:=by
 unfold Tok.tV at h
 cases seq with
 |zero=>cases h
 |succ j=>
  simp only[oV] at h
  cases e:s.insts[k]? with
  |none=>rw[e] at h;cases h
  |some ins=>rw[e] at h;exact⟨j,ins,rfl,rfl,h⟩
theorem JH(h:s.insts[k]?=some ins):Tok.su s k (j+1) sl'={s with insts:=s.insts.set k (ins.set j sl')}:=by unfold Tok.su;simp only[oV,qD,h,fF]
theorem zW(h:tO c G N s v)(b:s.insts[k]?=some ins)(a:ins[j]?=some sl): ∃i p,v.pl k j=some (i,p)/\i.on=true/\i.vw=0/\ZF G k j sl p/\Ci c G k j sl/\j<16/\k<=c.f:=by
 obtain⟨i,f,H⟩:=h.at_ k ins b;obtain⟨p,g,d,e⟩:=H.at_ j sl a;refine⟨i,p,?_,H.on,H.vw,d,e,?_,?_⟩
 ·simp[ql.pl,f,g]
 ·have:=(ah.1 a).1
  rw[H.l1] at this;exact this
 have:=(ah.1 b).1;rw[h.il] at this;omega
theorem ahG(v:ql)(k j:Nat)(p:uo)(q:Nat):(v.put k j p).is[q]?=v.is[q]?.map fun i=>if k=q then{i with ps:=i.ps.set j p} else i:=by
 show(v.is.modify k _)[q]?=_;rw[eY]
 cases v.is[q]? with
 |none=>rfl
 |some a=>by_cases e:k=q<;>simp[e]
theorem afd(h:tO c G N s v)(g:s.insts[k]?=some ins)(u:ins[j]?=some sl)(n:ZF G k j sl' p')(o:Ci c G k j sl')(C:List LI)(w:C.length=c.f+1)(t: ∀(q:Nat) (ins':List Tok.Sl),(s.insts.set k (ins.set j sl'))[q]?=some ins'-> ∃l:List Int,C[q]?=some l/\l.length=17/\ ∀(r:Nat) (sr:Tok.Sl),ins'[r]?=some sr->l[r+1]?=some (if sr.told then 1 else 0)):tO c G N (Tok.su s k (j+1) sl') {v.put k j p' with nG:=C}:=by
 rw[JH g];have m:=(ah.1 g).1;have d:=(ah.1 u).1;exact{h with
  nG:=t
  Qg:=w
  il:=by show(s.insts.set k _).length=_;rw[bG];exact h.il
  vl:=by show(v.is.modify k _).length=_;rw[iV];exact h.vl
  at_:=fun q ins' a=>by
   replace a:(s.insts.set k (ins.set j sl'))[q]?=some ins':=a;rw[ahG];by_cases e:k=q
   ·subst e
    rw[aL m] at a;injection a with a;subst a;obtain⟨i,f,H⟩:=h.at_ k ins g;refine⟨{i with ps:=i.ps.set j p'},by simp[f],H.vw,H.on,by rw[bG];exact H.l1,by show(i.ps.set j p').length=16;rw[bG];exact H.l2,fun r sr b=> ?_⟩;show∃p,(i.ps.set j p')[r]?=some p/\_;by_cases e:j=r
    ·subst e
     rw[aL d] at b;injection b with b;subst b;exact⟨p',by rw[aL];rw[H.l2,<-H.l1];exact d,n,o⟩
    rw[aX e] at b|-;exact H.at_ r sr b
   rw[aX e] at a;obtain⟨i,f,H⟩:=h.at_ q ins' a;exact⟨i,by simp[f,e],H⟩}
theorem Bq(h:tO c G N s v)(d:s.insts[k]?=some ins)(b:ins[j]?=some sl)(f:ZF G k j sl' p')(g:Ci c G k j sl')(m:sl'.told=sl.told):tO c G N (Tok.su s k (j+1) sl') (v.put k j p'):=
 afd h d b f g v.nG h.Qg fun q i H=>by
  by_cases e:k=q
  ·subst e
   rw[aL (ah.1 d).1] at H;injection H with H;subst H;obtain⟨l,n,o,L⟩:=h.nG k ins d;refine⟨l,n,o,fun r S a=> ?_⟩;by_cases e:j=r
   ·subst e
    rw[aL (ah.1 b).1] at a;injection a with a;rw[<-a,m];exact L j sl b
   rw[aX e] at a;exact L r S a
  rw[aX e] at H;exact h.nG q i H
theorem ahH(h:tO c G N s v)(d:s.insts[k]?=some ins)(b:ins[j]?=some sl)(m:ZF G k j sl' p')(n:Ci c G k j sl')(o:sl'.told=true):tO c G N (Tok.su s k (j+1) sl') {v.put k j p' with nG:=v.nG.modify k fun l=>l.set (j+1) (v.view+1)}:=
 afd h d b m n _ (by rw[iV];exact h.Qg) fun q i H=>by
  by_cases e:k=q
  ·subst e
   rw[aL (ah.1 d).1] at H;injection H with H;subst H;obtain⟨l,L,f,g⟩:=h.nG k ins d;refine⟨l.set (j+1) (v.view+1),by rw[eY,L];simp,by rw[bG];exact f,fun r S a=> ?_⟩;by_cases e:j=r
   ·subst e
    rw[aL (ah.1 b).1] at a;injection a with a;rw[aL (ah.1 (g j sl b)).1,<-a,o,h.view];rfl
   rw[aX e] at a;rw[aX aR];exact g r S a
  rw[aX e] at H;obtain⟨l,L,f⟩:=h.nG q i H;exact⟨l,by rw[eY,L];simp[e],f⟩
end
end
section
open Tok (TM)
section
variable{c:Tok.qM}{G:mF}{N:Nat}{s s' s1 s2:Tok.Nd}{v v' v1 v2:ql}{o o1 o2:Tok.Out}{K1 K2:KS}{k j seq id:Nat}{ins:List Tok.Sl}{sl sl':Tok.Sl}{i:Ba}{p p':uo}
theorem Sb (D:vD c) (W:sS c G) (h:tO c G N s v) (r:id<c.n) (kind:Int) (m:TM) (b:LN) (A:m=(if kind=4 then TM.uf id k (j+1) b else TM.com id k (j+1) b)) (n:kind=4\/kind=5) (x:Gl G b)
  (Q:s.insts[k]?=some ins) (M:ins[j]?=some sl) (hr:Room G v (Tok.sendAll c.n id m c.n)) (u:if kind=4 then sl.pr[id]?=some none else sl.co[id]?=some none)
  (l:sl'=if kind=4 then{sl with pr:=sl.pr.set id (some b)} else{sl with co:=sl.co.set id (some b)}):
  ∃K v',vL (who c id) kind k j (G.qR b) (G.K,v)=some (K,v')/\uF c G N v (Tok.su s k (j+1) sl') (Tok.sendAll c.n id m c.n) K v':=by
 obtain⟨i,p,hp,y,a0,C,L,O,E⟩:=zW h Q M;have z:Plc c k (j+1):=⟨E,aR,aR⟩;have X:({(⟨kind,0,v.view,k,j+1,0,G.qR b,[],[]⟩:Ms) with sender:=(id:Int)}:Ms)=G.ms m:=by
  rw[A,h.view];rcases n with rfl|rfl
  ·rw[if_pos rfl]
   rfl
  rw[if_neg aV];rfl
 have Z:Ew c G m:=by
  rw[A];split
  ·exact⟨r,z,x⟩
  exact⟨r,z,x⟩
 have hi:Ie G m:=by rw[A];split<;>trivial
 have o:G.key m=G.BO kind id k (j+1) b:=by
  unfold mF.key;rw[A];rcases n with rfl|rfl
  ·rw[if_pos rfl]
   rfl
  rw[if_neg aV];rfl
 obtain⟨V,hs,⟨O0,Y⟩,S⟩:=Ed D W h r _ m X Z hi hr;have I:V.pl k j=some (i,p):=by rw[Y];exact hp
 have w:xC G (sealed G.K (G.key m)):=S.le;have H:=C.le L w;have d:=L.le w;have b2:=x.two;have J:(G.qR b).length<=4096:=by unfold mF.qR;rw[aT];omega
 have R:id<13:=by have:=D.n;have:=D.f4;omega
 have F: ∀P:uo,ZF (G.at (sealed G.K (G.key m))) k j sl' P->Ci c (G.at (sealed G.K (G.key m))) k j sl'->uF c G N v (Tok.su s k (j+1) sl') (Tok.sendAll c.n id m c.n) (sealed G.K (G.key m)) (V.put k j P):=fun P T U=>
  ⟨S.le,Bq S.nd Q M T U (by rw[l];split<;>rfl),S.out,S.msg,S.len⟩
 have q:(G.at (sealed G.K (G.key m))).BO kind id k (j+1) b∈(G.at (sealed G.K (G.key m))).K:=by show G.BO kind id k (j+1) b∈sealed G.K (G.key m);rw[o];exact zf _ _
 unfold vL;rw[show(⟨kind,0,((G.K,v):KN).2.view,(k:Int),(j:Int)+1,0,G.qR b,[],[]⟩:Ms)=⟨kind,0,v.view,k,(j:Int)+1,0,G.qR b,[],[]⟩ from rfl,hs];simp only[Option.bind_some];rw[I];simp only[Option.bind_some];rcases n with rfl|rfl
 ·rw[if_pos rfl] at u l|-
  have t:p.pr[id]?=some none:=by rw[C.2.2.1];have:=El G 4 k (j+1) sl.pr 0 id none (by rw[oV];exact u);simpa using this
  have g:id<sl.pr.length:=(ah.1 u).1;rw[nQ ⟨y,t,J⟩];refine⟨_,_,rfl,?_⟩;rw[l];rw[l] at F;refine F _ ⟨H.1,H.2.1,?_,H.2.2.2.1,H.2.2.2.2.1,H.2.2.2.2.2⟩ ⟨d.b,by show(sl.pr.set id _).length=_;rw[bG];exact d.gy,d.col,fun a B f=> ?_,d.co,d.done⟩
  ·show p.pr.set id _=_
   have:=En (G.at (sealed G.K (G.key m))) 4 k (j+1) b sl.pr 0 id g;rw[qD,aO] at this;rw[this,<-H.2.2.1,o];rfl
  replace f:(sl.pr.set id (some b))[a]?=some (some B):=f;by_cases e:id=a
  ·subst e
   rw[aL g] at f;injection f with f;injection f with f;rw[<-f];exact⟨x.le,q⟩
  rw[aX e] at f;exact d.pr a B f
 rw[if_neg aV] at u l|-;have t:p.co[id]?=some none:=by rw[C.2.2.2.1];have:=El G 5 k (j+1) sl.co 0 id none (by rw[oV];exact u);simpa using this
 have g:id<sl.co.length:=(ah.1 u).1;rw[nQ ⟨rfl,y,t,J⟩];refine⟨_,_,rfl,?_⟩;rw[l];rw[l] at F;refine F _ ⟨H.1,H.2.1,H.2.2.1,?_,H.2.2.2.2.1,H.2.2.2.2.2⟩ ⟨d.b,d.gy,by show(sl.co.set id _).length=_;rw[bG];exact d.col,d.pr,fun a B f=> ?_,d.done⟩
 ·show p.co.set id _=_
  have:=En (G.at (sealed G.K (G.key m))) 5 k (j+1) b sl.co 0 id g;rw[qD,aO] at this;rw[this,<-H.2.2.2.1,o];rfl
 replace f:(sl.co.set id (some b))[a]?=some (some B):=f;by_cases e:id=a
 ·subst e
  rw[aL g] at f;injection f with f;injection f with f;rw[<-f];exact⟨x.le,q⟩
 rw[aX e] at f;exact d.co a B f
theorem sS.inj(h:sS c G):G.Inj:=by
 have key: ∀t,1<=t->t<=G.nD.length->G.T 0->G.rq 0≠G.rq t:=fun t i j g e=>by
  obtain⟨r,f⟩:=jW.1 (g.1.resolve_left aR);refine(h.alt r f).2 ?_;have:G.rq 0=r:=by show G.alt.getD rq0=r;rw[f];rfl
  rw[<-this,e,mF.WT G i,bE,aj aR];exact bY _
 intro a b H d e;by_cases A:a=0
 ·subst A
  by_cases B:b=0
  ·exact B.symm
  exact absurd e (key b aR d.2 H)
 by_cases B:b=0
 ·subst B
  exact absurd e.symm (key a aR H.2 d)
 have:=(h.rq a aR H.2).2.1;rw[e,(h.rq b aR d.2).2.1] at this;omega
theorem Ci.upv(h:Ci c G k j sl):UpV G sl.pr/\UpV G sl.co:=by
 refine⟨fun b H=> ?_,fun b H=> ?_⟩
 ·obtain⟨i,a⟩:=bT.1 H
  exact(h.pr i b a).1.up
 obtain⟨i,a⟩:=bT.1 H;exact(h.co i b a).1.up
theorem Ro(h:s.insts[k]?=some ins)(a:ins[j]?=some sl)(x y:Tok.Sl):Tok.su (Tok.su s k (j+1) x) k (j+1) y=Tok.su s k (j+1) y:=by have H:=(ah.1 h).1;rw[JH h,JH (ins:=ins.set j x) (by rw[aL H]),JH h];simp
end
end
section
open Tok (TM)
section
variable{c:Tok.qM}{G:mF}{N:Nat}{s s' s1 s2:Tok.Nd}{v v' v1 v2:ql}{o o1 o2:Tok.Out}{K1 K2:KS}{k j seq id now:Nat}{ins:List Tok.Sl}{sl sl':Tok.Sl}{i:Ba}{p p':uo}
theorem uq.len{α β:Type}{R:α->β->Prop}: ∀{l:List α} {m:List β},uq R l m->l.length=m.length
 |_,_,.nil=>rfl
 |_,_,.cons _ t=>by simp[t.len]
theorem uq.filter{α β:Type}{R:α->β->Prop}{f:α->Bool}{g:β->Bool}(hfg: ∀a b,R a b->f a=g b): ∀{l:List α} {m:List β},uq R l m->uq R (l.filter f) (m.filter g)
 |_,_,.nil=> .nil
 |_,_,.cons (a:=a) (b:=b) h t=>by
  have ih:=t.filter hfg;rw[kg,kg,hfg a b h];split
  ·exact .cons h ih
  exact ih
theorem ED(hG:sS c G)(h1:1<=t)(h2:t<=G.nD.length): ∀{tab:List Tok.Td} {T:List oO} (k0:Nat),uq (Li G now) tab T->
  (Tok.Pn tab t=some none->Xp (G.rq t) T k0=some (k0+T.length,false))/\(∀d,Tok.Pn tab t=some (some d)-> ∃i e,Xp (G.rq t) T k0=some (k0+i,true)/\tab[i]?=some d/\T[i]?=some e/\Li G now d e/\d.t=t)
 |_,_,k0,.nil=>⟨fun _=>rfl,fun d h=>by simp[Tok.Pn] at h⟩
 |_,_,k0,.cons (a:=a) (b:=b) (l:=l) (m:=m) hd tl=>by
  have ih:=ED hG h1 h2 (k0+1) tl;have ra:=hG.rq a.t hd.t.1 hd.t.2;have rt:=hG.rq t h1 h2;have e0:Tok.Pn (a::l) t=if Nat.beq a.t t then some (some a) else if Nat.blt a.t t then Tok.Pn l t else none:=rfl;rw[e0,Xp,hd.r];by_cases e:a.t=t
  ·subst e
   rw[if_pos (lM a.t),if_pos rfl];refine⟨fun h=>(by cases h),fun d h=> ?_⟩;injection h with h;injection h with h;subst h;exact⟨0,b,rfl,rfl,rfl,hd,rfl⟩
  have nb: ¬Nat.beq a.t t=true:=fun h=>e (bO h);have ne: ¬G.rq a.t=G.rq t:=fun h=>e (hG.inj _ _ ⟨.inl hd.t.1,hd.t.2⟩ ⟨.inl h1,h2⟩ h);rw[if_neg nb,if_neg ne];by_cases lt:a.t<t
  ·have:Nat.blt a.t t=true:=by simpa[iA] using lt
   rw[if_pos this,if_pos (EJ (by rw[ra.1,rt.1]) (by rw[ra.2.1,rt.2.1];omega))];refine⟨fun h=>by rw[ih.1 h,List.length_cons];congr 2;omega,fun d h=> ?_⟩;obtain⟨i,e,h1,h2,h3,h4,h5⟩:=ih.2 d h;exact⟨i+1,e,by rw[h1];congr 2;omega,h2,h3,h4,h5⟩
  have: ¬Nat.blt a.t t=true:=by simpa[iA] using lt
  rw[if_neg this];exact⟨fun h=>(by cases h),fun d h=>(by cases h)⟩
theorem aaz(g:List (Nat×Nat))(k a b:Nat):(g.set k (a,b)).map (fun p=>((p.1:Int),(p.2:Int)))=(g.map fun p=>((p.1:Int),(p.2:Int))).set k ((a:Int),(b:Int)):=by rw[eT]
theorem Mc(hc:vD c)(hG:sS c G){tab:List Tok.Td}{T:List oO}(hT:uq (Li G now) tab T)(Oc:now<=1000)(hk:k<=c.f): ∀(b:LN) (g g':List (Nat×Nat)),(∀t∈b,1<=t/\t<=G.nD.length)->g.length=c.f+1->(∀p∈g,p.1<=1000/\p.2<=100000)->Tok.yR tab now k b g=some g'->
  wu k now T (G.qR b) (g.map fun p=>((p.1:Int),(p.2:Int)))=some (g'.map fun p=>((p.1:Int),(p.2:Int)))/\g'.length=c.f+1/\ ∀p∈g',p.1<=1000/\p.2<=100000
 | [],g,g',_,hl,hb,h=>by simp only[Tok.yR,aD] at h;subst h;exact⟨rfl,hl,hb⟩
 |t::b,g,g',hu,hl,hb,h=>by
  have ht:=hu t bJ;have A:=ED hG ht.1 ht.2 0 hT;have ih:=fun g1=>Mc hc hG hT Oc hk b g1 g' (fun x hx=>hu x (by simp[hx]));rw[Tok.yR] at h;show wu k now T (G.rq t::G.qR b) _=_/\_;rw[wu];unfold AA
  cases ha:Tok.Pn tab t with
  |none=>rw[ha] at h;cases h
  |some od=>
   cases od with
   |none=>
    rw[ha] at h;rw[A.1 ha];exact ih g hl hb h
   |some d=>
    rw[ha] at h;obtain⟨i,e,e1,e2,e3,e4,e5⟩:=A.2 d ha;rw[e1];simp only[Option.map_some,aO,if_true,e3,e4.ready,Option.bind_some] at h|-;by_cases hr:d.ready=true
    ·rw[if_pos hr] at h
     rw[if_pos hr]
     cases hg:Tok.agD g k (now -d.since) with
     |none=>rw[hg] at h;cases h
     |some g1=>
      rw[hg] at h;replace h:Tok.yR tab now k b g1=some g':=h;unfold Tok.agD at hg;rw[oV] at hg
      cases hq:g[k]? with
      |none=>rw[hq] at hg;cases hg
      |some q=>
       obtain⟨a,z⟩:=q;rw[hq] at hg;simp only at hg;split at hg
       ·rename_i hcond
        simp only[bX,Nat.ble_eq] at hcond;injection hg with hg;rw[qD] at hg;subst hg;have hle:=e4.le;have kl:k<g.length:=by rw[hl];omega
        have hcast:(now:Int) -e.since=((now -d.since:Nat):Int):=by rw[e4.since];omega
        simp only[];rw[show must (qX ((now:Int) -e.since)/\Roomy (g.map fun p=>((p.1:Int),(p.2:Int)))/\(g.map fun p=>((p.1:Int),(p.2:Int))).length<=5/\qX (k:Int))=some () from nQ ⟨by rw[hcast];exact⟨aR,aR⟩,fun z hz=>by obtain⟨q,hq,rfl⟩:=bM.1 hz;have:=hb q hq;exact⟨by show(0:Int)<=q.1;omega,by show(q.1:Int)<=_;omega,by show(0:Int)<=q.2;omega,by show(q.2:Int)<=_;omega⟩,by rw[aT,hl];have:=hc.f4;omega,⟨aR,by have:=hc.f4;omega⟩⟩]
        simp only[Option.bind_some];have hadd:Xz (g.map fun p=>((p.1:Int),(p.2:Int))) k ((now:Int) -e.since)=(g.set k (a+1,z+(now -d.since))).map fun p=>((p.1:Int),(p.2:Int)):=by
         have hb1:PU (g.map fun p=>((p.1:Int),(p.2:Int))) k ((now:Int) -e.since)=true:=by unfold PU VU;rw[aT,hcast];simp only[bX,decide_eq_true_eq];omega
         unfold Xz;rw[if_pos hb1,Int.toNat_natCast,aaz,bE,aS,hq,hcast];simp
        rw[hadd];refine ih _ (by rw[bG];exact hl) (fun q hq=> ?_) h;rcases cB hq with hq|rfl
        ·exact hb q hq
        exact⟨hcond.1,hcond.2⟩
       cases hg
    rw[if_neg hr] at h;rw[if_neg hr];exact ih g hl hb h
theorem Dv(b:sS c G)(H:1<=t)(a:t<=G.nD.length):mX G t=((mX G (t -1)).1++ [(G.rq t,G.res.getD (t -1) 0)],yD (mX G (t -1)).2.1 (G.rq t).2.2.1 (G.rq t).2.2.2.1 (G.rq t).2.2.2.2.1,Aw (mX G (t -1)).2.2 (G.rq t).1 (G.rq t).2.1 (G.res.getD (t -1) 0)):=by
 have d:t -1<G.nD.length:=aR;have e:G.nD.take t=G.nD.take (t -1)++ [G.rq t]:=by
  have f:G.rq t=G.nD[t -1]:=by rw[mF.WT G H,bE,aj d];rfl
  have E:=fM (l:=G.nD) (i:=t -1);rw[show t -1+1=t by omega,aj d] at E;rw[f,E];rfl
 have h:mX G t=qg (mX G (t -1)) (G.rq t):=by unfold mX qL;rw[e,jR];rfl
 rw[h,qg,if_pos (b.ok t H a),b.rs t H a]
theorem VO(hG:sS c G): ∀k,k<=G.nD.length->(mX G k).1.length=k
 |0,_=>rfl
 |k+1,h=>by rw[Dv hG aR h];simp[VO hG k aR]
theorem yH: ∀(rs:List Rq) (l:List CY) (st:List (Bool×Int)) (ct:List (Int×Int)),qL (l,st,ct) rs=(l++(qL ([],st,ct) rs).1,(qL ([],st,ct) rs).2)
 | [],l,st,ct=>by simp[qL]
 |r::rs,l,st,ct=>by
  show qL (qg (l,st,ct) r) rs=(l++(qL (qg ([],st,ct) r) rs).1,(qL (qg ([],st,ct) r) rs).2);unfold qg;by_cases hk:Yf ct r=true
  ·rw[if_pos (show Yf ((l,st,ct):Kr).2.2 r=true from hk),if_pos (show Yf (([],st,ct):Kr).2.2 r=true from hk)]
   have e:uK (l,st,ct) r=uK ([],st,ct) r:=rfl;rw[yH rs (l++ [(r,uK (l,st,ct) r)]),yH rs (([]:List CY)++ [(r,uK ([],st,ct) r)]),e];simp
  rw[if_neg (show ¬Yf ((l,st,ct):Kr).2.2 r=true from hk),if_neg (show ¬Yf (([],st,ct):Kr).2.2 r=true from hk)];exact yH rs l st ct
theorem Wx(hG:sS c G): ∀(b:LN) (s s':Tok.Nd) (o:Tok.Out),(∀t∈b,1<=t/\t<=G.nD.length)->Tok.kY c id s b=some (s',o)->qL (mX G s.led) (G.qR b)=mX G s'.led/\(qL ([],(mX G s.led).2) (G.qR b)).1=b.map (fun t=>(G.rq t,G.res.getD (t -1) 0))/\(s.led<=G.nD.length->s'.led<=G.nD.length)
 | [],s,s',o,_,h=>by simp only[Tok.kY,aD,aM] at h;rw[<-h.1];exact⟨rfl,rfl,fun h=>h⟩
 |t::b,s,s',o,hu,h=>by
  have ht:=hu t bJ;rw[Tok.kY] at h;split at h
  ·rename_i hb
   have hb:=bO hb
   cases hr:Tok.kY c id {s with led:=t,tab:=Tok.LJ s.tab t} b with
   |none=>rw[hr] at h;cases h
   |some q=>
    obtain⟨s1,o1⟩:=q;rw[hr] at h;simp only[aD,aM] at h;obtain⟨rfl,_⟩:=h;obtain⟨i1,i2,i3⟩:=Wx hG b _ _ _ (fun x hx=>hu x (by simp[hx])) hr;have e:=Dv hG ht.1 ht.2;have el:t -1=s.led:=aR;rw[el] at e;have e2:qg (mX G s.led) (G.rq t)=mX G t:=by have ok:=hG.ok t ht.1 ht.2;have rs:=hG.rs t ht.1 ht.2;rw[el] at ok rs;rw[qg,if_pos ok,<-rs,e]
    refine⟨?_,?_,fun _=>i3 ht.2⟩
    ·show qL (qg (mX G s.led) (G.rq t)) (G.qR b)=_
     rw[e2];exact i1
    show(qL (qg ([],(mX G s.led).2) (G.rq t)) (G.qR b)).1=_;have ok:=hG.ok t ht.1 ht.2;have rs:=hG.rs t ht.1 ht.2;rw[el] at ok rs;have e3:qg ([],(mX G s.led).2) (G.rq t)=([(G.rq t,G.res.getD (t -1) 0)],(mX G t).2):=by rw[qg,if_pos ok,e,el,rs];rfl
    rw[e3,yH,i2];rfl
  cases h
end
end
section
open Tok (TM)
section
variable{c:Tok.qM}{G:mF}{N:Nat}{s s' s1 s2:Tok.Nd}{v v' v1 v2:ql}{o o1 o2:Tok.Out}{K1 K2:KS}{k j seq id now:Nat}{ins:List Tok.Sl}{sl sl':Tok.Sl}{i:Ba}{p p':uo}
abbrev ql.books(v:ql)(es:List CY)(st:List (Bool×Int))(ct:List (Int×Int)):ql:={v with es:=es,st:=st,ct:=ct}
theorem Yt(g:vD c)(H:sS c G)(h:tO c G N s v)(a:id<c.n)(b:1<=t)(f:t<=G.nD.length)(es:List CY)(st:List (Bool×Int))(ct:List (Int×Int))(j:Room G v [(c.n+c.cl,TM.rep id t)]):
  ∃v',Cz (who c id) (G.rq t).1 (G.rq t).2.1 (G.res.getD (t -1) 0) (G.K,v.books es st ct)=some (sealed G.K (G.key (.rep id t)),v'.books es st ct)/\(∃O,v'={v with out:=O})/\uF c G N v s [(c.n+c.cl,TM.rep id t)] (sealed G.K (G.key (.rep id t))) v':=by
 have i:Ew c G (.rep id t):=⟨a,b,f⟩;have S:uF c G N v s [(c.n+c.cl,TM.rep id t)] (sealed G.K (G.key (.rep id t))) {v with out:=v.out++(G.at (sealed G.K (G.key (.rep id t)))).yX c.n [(c.n+c.cl,TM.rep id t)]}:=af0 g H h i trivial [c.n+c.cl] (fun d l=>by have:=H.clb;simp at l;omega) bJ _ rfl;have m:=j.K;have n:=j.out;simp only[List.length_singleton] at m n;have o:=MB g H aR i;have r:=H.rq t b f;have e:(⟨10,((who c id).id:Int),0,(G.rq t).1,(G.rq t).2.1,G.res.getD (t -1) 0,[],[],[]⟩:Ms)=G.ms (.rep id t):=by rw[r.1,r.2.1,<-H.cl];rfl
 have k:(G.at (sealed G.K (G.key (.rep id t)))).yX c.n [(c.n+c.cl,TM.rep id t)]= [(100+(G.rq t).1,FY (sealed G.K ((G.ms (.rep id t)).sender,dF (G.ms (.rep id t)))) (G.ms (.rep id t)))]:=by show [(zI c.n (c.n+c.cl),(G.at (sealed G.K (G.key (.rep id t)))).bytes (.rep id t))]=_;rw[r.1,zI,if_neg aR,show 100+(((c.n+c.cl:Nat):Int) -(c.n:Int))=100+(c.cl:Int) by omega];rfl
 refine⟨_,?_,⟨_,rfl⟩,S⟩;unfold Cz;simp only[e];rw[nQ ⟨(⟨o.1,o.2,by show G.K.length<_;omega,by show v.out.length<=_;omega⟩:Lh G.K (v.books es st ct) (G.ms (.rep id t))),by rw[r.1];omega,by have:=H.clb;rw[r.1];omega⟩,k];rfl
theorem aaj(H:sS c G){tab:List Tok.Td}{T:List oO}(g:uq (Li G now) tab T)(d:1<=t)(f:t<=G.nD.length):uq (Li G now) (Tok.LJ tab t) (LH T (G.rq t).1 (G.rq t).2.1):=by
 have R:=H.rq t d f;refine g.filter fun a b h=> ?_;have r:=H.rq a.t h.t.1 h.t.2;rw[h.r,r.1,R.1,r.2.1,R.2.1];by_cases e:a.t<=t
 ·have:Nat.ble a.t t=true:=by simpa[Nat.ble_eq] using e
  rw[this];simp;omega
 have:Nat.ble a.t t=false:=by simpa[Nat.ble_eq,jT] using e
 rw[this];simp;omega
theorem Tp{α:Type}(f:α->Bool)(l:List α):(l.filter f).length<=l.length:=fB _ _
theorem FU(hc:vD c)(es:List CY)(st:List (Bool×Int))(ct:List (Int×Int))(hid:id<c.n): ∀(b:LN) (G:mF) (s s':Tok.Nd) (v:ql) (o:Tok.Out),sS c G->(∀t∈b,1<=t/\t<=G.nD.length)->tO c G N s v->Tok.kY c id s b=some (s',o)->Room G v o->
  ∃K' v',rG (who c id) (b.map fun t=>(G.rq t,G.res.getD (t -1) 0)) (G.K,v.books es st ct)=some (K',v'.books es st ct)/\uF c G N v s' o K' v'
 | [],G,s,s',v,o,hG,_,h,hr,_=>by simp only[Tok.kY,aD,aM] at hr;obtain⟨rfl,rfl⟩:=hr;exact⟨_,v,rfl,uF.refl h⟩
 |t::b,G,s,s',v,o,hG,hu,h,hr,hroom=>by
  have ht:=hu t bJ;rw[Tok.kY] at hr;split at hr
  ·rename_i hb
   have hb:=bO hb
   cases hq:Tok.kY c id {s with led:=t,tab:=Tok.LJ s.tab t} b with
   |none=>rw[hq] at hr;cases hr
   |some q=>
    obtain⟨sq,oq⟩:=q;rw[hq] at hr;simp only[aD,aM] at hr;obtain⟨rfl,rfl⟩:=hr;obtain⟨v1,e1,⟨O0,hO⟩,S1⟩:=Yt hc hG h hid ht.1 ht.2 es st ct (Room.left (o1:= [(c.n+c.cl,TM.rep id t)]) (o2:=oq) hroom);have hG1:=hG.le S1.le;have R2:tO c (G.at (sealed G.K (G.key (.rep id t)))) N {s with led:=t,tab:=Tok.LJ s.tab t} (({v1 with T:=LH v1.T (G.rq t).1 (G.rq t).2.1}:ql).books (mX G t).1 (mX G t).2.1 (mX G t).2.2):=
     {S1.nd with
      tab:=aaj hG1 S1.nd.tab ht.1 ht.2
      Fh:=aG (Tp _ _) S1.nd.Fh
      ES:=ht.2
      es:=rfl
      st:=rfl
      ct:=rfl}
    have S2:uF c G N v {s with led:=t,tab:=Tok.LJ s.tab t} [(c.n+c.cl,TM.rep id t)] (sealed G.K (G.key (.rep id t))) (({v1 with T:=LH v1.T (G.rq t).1 (G.rq t).2.1}:ql).books (mX G t).1 (mX G t).2.1 (mX G t).2.2):=⟨S1.le,R2,S1.out,S1.msg,S1.len⟩;obtain⟨K',v',e3,S3⟩:=FU hc es st ct hid b (G.at (sealed G.K (G.key (.rep id t)))) _ _ _ _ hG1 (fun x hx=>hu x (by simp[hx])) R2 hq (Room.right (o1:= [(c.n+c.cl,TM.rep id t)]) (o2:=oq) hroom S2);refine⟨K',v',?_,S2.then hG S3⟩;rw[bV,rG,e1];exact e3
  cases hr
theorem ahJ(h:xH r):RqI r:=by obtain⟨H,a,b,c,d,e⟩:=h;unfold qh at H a b e;unfold wP at c d;exact⟨⟨aR,aR⟩,⟨aR,aR⟩,⟨aR,aR⟩,⟨aR,aR⟩,⟨aR,aR⟩,⟨aR,aR⟩⟩
theorem afi: ∀(b:LN) (s s':Tok.Nd) (o:Tok.Out),Tok.kY c id s b=some (s',o)-> ∀t∈b,1<=t
 | [],s,s',o,_=>fun t ht=>by simp at ht
 |t::b,s,s',o,hr=>by
  rw[Tok.kY] at hr;split at hr
  ·rename_i hb
   have hb:=bO hb
   cases hq:Tok.kY c id {s with led:=t,tab:=Tok.LJ s.tab t} b with
   |none=>rw[hq] at hr;cases hr
   |some q=>
    intro a ha;rcases ay.1 ha with rfl|ha
    ·omega
    exact afi b _ q.1 q.2 hq a ha
  cases hr
theorem aeG(q:vD c)(d:sS c G)(h:tO c G N s v)(i:id<c.n)(g:Gl G b)(f:Tok.kY c id s b=some (s',o))(H:Room G v o):
  ∃K v',Yx (who c id) (G.qR b) (G.K,v)=some (K,v')/\uF c G N v s' o K v':=by
 have u: ∀t∈b,1<=t/\t<=G.nD.length:=fun t j=>⟨afi b s s' o f t j,(g.up t j).2⟩;obtain⟨l,L,U⟩:=Wx d b s s' o u f;obtain⟨K,v',e,S⟩:=FU q (mX G s'.led).1 (mX G s'.led).2.1 (mX G s'.led).2.2 i b G s s' v o d u h f H;have two:=g.two;have F:=d.few;have x:=h.ES;have n:=VO d s.led x;have tl:=h.tab.len;have V:=h.Fh;have w:v'.books (mX G s'.led).1 (mX G s'.led).2.1 (mX G s'.led).2.2=v':=by have a:=S.nd.es;have b:=S.nd.st;have c:=S.nd.ct;have e: ∀k,mX (G.at K) k=mX G k:=fun _=>rfl;rw[e] at a b c;obtain⟨W,Y,Z,x4,x5,x6,x7,x8,x9,X,y,z,A,B,C,D,I,J,M,O,P,Q,R,T⟩:=v';simp only at a b c;subst a;subst b;subst c;rfl
 refine⟨K,v',?_,S⟩;unfold Yx;have fit:ZA ((G.K,v):KN).2 (G.qR b):=⟨fun r f=>ahJ (mF.yZ d g r f).ok,by show v.es.length+(b.map _).length<=1000;rw[h.es,n,aT];omega,by show(b.map _).length<=4;rw[aT];omega,by show v.T.length<=64;omega⟩
 rw[nQ fit];simp only[Option.bind_some];have E:qL ([],v.st,v.ct) (G.qR b)=(b.map (fun t=>(G.rq t,G.res.getD (t -1) 0)),(mX G s'.led).2):=by
  have p:=yH (G.qR b) (mX G s.led).1 (mX G s.led).2.1 (mX G s.led).2.2;rw[show(((mX G s.led).1,(mX G s.led).2.1,(mX G s.led).2.2):Kr)=mX G s.led from rfl,l] at p;rw[h.st,h.ct];refine Prod.ext_iff.2 ⟨?_,?_⟩
  ·exact L
  exact(congrArg Prod.snd p).symm
 have m:v.es++b.map (fun t=>(G.rq t,G.res.getD (t -1) 0))=(mX G s'.led).1:=by
  have p:=yH (G.qR b) (mX G s.led).1 (mX G s.led).2.1 (mX G s.led).2.2;rw[show(((mX G s.led).1,(mX G s.led).2.1,(mX G s.led).2.2):Kr)=mX G s.led from rfl,l] at p;rw[h.es,p];show _=(mX G s.led).1++_
  congr 1
  exact L.symm
 simp only[E,m];rw[<-w];exact e
theorem Qk: ∀(l:List Tok.Sl) (m:List uo),l.length=m.length->(∀(j:Nat) (s:Tok.Sl) (p:uo),l[j]?=some s->m[j]?=some p->p.done.isSome=s.done.isSome)->oh m=Tok.doneN l
 | [],[],_,_=>rfl
 | [],_::_,h,_=>by simp at h
 |_::_,[],h,_=>by simp at h
 |s::l,p::m,h,hd=>by
  have ih:=Qk l m (mR h) fun j s p h1 h2=>hd (j+1) s p (mR h1) (mR h2);have h0:=hd 0 s p rfl rfl;rw[oh,ih,h0];show _=match s.done with|some _=>Tok.doneN l+1|none=>0
  cases s.done<;>rfl
theorem InR.done(h:InR c G k ins i):oh i.ps=Tok.doneN ins:=by refine Qk _ _ (by rw[h.l1,h.l2]) fun j s p a b=> ?_;obtain⟨P,H,d,_⟩:=h.at_ j s a;rw[b] at H;injection H with H;subst H;rw[d.2.2.2.2.2];simp
theorem Qm(hc:vD c)(hid:id<c.n): ∀(m:Nat) (G:mF) (s s':Tok.Nd) (v:ql) (o:Tok.Out),sS c G->tO c G N s v->Tok.execute c id m s=some (s',o)->Room G v o-> ∀m',m<=m'-> ∃K' v',wS (who c id) m' (G.K,v)=some (K',v')/\uF c G N v s' o K' v'
 |0,G,s,s',v,o,hG,h,he,hr,m',_=>by
  rw[Tok.execute,oV] at he
  cases hi:s.insts[0]? with
  |none=>rw[hi] at he;cases he
  |some ins=>
   rw[hi] at he;simp only at he;split at he
   ·rename_i hle
    simp only[aD,aM] at he;obtain⟨rfl,rfl⟩:=he;obtain⟨i,hv,hI⟩:=h.at_ 0 ins hi;have hd:(oh i.ps:Int)<=v.run:=by rw[hI.done,h.run];have:=eD hle;omega
    refine⟨G.K,v,?_,uF.refl h⟩
    cases m' with
    |zero=>
     rw[wS];simp only[hv,Option.bind_some];rw[nQ hd];rfl
    |succ m'=>
     rw[wS];simp only[hv,Option.bind_some];rw[if_pos hd]
   cases he
 |m+1,G,s,s',v,o,hG,h,he,hr,m',hm=>by
  obtain⟨m'',rfl⟩: ∃q,m'=q+1:=⟨m' -1,aR⟩;rw[Tok.execute,oV] at he
  cases hi:s.insts[0]? with
  |none=>rw[hi] at he;cases he
  |some ins=>
   rw[hi] at he;simp only at he;obtain⟨i,hv,hI⟩:=h.at_ 0 ins hi;rw[wS];simp only[hv,Option.bind_some];split at he
   ·rename_i hle
    simp only[aD,aM] at he;obtain⟨rfl,rfl⟩:=he;have hd:(oh i.ps:Int)<=v.run:=by rw[hI.done,h.run];have:=eD hle;omega
    exact⟨G.K,v,by rw[if_pos hd],uF.refl h⟩
   rename_i hle;have hd: ¬(oh i.ps:Int)<=v.run:=by rw[hI.done,h.run];have: ¬Tok.doneN ins<=s.run:=fun e=>hle (dS e);omega
   rw[if_neg hd];rw[oV] at he
   cases hs:ins[s.run]? with
   |none=>rw[hs] at he;cases he
   |some sl=>
    rw[hs] at he;simp only at he;obtain⟨p,hp,h1,h2⟩:=hI.at_ s.run sl hs
    cases hdn:sl.done with
    |none=>rw[hdn] at he;cases he
    |some q=>
     obtain⟨b,vs⟩:=q;rw[hdn] at he;simp only at he
     cases hrn:Tok.kY c id {s with run:=s.run+1} b with
     |none=>rw[hrn] at he;cases he
     |some q1=>
      obtain⟨s1,o1⟩:=q1;rw[hrn] at he;simp only at he
      cases hex:Tok.execute c id m s1 with
      |none=>rw[hex] at he;cases he
      |some q2=>
       obtain⟨s2,o2⟩:=q2;rw[hex] at he;simp only[aD,aM] at he;obtain⟨rfl,rfl⟩:=he;have arX:s.run<16:=by have:=(ah.1 hs).1;rw[hI.l1] at this;exact this
       have R1:tO c G N {s with run:=s.run+1} {v with run:=v.run+1}:={h with run:=by show v.run+1=((s.run+1:Nat):Int);rw[h.run];omega,kY:=by show s.run+1<=16;omega};obtain⟨K1,v1,e1,S1⟩:=aeG hc hG R1 hid (h2.done b vs hdn).1 hrn (⟨hr.left.K,hr.left.out⟩);have S1':uF c G N v s1 o1 K1 v1:=⟨S1.le,S1.nd,S1.out,S1.msg,S1.len⟩;obtain⟨K2,v2,e2,S2⟩:=Qm hc hid m (G.at K1) s1 s2 v1 o2 (hG.le S1.le) S1.nd hex (hr.right S1') m'' aR;have hb:i.ps[v.run.toNat]?.bind uo.done=some (G.ce 0 (s.run+1) b vs):=by rw[h.run,Int.toNat_natCast,hp,Option.bind_some,h1.2.2.2.2.2,hdn];rfl
       refine⟨K2,v2,?_,S1'.then hG S2⟩;rw[hb];simp only[Option.bind_some];rw[show(G.ce 0 (s.run+1) b vs).batch=G.qR b from rfl,e1];exact e2
theorem adt(r:vD c)(m:sS c G)(h:tO c G N s v)(l:id<c.n)(n:Gl G b)(D:k<=c.f)(H:Tok.Cj c id k b s=some (s',o))(w:Room G v o):
  ∃K v',NC (who c id) k (G.qR b) (G.K,v)=some (K,v')/\uF c G N v s' o K v':=by
 unfold Tok.Cj at H;split at H
 ·cases H
 rename_i a;have u: ∀t∈b,1<=t/\t<=G.nD.length:=fun t x=>⟨by
  have C:b.all (Nat.ble 1)=true:=by
   cases e:b.all (Nat.ble 1) with
   |true=>rfl
   |false=>rw[e] at a;exact absurd rfl a
  exact eD (jk.1 C t x),(n.up t x).2⟩
 cases j:Tok.yR s.tab s.now k b s.wT with
 |none=>rw[j] at H;cases H
 |some g=>
  rw[j] at H;simp only at H;obtain⟨z,A,B⟩:=Mc r m h.tab h.Ag D b s.wT g u h.gal h.gaB j;have R:tO c G N {s with wT:=g} {v with ga:=g.map fun p=>((p.1:Int),(p.2:Int))}:={h with ga:=rfl,gal:=A,gaB:=B};have two:=n.two;have tl:=h.tab.len;have T:=h.Fh;have J:=h.Ag;have L:=h.kY;have fit:Sy v k (G.qR b):=⟨aR,by show(b.map _).length<=4;rw[aT];omega,by rw[h.now];omega,by rw[h.run];omega⟩;unfold NC;rw[nQ (show Sy ((G.K,v):KN).2 k (G.qR b) from fit)];simp only[Option.bind_some];rw[show wu (k:Int) v.now v.T (G.qR b) v.ga=some (g.map fun p=>((p.1:Int),(p.2:Int))) by rw[h.now,h.ga];exact z];simp only[Option.bind_some];by_cases f:k=0
  ·subst f
   rw[if_pos (lM 0)] at H;rw[if_pos rfl]
   cases d:Tok.execute c id 4 {s with wT:=g} with
   |none=>rw[d] at H;cases H
   |some q=>
    obtain⟨I,o2⟩:=q;rw[d] at H;simp only at H;split at H
    ·cases H
    rename_i i;simp only[aD,aM] at H;obtain⟨rfl,rfl⟩:=H;obtain⟨y,V,E,S⟩:=Qm r l 4 G _ _ _ _ m R d ⟨w.K,w.out⟩ 16 aR;refine⟨y,V,?_,⟨S.le,S.nd,S.out,S.msg,S.len⟩⟩;rw[E];simp only[Option.bind_some];have:V.run<16:=by rw[S.nd.run];have: ¬16<=I.run:=fun e=>i (dS e);omega
    rw[nQ this];rfl
  rw[if_neg (fun e=>f (bO e))] at H;rw[if_neg f];simp only[aD,aM] at H;obtain⟨rfl,rfl⟩:=H;exact⟨G.K,_,rfl,⟨xC.refl G,R,by simp[mF.yX],fun p F=>by simp at F,bJ⟩⟩
end
end
section
open Tok (TM)
section
variable{c:Tok.qM}{G:mF}{N:Nat}{s s' s1 s2:Tok.Nd}{v v' v1 v2:ql}{o o1 o2:Tok.Out}{K1 K2:KS}{k j seq id now:Nat}{ins:List Tok.Sl}{sl sl':Tok.Sl}{i:Ba}{p p':uo}
theorem quo(h:vD c):(2*(who c id).f+1).toNat=c.q:=by have:=h.q;show(2*(c.f:Int)+1).toNat=c.q;omega
theorem xA: ∀(l:List (Option LN)) (n0 q i:Nat),i∈Tok.oW l b n0 q->n0<=i/\i<n0+l.length/\l[i -n0]?=some (some b)
 | [],n0,q,i,h=>by simp[Tok.oW] at h
 |none::l,n0,q,i,h=>by obtain⟨h1,h2,h3⟩:=xA l (n0+1) q i h;refine⟨aR,by simp only[List.length_cons];omega,?_⟩;rw[show i -n0=(i -(n0+1))+1 by omega,List.getElem?_cons_succ];exact h3
 |some b'::l,n0,q,i,h=>by
  cases q with
  |zero=>simp[Tok.oW] at h
  |succ q=>
   rw[show Tok.oW (some b'::l) b n0 (q+1)=if Tok.YZ b' b then n0::Tok.oW l b (n0+1) q else Tok.oW l b (n0+1) (q+1) from rfl] at h;have key: ∀q,i∈Tok.oW l b (n0+1) q->n0<=i/\i<n0+(some b'::l).length/\(some b'::l)[i -n0]?=some (some b):=fun q h=>by obtain⟨h1,h2,h3⟩:=xA l (n0+1) q i h;refine⟨aR,by simp only[List.length_cons];omega,?_⟩;rw[show i -n0=(i -(n0+1))+1 by omega,List.getElem?_cons_succ];exact h3
   split at h
   ·rename_i he
    rcases ay.1 h with rfl|h
    ·refine⟨aF _,bJ,?_⟩
     rw[fJ,(Dc b' b).1 he];rfl
    exact key q h
   exact key (q+1) h
theorem vO: ∀(l:List (Option LN)) (n0 q:Nat),(Tok.oW l b n0 q).Pairwise (· < ·)
 | [],n0,q=>by simp[Tok.oW]
 |none::l,n0,q=>vO l (n0+1) q
 |some b'::l,n0,q=>by
  cases q with
  |zero=>simp[Tok.oW]
  |succ q=>
   rw[show Tok.oW (some b'::l) b n0 (q+1)=if Tok.YZ b' b then n0::Tok.oW l b (n0+1) q else Tok.oW l b (n0+1) (q+1) from rfl];split
   ·refine eu.2 ⟨fun i hi=> ?_,vO l (n0+1) q⟩
    have:=(xA l (n0+1) q i hi).1;omega
   exact vO l (n0+1) (q+1)
theorem XC(h:Tok.enough l b q=some vs):vs.length=q/\vs.Pairwise (· < ·)/\ ∀i∈vs,i<l.length/\l[i]?=some (some b):=by
 unfold Tok.enough at h;simp only at h;split at h
 ·rename_i a
  injection h with h;subst h;refine⟨by rw[<-pQ];exact bO a,vO l 0 q,fun i c=> ?_⟩;obtain⟨_,d,H⟩:=xA l 0 q i c;exact⟨aR,by simpa using H⟩
 cases h
theorem yP: ∀(r:List (Option LN)),Tok.qG r l q=some (b,vs)->Tok.enough l b q=some vs/\some b∈r
 | [],h=>by simp[Tok.qG] at h
 |none::r,h=>by obtain⟨h1,h2⟩:=yP r h;exact⟨h1,cK _ h2⟩
 |some b'::r,h=>by
  rw[Tok.qG] at h
  cases he:Tok.enough l b' q with
  |none=>
   rw[he] at h;obtain⟨h1,h2⟩:=yP r h;exact⟨h1,cK _ h2⟩
  |some vs'=>
   rw[he] at h;injection h with h;simp only[aM] at h;obtain⟨rfl,rfl⟩:=h;exact⟨he,jL⟩
theorem abG(h:tO c G N s v)(d:k<=c.f)(i:Nat)(z:Int):tO c G N s {v with nN:=v.nN.modify k fun l=>l.set i z}:=
 {h with
  QZ:=by show(v.nN.modify k _).length=_;rw[iV];exact h.QZ
  nN:=fun q b=>by
   obtain⟨l,a,H⟩:=h.nN q b;show∃l,(v.nN.modify k _)[q]?=some l/\_;rw[eY,a];by_cases e:k=q
   ·exact⟨l.set i z,by simp[e],by rw[bG];exact H⟩
   exact⟨l,by simp[e],H⟩}
theorem abF(E:vD c)(D:sS c G)(h:tO c G N s v)(r:id<c.n)(H:Tok.Wq c id k (j+1) s=some (s',o))(L:Room G v o):
  ∃K v',QY (who c id) k j (G.K,v)=some (K,v')/\uF c G N v s' o K v':=by
 unfold Tok.Wq at H
 cases B:Tok.tV s k (j+1) with
 |none=>rw[B] at H;cases H
 |some sl=>
  rw[B] at H;simp only at H;obtain⟨j',I,O,g,n⟩:=Cq B;obtain rfl:j'=j:=aR;obtain⟨i,p,A,z,C,f,a,m,P⟩:=zW h g n;have T:=a.b.two;have fit:Ve (who c id) v i p k j':=⟨z,m,by rw[C];exact⟨aV,aV⟩,by rw[f.2.1];unfold mF.qR;rw[aT];omega,by obtain⟨l,Q,U,_⟩:=h.nG k I g;exact⟨l,Q,aR⟩,by rw[h.view];decide⟩;unfold QY;rw[show((G.K,v):KN).2.pl k j'=some (i,p) from A];simp only[Option.bind_some];rw[nQ fit];simp only[Option.bind_some];rw[f.2.2.2.2.1,f.1];by_cases M:(sl.told||!sl.has)=true
  ·rw[if_pos M] at H|-
   simp only[aD,aM] at H;obtain⟨rfl,rfl⟩:=H;exact⟨G.K,v,rfl,uF.refl h⟩
  rw[if_neg M] at H|-;rw[quo (id:=id) E,f.2.2.1,f.2.1,Ir D.inj a.b.up 4 k (j'+1) sl.pr c.q a.upv.1]
  cases F:Tok.enough sl.pr sl.b c.q with
  |none=>
   rw[F] at H;simp only[aD,aM] at H;obtain⟨rfl,rfl⟩:=H;exact⟨G.K,v,rfl,uF.refl h⟩
  |some vs=>
   rw[F] at H;simp only[oV,qD] at H;simp only[Option.map_some]
   cases d:sl.co[id]? with
   |none=>rw[d] at H;cases H
   |some oc=>
    cases oc with
    |some x=>rw[d] at H;cases H
    |none=>
     rw[d] at H;simp only[aD,aM] at H;obtain⟨rfl,rfl⟩:=H;have y:=(ah.1 g).1;have u:=(ah.1 n).1;obtain⟨q,J⟩: ∃q:uo,q={has:=sl.has,b:=G.qR sl.b,pr:=G.zL 4 k (j'+1) sl.pr 0,co:=p.co,told:=true,cert:=some ⟨i.vw,k,j'+1,G.qR sl.b,vs.map (G.vo 4 k (j'+1) sl.b)⟩,done:=p.done}:=⟨_,rfl⟩;have R:tO c G N (Tok.su s k (j'+1) {sl with told:=true}) {v.put k j' q with nG:=v.nG.modify k fun l=>l.set (j'+1) (v.view+1)}:=by exact ahH h g n (sl':={sl with told:=true}) (p':=q) (by rw[J];exact⟨rfl,rfl,rfl,f.2.2.2.1,rfl,f.2.2.2.2.2⟩) ⟨a.b,a.gy,a.col,a.pr,a.co,a.done⟩ rfl
     have w:(Tok.su s k (j'+1) {sl with told:=true}).insts[k]?=some (I.set j' {sl with told:=true}):=by rw[JH g];exact aL y
     have t:(I.set j' {sl with told:=true})[j']?=some {sl with told:=true}:=aL u;obtain⟨K,v',e,S⟩:=Sb E D R r 5 (.com id k (j'+1) sl.b) sl.b (by rw[if_neg aV]) (.inr rfl) a.b w t ⟨L.K,L.out⟩ (by rw[if_neg aV];exact d) rfl;rw[if_neg aV,Ro g n] at S;refine⟨K,v',?_,⟨S.le,S.nd,S.out,S.msg,S.len⟩⟩;rw[<-J];exact e
theorem XB(A:vD c)(z:sS c G)(h:tO c G N s v)(t:id<c.n)(H:Tok.Vx c id k (j+1) s=some (s',o))(L:Room G v o):
  ∃K v',Fz (who c id) k j (G.K,v)=some (K,v')/\uF c G N v s' o K v':=by
 unfold Tok.Vx at H
 cases y:Tok.tV s k (j+1) with
 |none=>rw[y] at H;cases H
 |some sl=>
  rw[y] at H;simp only at H;obtain⟨J,U,Q,F,C⟩:=Cq y;obtain rfl:J=j:=aR;obtain⟨i,p,w,T,m,f,a,D,u⟩:=zW h F C;unfold Fz;rw[show((G.K,v):KN).2.pl k J=some (i,p) from w];simp only[Option.bind_some];rw[nQ (show qX i.vw by rw[m];exact⟨aV,aV⟩)];simp only[Option.bind_some];rw[f.2.2.2.2.2]
  cases B:sl.done with
  |some q=>
   rw[B] at H;simp only[aD,aM] at H;obtain⟨rfl,rfl⟩:=H;exact⟨G.K,v,rfl,uF.refl h⟩
  |none=>
   rw[B] at H;simp only at H;rw[Option.map_none,if_neg bJ,quo (id:=id) A,f.2.2.2.1,xJ z.inj 5 k (J+1) sl.co c.q a.upv.2 sl.co 0 a.upv.2]
   cases d:Tok.qG sl.co sl.co c.q with
   |none=>
    rw[d] at H;simp only[aD,aM] at H;obtain⟨rfl,rfl⟩:=H;exact⟨G.K,v,rfl,uF.refl h⟩
   |some q=>
    obtain⟨b,V⟩:=q;rw[d] at H;simp only at H;simp only[Option.map_some];obtain⟨P,n⟩:=yP sl.co d;obtain⟨M,O,E⟩:=XC P;obtain⟨x,hx⟩:=bT.1 n;have g:=(a.co x b hx).1;obtain⟨q,I⟩: ∃q:uo,q={has:=p.has,b:=p.b,pr:=p.pr,co:=G.zL 5 k (J+1) sl.co 0,told:=p.told,cert:=p.cert,done:=some (⟨i.vw,k,(J:Int)+1,G.qR b,V.map (G.vo 5 k (J+1) b)⟩:Ce)}:=⟨_,rfl⟩;have R:tO c G N (Tok.su s k (J+1) {sl with done:=some (b,V)}) (v.put k J q):=
     Bq h F C (by
      rw[I];refine⟨f.1,f.2.1,f.2.2.1,rfl,f.2.2.2.2.1,?_⟩;show some _=some _;rw[m];rfl) ⟨a.b,a.gy,a.col,a.pr,a.co,fun W v' l=>by simp only[aD,aM] at l;obtain⟨rfl,rfl⟩:=l;exact⟨g,⟨M,O,fun i r=>by rw[<-a.col];exact(E i r).1⟩,fun i r=>(a.co i b (E i r).2).2⟩⟩ rfl
    obtain⟨K,v',e,S⟩:=adt A z R t g u H ⟨L.K,L.out⟩;refine⟨K,v',?_,⟨S.le,S.nd,S.out,S.msg,S.len⟩⟩;rw[<-I];exact e
theorem Jj(f:vD c)(e:sS c G)(h:tO c G N s v)(a:id<c.n)(H:Tok.looked c id k (j+1) s=some (s',o))(g:Room G v o):
  ∃K v',lH (who c id) k j (G.K,v)=some (K,v')/\uF c G N v s' o K v':=by
 unfold Tok.looked at H
 cases b:Tok.Wq c id k (j+1) s with
 |none=>rw[b] at H;cases H
 |some q=>
  obtain⟨n,o1⟩:=q;rw[b] at H;simp only at H
  cases d:Tok.Vx c id k (j+1) n with
  |none=>rw[d] at H;cases H
  |some q=>
   obtain⟨r,o2⟩:=q;rw[d] at H;simp only[aD,aM] at H;obtain⟨rfl,rfl⟩:=H;obtain⟨p,t,E,S⟩:=abF f e h a b g.left;obtain⟨i,V,m,l⟩:=XB f (e.le S.le) S.nd a d (g.right S);refine⟨i,V,?_,S.then e l⟩;unfold lH;rw[E];exact m
theorem Vk(t:vD c)(f:sS c G)(h:tO c G N s v)(e:id<c.n)(H:Tok.accepted c id k (j+1) b s=some (s',o))(z:Room G v o):
  ∃K v',Nu (who c id) k j (G.K,v)=some (K,v')/\uF c G N v s' o K v':=by
 unfold Tok.accepted at H
 cases n:Tok.tV s k (j+1) with
 |none=>rw[n] at H;cases H
 |some sl=>
  rw[n] at H;simp only[oV,qD] at H;obtain⟨J,O,F,y,u⟩:=Cq n;obtain rfl:J=j:=aR;obtain⟨i,p,m,L,M,r,D,w,I⟩:=zW h y u
  cases a:sl.pr[id]? with
  |none=>rw[a] at H;cases H
  |some ov=>
   cases ov with
   |some x=>rw[a] at H;cases H
   |none=>
    rw[a] at H
    cases d:(sl.has&&Tok.YZ sl.b b) with
    |false=>rw[d] at H;cases H
    |true=>
     rw[d] at H;simp only at H;rw[bX] at d;have g:sl.b=b:=(Dc _ _).1 d.2;subst g
     cases l:Tok.looked c id k (J+1) (Tok.su s k (J+1) {sl with pr:=sl.pr.set id (some sl.b)}) with
     |none=>rw[l] at H;cases H
     |some q=>
      obtain⟨Q,o2⟩:=q;rw[l] at H;simp only[aD,aM] at H;obtain⟨rfl,rfl⟩:=H;obtain⟨P,R,E,S⟩:=Sb t f h e 4 (.uf id k (J+1) sl.b) sl.b (by rw[if_pos rfl]) (.inl rfl) D.b y u z.left (by rw[if_pos rfl];exact a) rfl;rw[if_pos rfl] at S;obtain⟨A,V,C,B⟩:=Jj t (f.le S.le) S.nd e l (z.right S);refine⟨A,V,?_,S.then f B⟩;unfold Nu;rw[show((G.K,v):KN).2.pl k J=some (i,p) from m];simp only[Option.bind_some];rw[nQ (show p.has=true by rw[r.1];exact d.1)];simp only[Option.bind_some];rw[r.2.1,E];exact C
end
end
section
open Tok (TM)
section
variable{c:Tok.qM}{G:mF}{N:Nat}{s s' s1 s2:Tok.Nd}{v v' v1 v2:ql}{o o1 o2:Tok.Out}{K1 K2:KS}{k j seq id now node:Nat}{ins:List Tok.Sl}{sl sl':Tok.Sl}{i:Ba}{p p':uo}{tab JQ:List Tok.Td}{T T':List oO}{t:Nat}
theorem WE(hG:sS c G)(h1:1<=t)(h2:t<=G.nD.length): ∀{tab:List Tok.Td} {T:List oO} (k0:Nat) (d:Tok.Td),uq (Li G now) tab T->Tok.Pn tab t=some (some d)->
  ∃i e,Xp (G.rq t) T k0=some (k0+i,true)/\T[i]?=some e/\Li G now d e/\d.t=t/\ ∀d' e',Li G now d' e'->uq (Li G now) (Tok.KR tab t d') (T.set i e')
 |_,_,k0,d,.nil,h=>by simp[Tok.Pn] at h
 |_,_,k0,d,.cons (a:=a) (b:=b) (l:=l) (m:=m) hd tl,h=>by
  have ra:=hG.rq a.t hd.t.1 hd.t.2;have rt:=hG.rq t h1 h2;have e0:Tok.Pn (a::l) t=if Nat.beq a.t t then some (some a) else if Nat.blt a.t t then Tok.Pn l t else none:=rfl;rw[e0] at h;rw[Xp,hd.r];by_cases e:a.t=t
  ·subst e
   rw[if_pos (lM a.t)] at h;injection h with h;injection h with h;subst h;refine⟨0,b,by rw[if_pos rfl];rfl,rfl,hd,rfl,fun d' e' hr=> ?_⟩;rw[show Tok.KR (a::l) a.t d'=if Nat.beq a.t a.t then d'::l else a::Tok.KR l a.t d' from rfl,if_pos (lM a.t)];exact .cons hr tl
  have nb: ¬Nat.beq a.t t=true:=fun h=>e (bO h);have ne: ¬G.rq a.t=G.rq t:=fun h=>e (hG.inj _ _ ⟨.inl hd.t.1,hd.t.2⟩ ⟨.inl h1,h2⟩ h);rw[if_neg nb] at h;rw[if_neg ne];by_cases lt:a.t<t
  ·have hlt:Nat.blt a.t t=true:=by simpa[iA] using lt
   rw[if_pos hlt] at h;rw[if_pos (EJ (by rw[ra.1,rt.1]) (by rw[ra.2.1,rt.2.1];omega))];obtain⟨i,e,e1,e2,e3,e4,e5⟩:=WE hG h1 h2 (k0+1) d tl h;refine⟨i+1,e,by rw[e1];congr 2;omega,e2,e3,e4,fun d' e' hr=> ?_⟩;rw[show Tok.KR (a::l) t d'=if Nat.beq a.t t then d'::l else a::Tok.KR l t d' from rfl,if_neg nb,List.set_cons_succ];exact .cons hd (e5 d' e' hr)
  have: ¬Nat.blt a.t t=true:=by simpa[iA] using lt
  rw[if_neg this] at h;cases h
theorem NV(g:sS c G)(j:uq (Li G now) tab T)(a:1<=t)(f:t<=G.nD.length)(m:node<13){b:Bool}(h:Tok.IB tab t node=some b):NR T (G.rq t) node=some b:=by
 unfold Tok.IB at h;unfold NR
 cases H:Tok.Pn tab t with
 |none=>rw[H] at h;cases h
 |some od=>
  cases od with
  |none=>
   rw[H] at h;rw[(ED g a f 0 j).1 H];exact h
  |some d=>
   rw[H] at h;obtain⟨i,e,E,n,k,l,o⟩:=(ED g a f 0 j).2 d H;rw[E];simp only[Option.map_some,if_true,aO,k];simp only[oV] at h;rw[l.nX node m] at h;exact h
theorem ahn{l:List Bool}{g:Nat->Bool}(a:l.length=13)(h: ∀i,i<13->l[i]?=some (g i)):l= [g 0,g 1,g 2,g 3,g 4,g 5,g 6,g 7,g 8,g 9,g 10,g 11,g 12]:=by
 refine dD fun i=> ?_;by_cases H:i<13
 ·rw[h i H]
  match i,H with
  |0,_|1,_|2,_|3,_|4,_|5,_|6,_|7,_|8,_|9,_|10,_|11,_|12,_=>rfl
 rw[fT aR,fT (by simp only[List.length_cons,List.length_nil];omega)]
theorem acu(H:Li G now d e)(j:node<13)(f:Nat):Li G now (Tok.JU (f+1) now node d) (e.told f node now):=by
 have b: ∀i,i<13->(d.nX.set node true)[i]?=some ((e.tell node).nX i):=fun i g=>by
  rw[je];show _=some (if i=node then true else e.nX i);by_cases h:node=i
  ·rw[if_pos h,if_pos (by rw[H.l];omega),if_pos h.symm]
  rw[if_neg h,if_neg (dR h)];exact H.nX i g
 have hlen:(d.nX.set node true).length=13:=by rw[bG];exact H.l
 have a:Tok.count (d.nX.set node true)=(e.tell node).count:=by rw[ahn hlen b];rfl
 unfold Tok.JU oO.told;simp only[qD];rw[a,H.ready];by_cases c:d.ready=false/\f+1<=(e.tell node).count
 ·have C:(!d.ready&&Nat.ble (f+1) (e.tell node).count)=true:=by rw[c.1,dS c.2];rfl
  rw[if_pos C,if_pos ⟨c.1,by have:=c.2;omega⟩];exact⟨H.r,H.t,b,hlen,rfl,rfl,aF _⟩
 have C: ¬(!d.ready&&Nat.ble (f+1) (e.tell node).count)=true:=fun h=>by rw[bX] at h;exact c ⟨by simpa using h.1,eD h.2⟩
 rw[if_neg C,if_neg (fun h=>c ⟨h.1,by have:=h.2;omega⟩)];exact⟨H.r,H.t,b,hlen,H.ready,H.since,H.le⟩
theorem Eh(u:vD c)(j:sS c G)(g:uq (Li G now) tab T)(b:1<=t)(f:t<=G.nD.length)(m:node<13)(h:Tok.DN (c.f+1) now node tab t=some JQ)(r:tab.length<=8): ∃T',zH c.f node now (G.rq t) T=some T'/\uq (Li G now) JQ T'/\JQ.length<=8:=by
 unfold Tok.DN at h;unfold zH
 cases H:Tok.Pn tab t with
 |none=>rw[H] at h;cases h
 |some od=>
  cases od with
  |none=>
   rw[H] at h;rw[(ED j b f 0 g).1 H]
   cases g with
   |nil=>
    simp only[aD] at h;subst h;refine⟨_,rfl,.cons ⟨rfl,⟨b,f⟩,fun i q=> ?_,?_,rfl,rfl,bF _⟩ .nil,bJ⟩
    ·show(Tok.vG (Tok.tH 13 false) node true)[i]?=some (if i=node then true else false)
     rw[qD,qH,je];by_cases e:node=i
     ·rw[if_pos e,if_pos (by simp;omega),if_pos e.symm]
     rw[if_neg e,if_neg (dR e),dI,if_pos q]
    show(Tok.vG (Tok.tH 13 false) node true).length=13;rw[qD,qH];simp
   |cons _ _=>cases h
  |some d=>
   rw[H] at h;obtain⟨i,e,n,o,E,s,p⟩:=WE j b f 0 d g H;rw[n];simp only[aO,o,Option.bind_some];simp only[oV] at h;rw[E.nX node m] at h
   cases k:e.nX node with
   |true=>rw[k] at h;cases h
   |false=>
    rw[k] at h;simp only[aD] at h;subst h;refine⟨_,rfl,p _ _ (acu E m c.f),?_⟩;have: ∀l:List Tok.Td,(Tok.KR l t (Tok.JU (c.f+1) now node d)).length=l.length:=fun l=>by
     induction l with
     |nil=>rfl
     |cons a l ih=>
      rw[show Tok.KR (a::l) t (Tok.JU (c.f+1) now node d)=if Nat.beq a.t t then(Tok.JU (c.f+1) now node d)::l else a::Tok.KR l t (Tok.JU (c.f+1) now node d) from rfl];split<;>simp[ih]
    rw[this];exact r
theorem Ee(h:tO c G N s v)(H:uq (Li G s.now) JQ T')(a:JQ.length<=8):tO c G N {s with tab:=JQ} {v with T:=T'}:={h with tab:=H,Fh:=a}
theorem Ra(g:vD c)(d:sS c G)(h:tO c G N s v)(H:id<c.n)(a:1<=t)(b:t<=G.nD.length)(i:Room G v (Tok.sendAll c.n id (.prop id t) c.n)):
  ∃v',Jy (who c id) (G.rq t) (G.K,v)=some (sealed G.K (G.key (.prop id t)),v')/\(∃O,v'={v with out:=O})/\uF c G N v s (Tok.sendAll c.n id (.prop id t) c.n) (sealed G.K (G.key (.prop id t))) v':=by obtain⟨v',e,f,S⟩:=Ed g d h H ⟨2,0,0,0,0,0,[G.rq t],[],[]⟩ (.prop id t) rfl ⟨H,a,b⟩ trivial i;refine⟨v',?_,f,S⟩;unfold Jy;rw[e];rfl
theorem Vz(a:vD c)(H:sS c G)(h:tO c G N s v)(b:1<=t)(d:t<=G.nD.length)(f: ¬Nat.ble t s.led=true)(i:node<c.n):adf v/\sU G.K 2 (G.rq t)/\lastOf v.ct (G.rq t).1<(G.rq t).2.1/\node<c.n/\node<13/\0<=(G.rq t).1/\(G.rq t).1<2:=by have r:=H.rq t b d;have tl:=h.tab.len;have T:=h.Fh;have j:=h.Ag;have n:=a.n;have F:=a.f4;have g: ¬t<=s.led:=fun e=>f (dS e);refine⟨⟨aR,by rw[h.now];omega⟩,r.2.2,?_,i,aR,by rw[r.1];omega,by have:=H.clb;rw[r.1];omega⟩;rw[h.ct,r.1,r.2.1,H.last s.led h.ES];omega
theorem aeD(j:vD c)(i:sS c G)(h:tO c G N s v)(e:id<c.n)(f:1<=t)(g:t<=G.nD.length)(src:Nat)(H:Tok.takeN c id (.req t) s=some (s',o))(m:Room G v o):
  ∃K v' a,JE (who c id) 1 src (G.rq t) (G.K,v)=some ((K,v'),a)/\uF c G N v s' o K v':=by
 rw[show Tok.takeN c id (.req t) s=(if Nat.ble t s.led then none else match Tok.IB s.tab t id with
  |none=>none
  |some true=>some (s,[])
  |some false=>match Tok.DN (c.f+1) s.now id s.tab t with
   |none=>none
   |some T=>some ({s with tab:=T},Tok.sendAll c.n id (.prop id t) c.n)) from rfl] at H
 split at H
 ·cases H
 rename_i l;have F:=Vz (node:=id) j i h f g l e;have n:=F.2.2.2.2.1;unfold JE;simp only[if_pos];rw[nQ (show adf v/\sU G.K 2 (G.rq t)/\lastOf v.ct (G.rq t).1<(G.rq t).2.1/\(who c id).id<(who c id).n/\(who c id).id<13/\0<=(G.rq t).1/\(G.rq t).1<2 from F)];simp only[Option.bind_some]
 cases k:Tok.IB s.tab t id with
 |none=>rw[k] at H;cases H
 |some b=>
  rw[k] at H;rw[show NR v.T (G.rq t) (who c id).id=some b from NV i h.tab f g n k];simp only[Option.bind_some]
  cases b with
  |true=>
   simp only[aD,aM] at H;obtain⟨rfl,rfl⟩:=H;exact⟨G.K,v,.stale,by rw[if_pos rfl],uF.refl h⟩
  |false=>
   rw[if_neg aV];simp only at H
   cases d:Tok.DN (c.f+1) s.now id s.tab t with
   |none=>rw[d] at H;cases H
   |some JQ=>
    rw[d] at H;simp only[aD,aM] at H;obtain⟨rfl,rfl⟩:=H;obtain⟨p,E,q,r⟩:=Eh j i h.tab f g n d h.Fh;have R:=Ee h q r;obtain⟨v',u,_,S⟩:=Ra j i R e f g ⟨m.K,m.out⟩;refine⟨_,v',.used,?_,⟨S.le,S.nd,S.out,S.msg,S.len⟩⟩;rw[if_neg aV];rw[show zH (who c id).f (who c id).id v.now (G.rq t) v.T=some p by rw[h.now];exact E];simp only[Option.bind_some];rw[u];simp
theorem OY(l:vD c)(i:sS c G)(h:tO c G N s v)(z:id<c.n)(src:Nat)(r:src<c.n)(j:1<=t)(k:t<=G.nD.length)(H:Tok.takeN c id (.prop src t) s=some (s',o))(D:Room G v o):
  ∃K v' a,JE (who c id) 2 src (G.rq t) (G.K,v)=some ((K,v'),a)/\uF c G N v s' o K v':=by
 rw[show Tok.takeN c id (.prop src t) s=(if Nat.ble t s.led||Nat.beq src id then none else match Tok.IB s.tab t src with
  |none=>none
  |some true=>some (s,[])
  |some false=>match Tok.IB s.tab t id with
   |none=>none
   |some true=>match Tok.DN (c.f+1) s.now src s.tab t with
    |none=>none
    |some T=>some ({s with tab:=T},[])
   |some false=>match Tok.DN (c.f+1) s.now id s.tab t with
    |none=>none
    |some T=>match Tok.DN (c.f+1) s.now src T t with
     |none=>none
     |some T'=>some ({s with tab:=T'},Tok.sendAll c.n id (.prop id t) c.n)) from rfl] at H
 split at H
 ·cases H
 rename_i f;rw[eZ] at f;have A: ¬Nat.ble t s.led=true:=fun e=>f (.inl e);have q:src≠id:=fun e=>f (.inr (by rw[e];exact lM id));have F:=Vz (node:=src) l i h j k A r;have n:=F.2.2.2.2.1;have u:id<13:=by have:=l.n;have:=l.f4;omega
 unfold JE;rw[if_neg aV];simp only[];rw[nQ (show adf v/\sU G.K 2 (G.rq t)/\lastOf v.ct (G.rq t).1<(G.rq t).2.1/\src<(who c id).n/\src<13/\0<=(G.rq t).1/\(G.rq t).1<2 from F)];simp only[Option.bind_some]
 cases y:Tok.IB s.tab t src with
 |none=>rw[y] at H;cases H
 |some b=>
  rw[y] at H;rw[NV i h.tab j k n y];simp only[Option.bind_some]
  cases b with
  |true=>
   simp only[aD,aM] at H;obtain⟨rfl,rfl⟩:=H;exact⟨G.K,v,.stale,by rw[if_pos rfl],uF.refl h⟩
  |false=>
   rw[if_neg aV];simp only at H
   cases m:Tok.IB s.tab t id with
   |none=>rw[m] at H;cases H
   |some b2=>
    rw[m] at H;rw[show NR v.T (G.rq t) (who c id).id=some b2 from NV i h.tab j k u m];simp only[Option.bind_some]
    cases b2 with
    |true=>
     simp only at H
     cases d:Tok.DN (c.f+1) s.now src s.tab t with
     |none=>rw[d] at H;cases H
     |some JQ=>
      rw[d] at H;simp only[aD,aM] at H;obtain⟨rfl,rfl⟩:=H;obtain⟨T',x,E,w⟩:=Eh l i h.tab j k n d h.Fh;refine⟨G.K,_,.used,?_,⟨xC.refl G,Ee h E w,by simp[mF.yX],fun p H=>by simp at H,bJ⟩⟩;rw[if_pos rfl];simp only[Option.bind_some];rw[if_pos ⟨by trivial,q⟩,show zH (who c id).f src v.now (G.rq t) v.T=some T' by rw[h.now];exact x];rfl
    |false=>
     simp only at H
     cases d:Tok.DN (c.f+1) s.now id s.tab t with
     |none=>rw[d] at H;cases H
     |some apg=>
      rw[d] at H;simp only at H
      cases g:Tok.DN (c.f+1) s.now src apg t with
      |none=>rw[g] at H;cases H
      |some JQ=>
       rw[g] at H;simp only[aD,aM] at H;obtain⟨rfl,rfl⟩:=H;obtain⟨B,x,E,w⟩:=Eh l i h.tab j k u d h.Fh;have R:=Ee h E w;obtain⟨T',L,M,O⟩:=Eh l i E j k n g w;obtain⟨v',J,⟨U,Q⟩,S⟩:=Ra l i R z j k ⟨D.K,D.out⟩;have P:=i.le S.le;have C:v'.T=B/\v'.now=v.now:=by rw[Q];exact⟨rfl,rfl⟩
       have I:=Ee S.nd (JQ:=JQ) (T':=T') (M.imp fun _ _ h=>h.MW) O;refine⟨_,{v' with T:=T'},.used,?_,⟨S.le,I,S.out,S.msg,S.len⟩⟩;rw[if_neg aV];rw[show zH (who c id).f (who c id).id v.now (G.rq t) v.T=some B by rw[h.now];exact x];simp only[Option.bind_some];rw[J];simp only[Option.bind_some];rw[if_pos ⟨by trivial,q⟩,show zH (who c id).f src v'.now (G.rq t) v'.T=some T' by rw[C.1,C.2,h.now];exact L];rfl
end
end
section
open Tok (TM)
section
variable{c:Tok.qM}{G:mF}{N:Nat}{s s' s1 s2:Tok.Nd}{v v' v1 v2:ql}{o o1 o2:Tok.Out}{K1 K2:KS}{k j seq id now node:Nat}{ins:List Tok.Sl}{sl sl':Tok.Sl}{i:Ba}{p p':uo}{t:Nat}{b:LN}{m:TM}
theorem ZP(d:sS c G)(a:Gl G b): ∀(i:Nat) (r q:Rq),(G.qR b)[i]?=some r->(G.qR b)[i+1]?=some q->zT r q= -1:=fun i r q h H=>by
 unfold mF.qR at h H;rw[aS] at h H
 cases e:b[i]? with
 |none=>rw[e] at h;cases h
 |some x=>
  cases E:b[i+1]? with
  |none=>rw[E] at H;cases H
  |some y=>
   rw[e] at h;rw[E] at H;injection h with h;injection H with H;subst h;subst H;obtain⟨l,g⟩:=ah.1 e;obtain⟨L,j⟩:=ah.1 E;have lt:=eO.1 a.rise i (i+1) l L aR;rw[g,j] at lt;have X:=a.up x (ak e);have Y:=a.up y (ak E);have m:x≠0:=fun k=>by have:=a.one (k▸ak e);omega
   have R:=d.rq x aR X.2;have f:=d.rq y aR Y.2;exact EJ (by rw[R.1,f.1]) (by rw[R.2.1,f.2.1];omega)
theorem Ny(H:sS c G)(h:Gl G b):Es G.K (G.qR b):=⟨fun r a=>mF.yZ H h r a,ZP H h,by unfold mF.qR;rw[aT];exact h.two⟩
theorem Wp(C:sS c G)(h:tO c G N s v)(x:Gl G b)(a:Tok.pre k (j+1) b s=some s'): ∃v',Oz k j (G.qR b) (G.K,v)=some (G.K,v')/\tO c G N s' v'/\v'.out=v.out:=by
 unfold Tok.pre at a;rw[oV] at a
 cases g:s.insts[k]? with
 |none=>rw[g] at a;cases a
 |some ins=>
  rw[g] at a
  cases t:Tok.tV s k (j+1) with
  |none=>rw[t] at a;cases a
  |some sl=>
   rw[t] at a;simp only at a;obtain⟨J,I,y,e,u⟩:=Cq t;obtain rfl:J=j:=aR;rw[g] at e;injection e with e;subst e;split at a
   ·rename_i H
    injection a with a;subst a;rw[bX] at H;obtain⟨i,p,d,r,B,l,m,o,z⟩:=zW h g u;have f:oh i.ps=Tok.doneN ins:=by obtain⟨D,q,w⟩:=h.at_ k ins g;unfold ql.pl at d;rw[q] at d;simp only[Option.bind_some,aK,aM] at d;obtain⟨_,_,rfl,_⟩:=d;exact w.done
    have A:=eD H.1;have n:sl.has=false:=by simpa using H.2
    refine⟨v.put k J {p with has:=true,b:=G.qR b},?_,Bq h g u ⟨rfl,rfl,l.2.2.1,l.2.2.2.1,l.2.2.2.2.1,l.2.2.2.2.2⟩ ⟨x,m.gy,m.col,m.pr,m.co,m.done⟩ rfl,rfl⟩;unfold Oz;rw[show((G.K,v):KN).2.pl k J=some (i,p) from d];simp only[Option.bind_some];rw[nQ ⟨r,by rw[l.1];exact n,o,by rw[f];omega⟩];rfl
   cases a
theorem ahE(n:vD c)(d:sS c G)(h:tO c G N s v)(e:id<c.n)(f:Gl G b)(p:k<=c.f)(H:Tok.takeN c id (.pp k k (j+1) b) s=some (s',o))(i:Room G v o):
  ∃K v',ppV (who c id) (G.ms (.pp k k (j+1) b)) k j (G.K,v)=some ((K,v'),.used)/\uF c G N v s' o K v':=by
 rw[show Tok.takeN c id (.pp k k (j+1) b) s=(match Tok.pre k (j+1) b s with
  |some s1=>Tok.accepted c id k (j+1) b s1
  |none=>none) from rfl] at H
 cases a:Tok.pre k (j+1) b s with
 |none=>rw[a] at H;cases H
 |some s1=>
  rw[a] at H;simp only at H;obtain⟨q,E,R,g⟩:=Wp d h f a;obtain⟨l,V,m,S⟩:=Vk n d R e H ⟨i.K,by rw[g];exact i.out⟩;refine⟨l,V,?_,⟨S.le,S.nd,by rw[S.out,g],S.msg,S.len⟩⟩;unfold ppV;rw[nQ (show Es G.K (G.ms (.pp k k (j+1) b)).batch/\(G.ms (.pp k k (j+1) b)).view=v.view/\(G.ms (.pp k k (j+1) b)).inst=k/\(G.ms (.pp k k (j+1) b)).seq=(j:Int)+1 from⟨Ny d f,h.view.symm,rfl,rfl⟩)];simp only[Option.bind_some];rw[show(G.ms (.pp k k (j+1) b)).batch=G.qR b from rfl,E];simp only[Option.bind_some];rw[m];rfl
theorem YI(M:vD c)(w:sS c G)(h:tO c G N s v)(z:id<c.n)(E:vH c G (.uf src k (j+1) b))(H:Tok.takeN c id (.uf src k (j+1) b) s=some (s',o))(F:Room G v o):
  ∃K v' a,AU (who c id) (G.ms (.uf src k (j+1) b)) (num G.K (G.key (.uf src k (j+1) b))) src k j (G.K,v)=some ((K,v'),a)/\uF c G N v s' o K v':=by
 have y:=E.form.2.2;rw[show Tok.takeN c id (.uf src k (j+1) b) s=(match Tok.tV s k (j+1) with
  |none=>none
  |some sl=>match Tok.uw sl.pr src with
   |some none=>Tok.looked c id k (j+1) (Tok.su s k (j+1) {sl with pr:=Tok.vG sl.pr src (some b)})
   |some (some _)=>some (s,[])
   |none=>none) from rfl] at H
 cases A:Tok.tV s k (j+1) with
 |none=>rw[A] at H;cases H
 |some sl=>
  rw[A] at H;simp only[oV,qD] at H;obtain⟨J,T,O,D,C⟩:=Cq A;obtain rfl:J=j:=aR;obtain⟨i,p,t,r,Q,l,n,m,P⟩:=zW h D C
  cases f:sl.pr[src]? with
  |none=>rw[f] at H;cases H
  |some ov=>
   cases ov with
   |some x=>
    rw[f] at H;simp only[aD,aM] at H;obtain⟨rfl,rfl⟩:=H;have d:=El G 4 k (J+1) sl.pr 0 src (some x) (by rw[oV];exact f);rw[<-l.2.2.1] at d;refine⟨G.K,v,.stale,?_,uF.refl h⟩;unfold AU;rw[nQ (show Es G.K (G.ms (.uf src k (J+1) b)).batch/\(G.ms (.uf src k (J+1) b)).view=v.view/\(G.ms (.uf src k (J+1) b)).inst=k/\(G.ms (.uf src k (J+1) b)).seq=(J:Int)+1/\(G.ms (.uf src k (J+1) b)).sender=src/\J<16 from⟨Ny w y,h.view.symm,rfl,rfl,rfl,m⟩)];simp only[Option.bind_some];rw[show((G.K,v):KN).2.pl k J=some (i,p) from t];simp only[Option.bind_some];rw[if_pos (show(G.ms (.uf src k (J+1) b)).kind=4 from rfl),nQ ⟨r,(ah.1 d).1⟩];simp only[Option.bind_some];rw[if_neg (by rw[d];simp)]
   |none=>
    rw[f] at H;simp only at H;have u:src<sl.pr.length:=(ah.1 f).1;have q:G.BO 4 src k (J+1) b∈G.K:=E.has;have d:p.pr[src]?=some none:=by rw[l.2.2.1];have:=El G 4 k (J+1) sl.pr 0 src none (by rw[oV];exact f);simpa using this
    have R:tO c G N (Tok.su s k (J+1) {sl with pr:=sl.pr.set src (some b)}) (v.put k J {p with pr:=p.pr.set src (some (num G.K (G.key (.uf src k (J+1) b)),G.qR b))}):=
     Bq h D C ⟨l.1,l.2.1,by
      have:=En G 4 k (J+1) b sl.pr 0 src u;rw[qD,aO] at this;rw[this,<-l.2.2.1];rfl,l.2.2.2.1,l.2.2.2.2.1,l.2.2.2.2.2⟩ ⟨n.b,by show(sl.pr.set src _).length=_;rw[bG];exact n.gy,n.col,fun a B g=>by
      replace g:(sl.pr.set src (some b))[a]?=some (some B):=g;by_cases e:src=a
      ·subst e
       rw[aL u] at g;injection g with g;injection g with g;rw[<-g];exact⟨y,q⟩
      rw[aX e] at g;exact n.pr a B g,n.co,n.done⟩ rfl
    obtain⟨I,V,L,S⟩:=Jj M w R z H ⟨F.K,F.out⟩;refine⟨I,V,.used,?_,⟨S.le,S.nd,S.out,S.msg,S.len⟩⟩;unfold AU;rw[nQ (show Es G.K (G.ms (.uf src k (J+1) b)).batch/\(G.ms (.uf src k (J+1) b)).view=v.view/\(G.ms (.uf src k (J+1) b)).inst=k/\(G.ms (.uf src k (J+1) b)).seq=(J:Int)+1/\(G.ms (.uf src k (J+1) b)).sender=src/\J<16 from⟨Ny w y,h.view.symm,rfl,rfl,rfl,m⟩)];simp only[Option.bind_some];rw[show((G.K,v):KN).2.pl k J=some (i,p) from t];simp only[Option.bind_some];rw[if_pos (show(G.ms (.uf src k (J+1) b)).kind=4 from rfl),nQ ⟨r,(ah.1 d).1⟩];simp only[Option.bind_some];rw[if_pos d];rw[show(G.ms (.uf src k (J+1) b)).batch=G.qR b from rfl,L];rfl
theorem YJ(M:vD c)(w:sS c G)(h:tO c G N s v)(z:id<c.n)(E:vH c G (.com src k (j+1) b))(H:Tok.takeN c id (.com src k (j+1) b) s=some (s',o))(F:Room G v o):
  ∃K v' a,AU (who c id) (G.ms (.com src k (j+1) b)) (num G.K (G.key (.com src k (j+1) b))) src k j (G.K,v)=some ((K,v'),a)/\uF c G N v s' o K v':=by
 have y:=E.form.2.2;rw[show Tok.takeN c id (.com src k (j+1) b) s=(match Tok.tV s k (j+1) with
  |none=>none
  |some sl=>match Tok.uw sl.co src with
   |some none=>Tok.looked c id k (j+1) (Tok.su s k (j+1) {sl with co:=Tok.vG sl.co src (some b)})
   |some (some _)=>some (s,[])
   |none=>none) from rfl] at H
 cases A:Tok.tV s k (j+1) with
 |none=>rw[A] at H;cases H
 |some sl=>
  rw[A] at H;simp only[oV,qD] at H;obtain⟨J,T,O,D,C⟩:=Cq A;obtain rfl:J=j:=aR;obtain⟨i,p,t,r,Q,l,n,m,P⟩:=zW h D C
  cases f:sl.co[src]? with
  |none=>rw[f] at H;cases H
  |some ov=>
   cases ov with
   |some x=>
    rw[f] at H;simp only[aD,aM] at H;obtain⟨rfl,rfl⟩:=H;have d:=El G 5 k (J+1) sl.co 0 src (some x) (by rw[oV];exact f);rw[<-l.2.2.2.1] at d;refine⟨G.K,v,.stale,?_,uF.refl h⟩;unfold AU;rw[nQ (show Es G.K (G.ms (.com src k (J+1) b)).batch/\(G.ms (.com src k (J+1) b)).view=v.view/\(G.ms (.com src k (J+1) b)).inst=k/\(G.ms (.com src k (J+1) b)).seq=(J:Int)+1/\(G.ms (.com src k (J+1) b)).sender=src/\J<16 from⟨Ny w y,h.view.symm,rfl,rfl,rfl,m⟩)];simp only[Option.bind_some];rw[show((G.K,v):KN).2.pl k J=some (i,p) from t];simp only[Option.bind_some];rw[if_neg (show ¬(G.ms (.com src k (J+1) b)).kind=4 by show ¬(5:Int)=4;decide),nQ ⟨rfl,r,(ah.1 d).1⟩];simp only[Option.bind_some];rw[if_neg (by rw[d];simp)]
   |none=>
    rw[f] at H;simp only at H;have u:src<sl.co.length:=(ah.1 f).1;have q:G.BO 5 src k (J+1) b∈G.K:=E.has;have d:p.co[src]?=some none:=by rw[l.2.2.2.1];have:=El G 5 k (J+1) sl.co 0 src none (by rw[oV];exact f);simpa using this
    have R:tO c G N (Tok.su s k (J+1) {sl with co:=sl.co.set src (some b)}) (v.put k J {p with co:=p.co.set src (some (num G.K (G.key (.com src k (J+1) b)),G.qR b))}):=
     Bq h D C ⟨l.1,l.2.1,l.2.2.1,by
      have:=En G 5 k (J+1) b sl.co 0 src u;rw[qD,aO] at this;rw[this,<-l.2.2.2.1];rfl,l.2.2.2.2.1,l.2.2.2.2.2⟩ ⟨n.b,n.gy,by show(sl.co.set src _).length=_;rw[bG];exact n.col,n.pr,fun a B g=>by
      replace g:(sl.co.set src (some b))[a]?=some (some B):=g;by_cases e:src=a
      ·subst e
       rw[aL u] at g;injection g with g;injection g with g;rw[<-g];exact⟨y,q⟩
      rw[aX e] at g;exact n.co a B g,n.done⟩ rfl
    obtain⟨I,V,L,S⟩:=Jj M w R z H ⟨F.K,F.out⟩;refine⟨I,V,.used,?_,⟨S.le,S.nd,S.out,S.msg,S.len⟩⟩;unfold AU;rw[nQ (show Es G.K (G.ms (.com src k (J+1) b)).batch/\(G.ms (.com src k (J+1) b)).view=v.view/\(G.ms (.com src k (J+1) b)).inst=k/\(G.ms (.com src k (J+1) b)).seq=(J:Int)+1/\(G.ms (.com src k (J+1) b)).sender=src/\J<16 from⟨Ny w y,h.view.symm,rfl,rfl,rfl,m⟩)];simp only[Option.bind_some];rw[show((G.K,v):KN).2.pl k J=some (i,p) from t];simp only[Option.bind_some];rw[if_neg (show ¬(G.ms (.com src k (J+1) b)).kind=4 by show ¬(5:Int)=4;decide),nQ ⟨rfl,r,(ah.1 d).1⟩];simp only[Option.bind_some];rw[if_pos d];rw[show(G.ms (.com src k (J+1) b)).batch=G.qR b from rfl,L];rfl
theorem Ww(b:vD c)(H:Vs c.n c.q vs)(z:Nat->Int):Ih (c.f:Int) (vs.map fun i:Nat=>((i:Int),z i)):=by
 have e:=b.n;have d:=b.q;refine⟨by rw[aT,H.len,d];omega,fun i h=> ?_,fun v a=> ?_⟩
 ·rw[aT] at h
  have:=eO.1 H.rise i (i+1) aR h aR;simp only[bE,aS,aj h,aj (show i<vs.length by omega),Option.map_some,Option.getD_some];omega
 obtain⟨i,h,rfl⟩:=bM.1 a;have:=H.lt i h;exact⟨by show(0:Int)<=i;omega,by show(i:Int)<_;omega⟩
theorem pK{a l h:Int}(H:l<=a)(b:a<=h):qU a l h=true:=decide_eq_true ⟨H,b⟩
theorem Yk(y:vD c)(w:sS c G)(Q:G.K.length<=900000)(h:tO c G N s v)(B:id<c.n)(E:vH c G (.proof src k (j+1) b vs))(H:Tok.takeN c id (.proof src k (j+1) b vs) s=some (s',o))(A:Room G v o):
  ∃K v' a,Cw (who c id) (G.ce k (j+1) b vs) (G.K,v)=some ((K,v'),a)/\uF c G N v s' o K v':=by
 obtain⟨Z,t,g,F⟩:=E.form;rw[show Tok.takeN c id (.proof src k (j+1) b vs) s=(match Tok.tV s k (j+1) with
  |some sl=>match sl.done with
   |some _=>some (s,[])
   |none=>Tok.Cj c id k b (Tok.su s k (j+1) {sl with done:=some (b,vs)})
  |none=>none) from rfl] at H
 cases f:Tok.tV s k (j+1) with
 |none=>rw[f] at H;cases H
 |some sl=>
  rw[f] at H;simp only at H;obtain⟨J,X,U,O,L⟩:=Cq f;obtain rfl:J=j:=aR;obtain⟨i,p,u,V,W,d,l,M,C⟩:=zW h O L;have T:=y.f4;have two:=g.two;have pm:=t.most;have fit:adC G.K (who c id).f (G.ce k (J+1) b vs):=by refine⟨pK (by show(0:Int)<=0;decide) (by show(0:Int)<=12;decide),pK (by show(0:Int)<=k;omega) (by show(k:Int)<=c.f;omega),pK (by show(1:Int)<=((J+1:Nat):Int);omega) (by show((J+1:Nat):Int)<=16;omega),fun r A=>mF.yZ w g r A,ZP w g,by show(b.map _).length<=4;rw[aT];omega,Ww y F _,fun x hx=> ?_⟩;obtain⟨a,I,rfl⟩:=bM.1 hx;have D:=F.lt a I;have P:=MB (m:= .com a k (J+1) b) y w Q ⟨D,t,g⟩;exact⟨P.1,by show(dF (G.ms (.com a k (J+1) b))).length<=_;have:=P.2;omega,E.has.2 a I,rfl⟩
  unfold Cw;rw[nQ fit,show(G.ce k (J+1) b vs).inst.toNat=k from rfl,show((G.ce k (J+1) b vs).seq -1).toNat=J by show(((J+1:Nat):Int) -1).toNat=J;omega];simp only[Option.bind_some];rw[show((G.K,v):KN).2.pl k J=some (i,p) from u];simp only[Option.bind_some]
  cases z:sl.done with
  |some q=>
   rw[z] at H;simp only[aD,aM] at H;obtain⟨rfl,rfl⟩:=H;rw[if_pos (by rw[d.2.2.2.2.2,z];rfl)];exact⟨G.K,v,.stale,rfl,uF.refl h⟩
  |none=>
   rw[z] at H;simp only at H;rw[if_neg (by rw[d.2.2.2.2.2,z];simp)];have R:tO c G N (Tok.su s k (J+1) {sl with done:=some (b,vs)}) (v.put k J {p with done:=some (G.ce k (J+1) b vs)}):=
    Bq h O L ⟨d.1,d.2.1,d.2.2.1,d.2.2.2.1,d.2.2.2.2.1,rfl⟩ ⟨l.b,l.gy,l.col,l.pr,l.co,fun Y v' n=>by simp only[aD,aM] at n;obtain⟨rfl,rfl⟩:=n;exact⟨g,F,E.has.2⟩⟩ rfl
   obtain⟨K,v',e,S⟩:=adt y w R B g C H ⟨A.K,A.out⟩;refine⟨K,v',.used,?_,⟨S.le,S.nd,S.out,S.msg,S.len⟩⟩;rw[show(G.ce k (J+1) b vs).batch=G.qR b from rfl,e];rfl
theorem acg(p:vD c)(n:sS c G)(h:tO c G N s v)(f:id<c.n)(g:vH c G m)(i:Tok.takeN c id m s=some (s',o))(l:Room G v o):
  ∃K v' a,sP (who c id) (G.ms m) (num G.K (G.key m)) (G.K,v)=some ((K,v'),a)/\uF c G N v s' o K v':=by
 have q:G.K.length<=900000:=by have:=l.K;omega
 cases m with
 |req t=>
  obtain⟨K,v',a,e,S⟩:=aeD p n h f g.form.1 g.form.2 101 i l;exact⟨K,v',a,e,S⟩
 |prop src t=>
  obtain⟨K,v',a,e,S⟩:=OY p n h f src g.form.1 g.form.2.1 g.form.2.2 i l;exact⟨K,v',a,e,S⟩
 |pp src k d b=>
  obtain⟨rfl,H,r,u⟩:=g.form;obtain⟨j,rfl⟩: ∃j,d=j+1:=⟨d -1,by have:=H.one;omega⟩;obtain⟨K,v',e,S⟩:=ahE p n h f r H.k i l;refine⟨K,v',.used,?_,S⟩;show ppV (who c id) (G.ms (.pp src src (j+1) b)) ((src:Int).toNat) ((((j+1:Nat):Int) -1).toNat) (G.K,v)=_;rw[show(src:Int).toNat=src from rfl,show(((j+1:Nat):Int) -1).toNat=j by omega];exact e
 |uf src k d b=>
  have H:=g.form.2.1;obtain⟨j,rfl⟩: ∃j,d=j+1:=⟨d -1,by have:=H.one;omega⟩;obtain⟨K,v',a,e,S⟩:=YI p n h f g i l;refine⟨K,v',a,?_,S⟩;show AU (who c id) (G.ms (.uf src k (j+1) b)) (num G.K (G.key (.uf src k (j+1) b))) ((src:Int).toNat) ((k:Int).toNat) ((((j+1:Nat):Int) -1).toNat) (G.K,v)=_;rw[show(src:Int).toNat=src from rfl,show(k:Int).toNat=k from rfl,show(((j+1:Nat):Int) -1).toNat=j by omega];exact e
 |com src k d b=>
  have H:=g.form.2.1;obtain⟨j,rfl⟩: ∃j,d=j+1:=⟨d -1,by have:=H.one;omega⟩;obtain⟨K,v',a,e,S⟩:=YJ p n h f g i l;refine⟨K,v',a,?_,S⟩;show AU (who c id) (G.ms (.com src k (j+1) b)) (num G.K (G.key (.com src k (j+1) b))) ((src:Int).toNat) ((k:Int).toNat) ((((j+1:Nat):Int) -1).toNat) (G.K,v)=_;rw[show(src:Int).toNat=src from rfl,show(k:Int).toNat=k from rfl,show(((j+1:Nat):Int) -1).toNat=j by omega];exact e
 |proof src k d b vs=>
  have H:=g.form.2.1;obtain⟨j,rfl⟩: ∃j,d=j+1:=⟨d -1,by have:=H.one;omega⟩;exact Yk p n q h f g i l
 |rep src t=>cases i
end
end
section
open Tok (TM)
section
variable{c:Tok.qM}{G:mF}{N:Nat}{s s' s1 s2:Tok.Nd}{v v' v1 v2:ql}{o o1 o2:Tok.Out}{K1 K2:KS}{k j seq id now node:Nat}{ins:List Tok.Sl}{sl sl':Tok.Sl}{i:Ba}{p p':uo}{t:Nat}{b:LN}{m:TM}
theorem ady(l:vD c)(e:sS c G)(o:G.K.length<=900000)(d:Ew c G m)(j: ∀a t,m≠ .rep a t):nU (c.f:Int) (G.ms m):=by
 have q:=l.n
 cases m with
 |req t=>
  have R:=e.rq t d.1 d.2;have C:=e.clb;have:=nU.req (f:=c.f) (G.rq t) R.2.2.valid (by rw[R.1];omega) (by rw[R.1];omega);rw[R.1,<-e.cl] at this;exact this
 |prop src t=>
  have R:=e.rq t d.2.1 d.2.2;have:=d.1;exact nU.prop src (G.rq t) (pK aR aR) R.2.2.valid
 |pp src k seq b=>
  obtain⟨rfl,h,H,i⟩:=d;have p1:=h.k;have p2:=h.one;have p3:=h.most;have two:=H.two;have L:1<=b.length:=by cases b with
   |nil=>exact absurd rfl i
   |cons=>simp
  exact nU.pp src seq (G.qR b) (pK aR aR) (pK aR aR) (pK aR aR) (fun r g=>(mF.yZ e H r g).valid) (by unfold mF.qR;rw[aT];exact pK aR aR)
 |uf src k seq b=>
  obtain⟨i,h,H⟩:=d;have p1:=h.k;have p2:=h.one;have p3:=h.most;have two:=H.two;exact nU.v4 src k seq (G.qR b) (pK aR aR) (pK aR aR) (pK aR aR) (fun r g=>(mF.yZ e H r g).valid) (by unfold mF.qR;rw[aT];exact pK aR aR)
 |com src k seq b=>
  obtain⟨i,h,H⟩:=d;have p1:=h.k;have p2:=h.one;have p3:=h.most;have two:=H.two;exact nU.v5 src k seq (G.qR b) (pK aR aR) (pK aR aR) (pK aR aR) (fun r g=>(mF.yZ e H r g).valid) (by unfold mF.qR;rw[aT];exact pK aR aR)
 |proof src k seq b vs=>
  obtain⟨i,h,H,n⟩:=d;have p1:=h.k;have p2:=h.one;have p3:=h.most;have two:=H.two;refine nU.proof src _ (pK aR aR) ⟨pK (by show(0:Int)<=0;decide) (by show(0:Int)<=12;decide),pK (by show(0:Int)<=k;omega) (by show(k:Int)<=c.f;omega),pK (by show(1:Int)<=seq;omega) (by show(seq:Int)<=16;omega),fun r g=>(mF.yZ e H r g).valid,by show qU ((b.map _).length:Int) 0 4=true;rw[aT];exact pK aR aR,Ww l n _,fun x hx=> ?_⟩;obtain⟨a,p,rfl⟩:=bM.1 hx;have:=yC G.K (G.BO 5 a k seq b);exact pK (by show 0<=num _ _;omega) (by show num _ _<=_;omega)
 |rep src t=>exact absurd rfl (j src t)
theorem abM(d:vD c)(b:sS c G)(h:tO c G N s v)(u:N<=900000)(f:id<c.n)(H:vH c G m)(k:Tok.takeN c id m s=some (s',o))(l:Room G v o):
  ∃K v',JD (who c id) (G.ms m) (num G.K (G.key m)) (G.bytes m) (G.K,v)=some (K,v')/\uF c G (N+1) v s' o K v':=by
 have j:G.K.length<=900000:=by have:=l.K;omega
 obtain⟨K,v',a,e,S⟩:=acg d b h f H k l;have O:=MB d b j H.form;have r:=yC G.K (G.key m);have i: ∀a t,m≠ .rep a t:=fun a t q=>by subst q;cases k
 have p:(G.bytes m).length<=65536:=by unfold mF.bytes;rw[av];have:=(qz (num G.K (G.key m)).toNat).2;have:=O.2;omega
 have fit:Vh G.K v (who c id).f (G.ms m) (num G.K (G.key m)) (G.bytes m):=
  ⟨qJ r.1 aR,⟨O.1,by have:=O.2;omega,mF.NU H.has,rfl⟩,rfl,p,ady d b j H.form i,h.stop,by have:=h.cnt;omega⟩
 have M: ∀v2:ql,(v2={v' with c0:=v'.c0+1}\/v2={v' with c2:=v'.c2+1})->uF c G (N+1) v s' o K v2:=fun v2 n=>by
  have g:=S.nd;have C:=g.cnt;rcases n with rfl|rfl
  ·exact⟨S.le,{g with cnt:=by show 0<=v'.c0+1/\v'.c0+1<=((N+1:Nat):Int)/\0<=v'.c2/\v'.c2<=((N+1:Nat):Int);omega},S.out,S.msg,S.len⟩
  exact⟨S.le,{g with cnt:=by show 0<=v'.c0/\v'.c0<=((N+1:Nat):Int)/\0<=v'.c2+1/\v'.c2+1<=((N+1:Nat):Int);omega},S.out,S.msg,S.len⟩
 unfold JD;rw[nQ fit];simp only[Option.bind_some];rw[e];simp only[Option.map_some]
 cases a with
 |used=>exact⟨K,_,rfl,M _ (.inl rfl)⟩
 |stale=>exact⟨K,_,rfl,M _ (.inr rfl)⟩
theorem MG: ∀(l:List Tok.Sl) (m:List uo) (q top:Nat),1<=q->l.length=m.length->(∀(j:Nat) (s:Tok.Sl) (p:uo),l[j]?=some s->m[j]?=some p->p.has=s.has)->Tok.Dz l q top=(if nP m=0 then top else q -1+nP m)+1
 | [],[],q,top,_,_,_=>rfl
 | [],_::_,q,top,_,h,_=>by simp at h
 |_::_,[],q,top,_,h,_=>by simp at h
 |s::l,p::m,q,top,hq,h,hd=>by
  have ih:=fun top=>MG l m (q+1) top aR (mR h) fun j s p h1 h2=>hd (j+1) s p (mR h1) (mR h2);have h0:=hd 0 s p rfl rfl;rw[Tok.Dz,ih,nP,h0];by_cases hn:nP m=0
  ·rw[if_pos hn]
   simp only[hn,if_true];cases s.has
   ·simp
   simp;omega
  rw[if_neg hn,if_neg hn,if_neg aR];omega
theorem VT(f:sS c G)(d:1<=t/\t<=G.nD.length)(g:Up G b):decide (G.rq t∈G.qR b)=b.any (Nat.beq t):=by
 rw[kG,decide_eq_true_eq,List.any_eq_true];constructor
 ·intro h
  obtain⟨a,H,e⟩:=bM.1 h;have:=f.inj a t (g a H) ⟨.inl d.1,d.2⟩ e;exact⟨a,H,by rw[this];exact lM t⟩
 rintro⟨a,H,e⟩;have:=bO e;rw[this];exact bM.2 ⟨a,H,rfl⟩
theorem RX(hG:sS c G)(h1:1<=t/\t<=G.nD.length): ∀(l:List Tok.Sl) (m:List uo) (j0:Nat),l.length=m.length->(∀(j:Nat) (s:Tok.Sl),l[j]?=some s-> ∃p,m[j]?=some p/\ZF G k (j0+j) s p/\Ci c G k (j0+j) s)->Ej (G.rq t) m=Tok.AQ t l
 | [],[],_,_,_=>rfl
 | [],_::_,_,h,_=>by simp at h
 |_::_,[],_,h,_=>by simp at h
 |s::l,p::m,j0,h,hd=>by
  have ih:=RX hG h1 l m (j0+1) (mR h) fun j s hs=>by obtain⟨p,h1,h2,h3⟩:=hd (j+1) s (mR hs);rw[show j0+1+j=j0+(j+1) by omega];exact⟨p,by simpa using h1,h2,h3⟩
  obtain⟨p',e,r,ok⟩:=hd 0 s rfl;simp only[List.getElem?_cons_zero,aD] at e;subst e;rw[Ej,ih,r.1,r.2.1,r.2.2.2.2.2,VT hG h1 ok.b.up];show _=((s.has&&s.b.any (Nat.beq t))||(match s.done with|some (b,_)=>b.any (Nat.beq t)|none=>false)||Tok.AQ t l)
  congr 2
  cases hdn:s.done with
  |none=>rfl
  |some q=>
   obtain⟨b,vs⟩:=q;exact VT hG h1 (ok.done b vs hdn).1.up
theorem Ar(hG:sS c G)(hI:InR c G k ins i): ∀{tab:List Tok.Td} {T:List oO} (acc:List Rq),acc.length<=2->uq (Li G now) tab T->FT i.ps (oZ T) acc=acc++G.qR (Tok.pick ins tab (2 -acc.length))
 |_,_,acc,_,.nil=>by simp[oZ,FT,Tok.pick,mF.qR]
 |_,_,acc,ha,.cons (a:=a) (b:=b) (l:=l) (m:=m) hd tl=>by
  have hu:Ej (G.rq a.t) i.ps=Tok.AQ a.t ins:=RX hG hd.t ins i.ps 0 (by rw[hI.l1,hI.l2]) fun j s hs=>by rw[aO];exact hI.at_ j s hs
  unfold oZ;rw[kg];have hrd:=hd.ready;by_cases hr:a.ready=true
  ·rw[if_pos (by rw[hrd];exact hr),bV,FT,hd.r,hu]
   by_cases h2:acc.length<2
   ·obtain⟨r,hr2⟩: ∃r,2 -acc.length=r+1:=⟨2 -acc.length -1,aR⟩
    rw[hr2,show Tok.pick ins (a::l) (r+1)=if a.ready&&!Tok.AQ a.t ins then a.t::Tok.pick ins l r else Tok.pick ins l (r+1) from rfl,hr];by_cases hus:Tok.AQ a.t ins=true
    ·rw[hus]
     simp only[lq,kR,dz,if_false];have:=Ar hG hI acc ha tl;rw[hr2] at this;exact this
    have hus:Tok.AQ a.t ins=false:=by simpa using hus
    rw[hus];simp only[mo,jU,if_true,decide_eq_true_eq,h2];have:=Ar hG hI (acc++ [G.rq a.t]) (by simp;omega) tl;rw[show 2 -(acc++ [G.rq a.t]).length=r by simp;omega] at this;unfold oZ at this;rw[this,bW];rfl
   have e2:acc.length=2:=aR;rw[if_neg (by simp[e2])];have:=Ar hG hI acc ha tl;rw[e2] at this|-;unfold oZ at this;rw[this];cases l<;>rfl
  rw[if_neg (by rw[hrd];exact hr)];have:=Ar hG hI acc ha tl;unfold oZ at this;rw[this]
  congr 1
  cases h2:2 -acc.length with
  |zero=>cases l<;>rfl
  |succ r=>
   rw[show Tok.pick ins (a::l) (r+1)=if a.ready&&!Tok.AQ a.t ins then a.t::Tok.pick ins l r else Tok.pick ins l (r+1) from rfl];have hr:a.ready=false:=by simpa using hr
   rw[hr];simp
end
end
section
open Tok (TM)
section
variable{c:Tok.qM}{G:mF}{N:Nat}{s s' s1 s2:Tok.Nd}{v v' v1 v2:ql}{o o1 o2:Tok.Out}{K1 K2:KS}{k j seq id now node:Nat}{ins:List Tok.Sl}{sl sl':Tok.Sl}{i:Ba}{p p':uo}{t:Nat}{b:LN}{m:TM}
theorem JF: ∀(l:LN),Tok.rises l=true->l.Pairwise (· < ·)
 | [],_=> .nil
 | [x],_=>by simp
 |x::y::l,h=>by
  rw[show Tok.rises (x::y::l)=(Nat.blt x y&&Tok.rises (y::l)) from rfl,bX] at h;have ih:=JF (y::l) h.2;have hlt:x<y:=by have:=h.1;rw[iA] at this;exact this
  refine eu.2 ⟨fun a ha=> ?_,ih⟩;rcases ay.1 ha with rfl|ha
  ·exact hlt
  have:=(eu.1 ih).1 a ha;omega
theorem Jt(ins:List Tok.Sl): ∀(tab:List Tok.Td) (r:Nat),(Tok.pick ins tab r).length<=r
 | [],r=>by simp[Tok.pick]
 |d::l,0=>by simp[Tok.pick]
 |d::l,r+1=>by
  rw[show Tok.pick ins (d::l) (r+1)=if d.ready&&!Tok.AQ d.t ins then d.t::Tok.pick ins l r else Tok.pick ins l (r+1) from rfl];split
  ·have:=Jt ins l r
   simp only[List.length_cons];omega
  exact Jt ins l (r+1)
theorem Ju(ins:List Tok.Sl): ∀(tab:List Tok.Td) (r t:Nat),t∈Tok.pick ins tab r-> ∃d∈tab,d.t=t
 | [],r,t,h=>by simp[Tok.pick] at h
 |d::l,0,t,h=>by simp[Tok.pick] at h
 |d::l,r+1,t,h=>by
  rw[show Tok.pick ins (d::l) (r+1)=if d.ready&&!Tok.AQ d.t ins then d.t::Tok.pick ins l r else Tok.pick ins l (r+1) from rfl] at h;split at h
  ·rcases ay.1 h with rfl|h
   ·exact⟨d,bJ,rfl⟩
   obtain⟨e,he,h'⟩:=Ju ins l r t h;exact⟨e,by simp[he],h'⟩
  obtain⟨e,he,h'⟩:=Ju ins l (r+1) t h;exact⟨e,by simp[he],h'⟩
theorem uq.left{α β:Type}{R:α->β->Prop}: ∀{l:List α} {m:List β},uq R l m-> ∀a∈l,∃b∈m,R a b
 |_,_,.nil,a,h=>by simp at h
 |_,_,.cons h t,a,ha=>by
  rcases ay.1 ha with rfl|ha
  ·exact⟨_,bJ,h⟩
  obtain⟨b,hb,hr⟩:=t.left a ha;exact⟨b,by simp[hb],hr⟩
theorem Rb(R:vD c)(B:sS c G)(h:tO c G N s v)(C:id<c.n)(a:Tok.propose c id k s=some (s',o))(E:Room G v o):
  ∃O v',Au (who c id) k (G.K,v)=some (O,v')/\uF c G N v s' o O v':=by
 unfold Tok.propose at a;rw[oV] at a
 cases L:s.insts[k]? with
 |none=>rw[L] at a;cases a
 |some ins=>
  rw[L] at a;simp only at a;obtain⟨i,hv,n⟩:=h.at_ k ins L;have y:k<=c.f:=by have:=(ah.1 L).1;rw[h.il] at this;omega
  have tl:=h.tab.len;have tb:=h.Fh;obtain⟨pl,P,M⟩:=h.nN k y;have fit:Vg (who c id) v i k:=⟨n.on,h.view,by show(k:Int)<=c.f;omega,aR,n.l2,⟨pl,P,M⟩⟩;have F:Tok.Dz ins 1 0=nP i.ps+1:=by
   rw[MG ins i.ps 1 0 (aF 1) (by rw[n.l1,n.l2]) fun j s p h1 h2=>by obtain⟨p',J,h4,_⟩:=n.at_ j s h1;rw[h2] at J;injection J with J;subst J;exact h4.1]
   split<;>omega
  unfold Au;rw[show((G.K,v):KN).2.is[k]?=some i from hv];simp only[Option.bind_some];rw[nQ fit];simp only[Option.bind_some];rw[F] at a;have f:=n.done;by_cases H:k≠id\/16<=nP i.ps\/oh i.ps+4<=nP i.ps
  ·have w:(!Nat.beq k id||Nat.blt 16 (nP i.ps+1)||Nat.blt (Tok.doneN ins+4) (nP i.ps+1))=true:=by
    rw[eZ,eZ];rcases H with h|h|h
    ·left;left
     have:Nat.beq k id=false:=by rw[jT];exact fun e=>h (bO e)
     rw[this];rfl
    ·left;right
     rw[iA];omega
    right;rw[iA,<-f];omega
   rw[if_pos w] at a;rw[if_pos (show k≠(who c id).id\/16<=nP i.ps\/oh i.ps+4<=nP i.ps from H)];simp only[aD,aM] at a;obtain⟨rfl,rfl⟩:=a;exact⟨G.K,v,rfl,uF.refl h⟩
  have m:k=id:=Classical.byContradiction fun e=>H (.inl e);have a0:nP i.ps<16:=jq fun e=>H (.inr (.inl e));have K:nP i.ps<oh i.ps+4:=jq fun e=>H (.inr (.inr e));have w: ¬(!Nat.beq k id||Nat.blt 16 (nP i.ps+1)||Nat.blt (Tok.doneN ins+4) (nP i.ps+1))=true:=by
   rw[eZ,eZ,m,lM,iA,iA,<-f];rintro((h|h)|h)
   ·cases h
   ·omega
   omega
  rw[if_neg w] at a;rw[if_neg (show ¬(k≠(who c id).id\/16<=nP i.ps\/oh i.ps+4<=nP i.ps) from H)];have D:=Ar B n [] bJ h.tab;rw[List.nil_append,List.length_nil,Nat.sub_zero] at D;rw[D];obtain⟨b,u⟩:=ex (Tok.pick ins s.tab 2);rw[<-u] at a|-
  cases b with
  |nil=>
   simp only[aD,aM] at a;obtain⟨rfl,rfl⟩:=a;exact⟨G.K,v,by rw[if_pos (show G.qR []= [] from rfl)],uF.refl h⟩
  |cons x b=>
   simp only at a;rw[if_neg (show ¬G.qR (x::b)= [] by simp[mF.qR])];split at a
   ·rename_i z
    have g: ∀t∈x::b,1<=t/\t<=G.nD.length:=fun t I=>by rw[u] at I;obtain⟨d,hd,rfl⟩:=Ju ins s.tab 2 t I;obtain⟨e,_,E⟩:=h.tab.left d hd;exact E.t
    have Q:Gl G (x::b):=⟨fun t I=>⟨.inl (g t I).1,(g t I).2⟩,by rw[u];exact Jt _ _ _,JF _ z,fun h0=>absurd (g 0 h0).1 aR⟩
    cases l:Tok.pre k (nP i.ps+1) (x::b) s with
    |none=>rw[l] at a;cases a
    |some s1=>
     rw[l] at a;simp only at a
     cases r:Tok.accepted c id k (nP i.ps+1) (x::b) s1 with
     |none=>rw[r] at a;cases a
     |some q=>
      obtain⟨s2,o2⟩:=q;rw[r] at a;simp only[aD,aM] at a;obtain⟨rfl,rfl⟩:=a;obtain⟨V,Z,W,T⟩:=Wp B h Q l;have X:=abG W y (nP i.ps+1) (v.view+1);have hM:({(⟨3,0,v.view,k,(nP i.ps:Int)+1,0,G.qR (x::b),[],[]⟩:Ms) with sender:=(id:Int)}:Ms)=G.ms (.pp k k (nP i.ps+1) (x::b)):=by rw[h.view,m];rfl
      obtain⟨v3,e3,_,A⟩:=Ed R B X C _ (.pp k k (nP i.ps+1) (x::b)) hM ⟨rfl,⟨y,aR,aR⟩,Q,bJ⟩ trivial ⟨E.left.K,by show V.out.length+_<=_;rw[T];exact E.left.out⟩;have S:uF c G N v s1 (Tok.sendAll c.n id (.pp k k (nP i.ps+1) (x::b)) c.n) _ v3:=⟨A.le,A.nd,by rw[A.out];show V.out++_=_;rw[T],A.msg,A.len⟩;obtain⟨U,v4,e4,Y⟩:=Vk R (B.le S.le) S.nd C r (E.right S);refine⟨U,v4,?_,S.then B Y⟩;rw[Z];simp only[Option.bind_some];rw[e3];simp only[Option.bind_some];exact e4
   cases a
theorem DL(hc:vD c)(hid:id<c.n): ∀(m k:Nat) (G:mF) (s s':Tok.Nd) (v:ql) (o:Tok.Out),sS c G->tO c G N s v->Tok.tF c id m k s=some (s',o)->Room G v o-> ∃K' v',tN (who c id) m k (G.K,v)=some (K',v')/\uF c G N v s' o K' v'
 |0,k,G,s,s',v,o,hG,h,hp,hr=>by simp only[Tok.tF,aD,aM] at hp;obtain⟨rfl,rfl⟩:=hp;exact⟨G.K,v,rfl,uF.refl h⟩
 |m+1,k,G,s,s',v,o,hG,h,hp,hr=>by
  rw[Tok.tF] at hp
  cases h1:Tok.propose c id k s with
  |none=>rw[h1] at hp;cases hp
  |some q=>
   obtain⟨s1,o1⟩:=q;rw[h1] at hp;simp only at hp
   cases h2:Tok.tF c id m (k+1) s1 with
   |none=>rw[h2] at hp;cases hp
   |some q=>
    obtain⟨s2,o2⟩:=q;rw[h2] at hp;simp only[aD,aM] at hp;obtain⟨rfl,rfl⟩:=hp;obtain⟨K1,v1,e1,S1⟩:=Rb hc hG h hid h1 hr.left;obtain⟨K2,v2,e2,S2⟩:=DL hc hid m (k+1) (G.at K1) s1 s2 v1 o2 (hG.le S1.le) S1.nd h2 (hr.right S1);refine⟨K2,v2,?_,S1.then hG S2⟩;rw[tN,e1];exact e2
theorem Cx(hc:vD c)(hid:id<c.n): ∀(rest:List (List Tok.Sl)) (k:Nat) (G:mF) (s:Tok.Nd) (v:ql) (o:Tok.Out),sS c G->tO c G N s v->s.insts.drop k=rest->Tok.proofs c id s.now rest k=some o->Room G v o-> ∃K' v',wX (who c id) rest.length k (G.K,v)=some (K',v')/\(∃O0,v'={v with out:=O0})/\uF c G N v s o K' v'
 | [],k,G,s,v,o,hG,h,hd,hp,hr=>by simp only[Tok.proofs,aD] at hp;subst hp;exact⟨G.K,v,rfl,⟨v.out,rfl⟩,uF.refl h⟩
 |ins::rest,k,G,s,v,o,hG,h,hd,hp,hr=>by
  have hk:s.insts[k]?=some ins:=by have:=congrArg (fun l=>l[0]?) hd;simpa using this
  have hd':s.insts.drop (k+1)=rest:=by rw[<-lX,hd];rfl
  have Qv:k<=c.f:=by have:=(ah.1 hk).1;rw[h.il] at this;omega
  obtain⟨i,hv,hI⟩:=h.at_ k ins hk;rw[Tok.proofs] at hp
  cases h1:Tok.proofs c id s.now rest (k+1) with
  |none=>rw[h1] at hp;cases hp
  |some o2=>
   rw[h1] at hp;simp only at hp;rw[List.length_cons,wX,show((G.K,v):KN).2.is[k]?=some i from hv];simp only[Option.bind_some];rw[hI.done];by_cases h0:Tok.doneN ins=0
   ·rw[if_pos (by rw[h0];rfl)] at hp
    injection hp with hp;subst hp;rw[if_pos h0];simp only[Option.bind_some];exact Cx hc hid rest (k+1) G s v o2 hG h hd' h1 hr
   rw[if_neg (fun e=>h0 (bO e)),oV,fG] at hp;rw[if_neg h0,show((G.K,v):KN).2.now.toNat=s.now by show v.now.toNat=_;rw[h.now];rfl]
   cases hsl:ins[s.now/2%Tok.doneN ins]? with
   |none=>rw[hsl] at hp;cases hp
   |some sl=>
    rw[hsl] at hp;simp only at hp;obtain⟨p,hp1,r1,r2⟩:=hI.at_ _ sl hsl
    cases hdn:sl.done with
    |none=>rw[hdn] at hp;cases hp
    |some q=>
     obtain⟨b,vs⟩:=q;rw[hdn] at hp;simp only[aD] at hp;subst hp;have xM:s.now/2%Tok.doneN ins<16:=by have:=(ah.1 hsl).1;rw[hI.l1] at this;exact this
     obtain⟨d1,d2,d3⟩:=r2.done b vs hdn;rw[hp1,Option.bind_some,r1.2.2.2.2.2,hdn];simp only[Option.map_some,Option.bind_some];have e1':1+s.now/2%Tok.doneN ins=s.now/2%Tok.doneN ins+1:=aR;rw[e1'] at hr|-;obtain⟨v1,e1,⟨O1,hO1⟩,S1⟩:=Ed hc hG h hid ⟨9,0,0,0,0,0,[],[],[G.ce k (s.now/2%Tok.doneN ins+1) b vs]⟩ (.proof id k (s.now/2%Tok.doneN ins+1) b vs) rfl ⟨hid,⟨Qv,aR,aR⟩,d1,d2⟩ d3 hr.left;obtain⟨K2,v2,e2,⟨O2,hO2⟩,S2⟩:=Cx hc hid rest (k+1) (G.at _) s v1 o2 (hG.le S1.le) S1.nd hd' h1 (hr.right S1);refine⟨K2,v2,?_,⟨O2,by rw[hO2,hO1]⟩,S1.then hG S2⟩;rw[e1];simp only[Option.map_some,Option.bind_some];exact e2
theorem acy(hc:vD c)(hid:id<c.n): ∀(rest:List Tok.Sl) (j:Nat) (G:mF) (s:Tok.Nd) (v:ql) (o:Tok.Out),sS c G->tO c G N s v->s.insts[k]?=some ins->ins.drop j=rest->Tok.kQ c id k rest (j+1)=some o->Room G v o-> ∃K' v',lI (who c id) k rest.length j (G.K,v)=some (K',v')/\(∃O0,v'={v with out:=O0})/\uF c G N v s o K' v'
 | [],j,G,s,v,o,hG,h,hk,hd,hp,hr=>by simp only[Tok.kQ,aD] at hp;subst hp;exact⟨G.K,v,rfl,⟨v.out,rfl⟩,uF.refl h⟩
 |sl::rest,j,G,s,v,o,hG,h,hk,hd,hp,hr=>by
  have hj:ins[j]?=some sl:=by have:=congrArg (fun l=>l[0]?) hd;simpa using this
  have hd':ins.drop (j+1)=rest:=by rw[<-lX,hd];rfl
  obtain⟨i,p,hpl,hon,hvw,h1,h2,xM,Qv⟩:=zW h hk hj;have hpc:Plc c k (j+1):=⟨Qv,aR,aR⟩;rw[Tok.kQ] at hp
  cases h3:Tok.kQ c id k rest (j+1+1) with
  |none=>rw[h3] at hp;cases hp
  |some o2=>
   rw[h3] at hp;simp only at hp;rw[List.length_cons,lI];unfold aiq;rw[show((G.K,v):KN).2.pl k j=some (i,p) from hpl];simp only[Option.bind_some];by_cases hgo:sl.has=true/\sl.done=none
   ·rw[if_pos (by rw[hgo.1,hgo.2];rfl)] at hp
    rw[if_pos ⟨by rw[h1.1];exact hgo.1,by rw[h1.2.2.2.2.2,hgo.2];rfl⟩];split at hp
    ·cases hp
    rename_i hne;simp only[aD] at hp;subst hp;have b2:=h2.b.two;rw[nQ (show k≠(who c id).id/\p.b.length<=4096 from⟨fun e=>hne (by rw[e];exact lM _),by rw[h1.2.1];unfold mF.qR;rw[aT];omega⟩)];obtain⟨l,l1,l2,l3⟩:=h.nG k ins hk;rw[show((G.K,v):KN).2.nG[k]?=some l from l1];simp only[Option.bind_some];rw[l3 j sl hj,h1.2.1];simp only[Option.bind_some];obtain⟨v1,e1,⟨O1,hO1⟩,S1⟩:=Ed hc hG h hid ⟨4,0,v.view,k,(j:Int)+1,0,G.qR sl.b,[],[]⟩ (.uf id k (j+1) sl.b) (by rw[h.view];rfl) ⟨hid,hpc,h2.b⟩ trivial hr.left;rw[e1];simp only[Option.bind_some];have hr2:=hr.right S1;rw[show(v.view+1:Int)=1 by rw[h.view];rfl]
    cases ht:sl.told with
    |true=>
     rw[ht] at hr2;simp only[if_true] at hr2|-;obtain⟨v2,e2,⟨O2,hO2⟩,S2⟩:=Ed hc (hG.le S1.le) S1.nd hid ⟨5,0,v.view,k,(j:Int)+1,0,G.qR sl.b,[],[]⟩ (.com id k (j+1) sl.b) (by rw[h.view];rfl) ⟨hid,hpc,h2.b.le⟩ trivial hr2.left;rw[show((G.at (sealed G.K (G.key (.uf id k (j+1) sl.b)))).K,v1)=(sealed G.K (G.key (.uf id k (j+1) sl.b)),v1) from rfl] at e2;rw[e2];simp only[Option.map_some,Option.bind_some];have S12:=S1.then hG S2;obtain⟨K3,v3,e3,⟨O3,hO3⟩,S3⟩:=acy hc hid rest (j+1) (G.at _) s v2 o2 (hG.le S12.le) S12.nd hk hd' h3 (hr2.right S2);exact⟨K3,v3,e3,⟨O3,by rw[hO3,hO2,hO1]⟩,by have:=S12.then hG S3;rwa [bW] at this⟩
    |false=>
     rw[ht] at hr2;simp only[dz,if_false,List.nil_append] at hr2|-;rw[if_neg aV];simp only[Option.bind_some];obtain⟨K3,v3,e3,⟨O3,hO3⟩,S3⟩:=acy hc hid rest (j+1) (G.at _) s v1 o2 (hG.le S1.le) S1.nd hk hd' h3 hr2;exact⟨K3,v3,e3,⟨O3,by rw[hO3,hO1]⟩,S1.then hG S3⟩
   rw[if_neg (fun e=>hgo (by rw[bX] at e;exact⟨e.1,by simpa using e.2⟩))] at hp
   rw[if_neg (fun e=>hgo ⟨by rw[<-h1.1];exact e.1,by have:=e.2;rw[h1.2.2.2.2.2] at this;simpa using this⟩)];injection hp with hp;subst hp;simp only[Option.bind_some];exact acy hc hid rest (j+1) G s v o2 hG h hk hd' h3 hr
theorem ac9(hc:vD c)(hid:id<c.n): ∀(rest:List (List Tok.Sl)) (k:Nat) (G:mF) (s:Tok.Nd) (v:ql) (o:Tok.Out),sS c G->tO c G N s v->s.insts.drop k=rest->Tok.iR c id rest k=some o->Room G v o-> ∃K' v',iW (who c id) rest.length k (G.K,v)=some (K',v')/\(∃O0,v'={v with out:=O0})/\uF c G N v s o K' v'
 | [],k,G,s,v,o,hG,h,hd,hp,hr=>by simp only[Tok.iR,aD] at hp;subst hp;exact⟨G.K,v,rfl,⟨v.out,rfl⟩,uF.refl h⟩
 |ins::rest,k,G,s,v,o,hG,h,hd,hp,hr=>by
  have hk:s.insts[k]?=some ins:=by have:=congrArg (fun l=>l[0]?) hd;simpa using this
  have hd':s.insts.drop (k+1)=rest:=by rw[<-lX,hd];rfl
  obtain⟨i,hv,hI⟩:=h.at_ k ins hk;rw[Tok.iR] at hp;split at hp
  ·rename_i o2 o1 h2 h1
   injection hp with hp;subst hp;obtain⟨K1,v1,e1,⟨O1,hO1⟩,S1⟩:=acy hc hid ins 0 G s v o1 hG h hk rfl h1 hr.left;obtain⟨K2,v2,e2,⟨O2,hO2⟩,S2⟩:=ac9 hc hid rest (k+1) (G.at K1) s v1 o2 (hG.le S1.le) S1.nd hd' h2 (hr.right S1);rw[hI.l1] at e1;refine⟨K2,v2,?_,⟨O2,by rw[hO2,hO1]⟩,S1.then hG S2⟩;rw[List.length_cons,iW,e1];exact e2
  cases hp
theorem Xn(q:vD c)(g:sS c G)(h:tO c G N s v)(f:id<c.n)(a:Tok.Nv c id s=some o)(t:Room G v o):
  ∃K v',EB (who c id) (G.K,v)=some (K,v')/\(∃O,v'={v with out:=O})/\uF c G N v s o K v':=by
 unfold Tok.Nv at a;split at a
 ·rename_i b
  have C:s.tab= []:=List.isEmpty_iff.1 b;have p:v.T= []:=by have:=h.tab.len;rw[C] at this;exact dA this.symm
  have F:=h.Ag;have fit:Px (who c id) v:=by
   refine⟨fun i B=> ?_,h.view,h.vk,by rw[p];simp,by rw[h.now];omega,by rw[h.vl];show((c.f+1:Nat):Int)=c.f+1;omega,by rw[h.vZ,h.vl]⟩;obtain⟨k,r⟩:=bT.1 B;have j:k<s.insts.length:=by rw[h.il,<-h.vl];exact(ah.1 r).1
   obtain⟨I,H,n⟩:=h.at_ k s.insts[k] (aj j);rw[r] at H;injection H with H;subst H;exact⟨n.on,n.l2⟩
  split at a
  ·rename_i o1 o2 z A
   injection a with a;subst a;obtain⟨l,u,E,⟨D,d⟩,S⟩:=ac9 q f s.insts 0 G s v o1 g h rfl z t.left;obtain⟨m,V,y,⟨w,e⟩,x⟩:=Cx q f s.insts 0 (G.at l) s u o2 (g.le S.le) S.nd rfl A (t.right S);refine⟨m,V,?_,⟨w,by rw[e,d]⟩,S.then g x⟩;unfold EB;rw[nQ fit];simp only[Option.bind_some];rw[show v.is.length=s.insts.length by rw[h.vl,h.il],E];simp only[Option.bind_some];rw[show wX (who c id) s.insts.length 0 (l,u)=some (m,V) from y];simp only[Option.bind_some];rw[show V.T= [] by rw[e,d];exact p];rfl
  cases a
 cases a
theorem Rw: ∀g:List (Nat×Nat),uh (g.map fun p=>((p.1:Int),(p.2:Int)))=((Tok.vN g).1:Int)/\zK (g.map fun p=>((p.1:Int),(p.2:Int)))=((Tok.vN g).2:Int)
 | []=>⟨rfl,rfl⟩
 |(a,b)::l=>by obtain⟨h1,h2⟩:=Rw l;unfold uh zK at*;simp only[bV,List.sum_cons,h1,h2];show(a:Int)+_=((a+(Tok.vN l).1:Nat):Int)/\(b:Int)+_=((b+(Tok.vN l).2:Nat):Int);omega
theorem aam{l:List (Nat×Nat)}(h:Tok.fine ((n,t)::l)=true):rH 1 2 8 (n:Int) (t:Int) (l.map fun p=>((p.1:Int),(p.2:Int)))=false:=by
 obtain⟨b,c⟩:=Rw l;have a:(!Nat.blt (n*2*Tok.len l) (1*(Tok.vN l).1)&&(Nat.beq n 0||Nat.beq (Tok.vN l).1 0||!Nat.blt ((Tok.vN l).2*n+8*n*(Tok.vN l).1) (t*(Tok.vN l).1)))=true:=h;rw[bX] at a;unfold rH Rt zC;rw[b,c,aT,kU];refine⟨?_,?_⟩
 ·have H:=a.1
  have: ¬n*2*l.length<1*(Tok.vN l).1:=fun e=>by
   rw[<-pQ l] at e;have:Nat.blt (n*2*Tok.len l) (1*(Tok.vN l).1)=true:=by rw[iA];exact e
   rw[this] at H;cases H
  rw[kK];right;refine decide_eq_false fun e=>this ?_;have E:((n*2*l.length:Nat):Int)<((1*(Tok.vN l).1:Nat):Int):=by push_cast;exact e
  exact Int.ofNat_lt.1 E
 have H:=a.2;rw[eZ,eZ] at H;rcases H with(H|H)|H
 ·have:=bO H
  rw[decide_eq_false (by omega: ¬(0:Int)<n)];rfl
 ·have:=bO H
  rw[decide_eq_false (by omega: ¬(0:Int)<((Tok.vN l).1:Int))];simp
 have: ¬(Tok.vN l).2*n+8*n*(Tok.vN l).1<t*(Tok.vN l).1:=fun e=>by
  have:Nat.blt ((Tok.vN l).2*n+8*n*(Tok.vN l).1) (t*(Tok.vN l).1)=true:=by rw[iA];exact e
  rw[this] at H;cases H
 rw[kK];right;refine decide_eq_false fun e=>this ?_;have E:(((Tok.vN l).2*n+8*n*(Tok.vN l).1:Nat):Int)<((t*(Tok.vN l).1:Nat):Int):=by push_cast;exact e
 exact Int.ofNat_lt.1 E
theorem uq.right{α β:Type}{R:α->β->Prop}: ∀{l:List α} {m:List β},uq R l m-> ∀b∈m,∃a∈l,R a b
 |_,_,.nil,a,h=>by simp at h
 |_,_,.cons h t,b,hb=>by
  rcases ay.1 hb with rfl|hb
  ·exact⟨_,bJ,h⟩
  obtain⟨a,ha,hr⟩:=t.right b hb;exact⟨a,by simp[ha],hr⟩
theorem ahC(q:sS c G)(h:tO c G N s v)(x:Tok.abq s.now s.tab=true):SH v.T/\Uv v.now v.since v.T (oZ v.T)=false:=by
 have B:=h.Ag;have key: ∀r∈oZ v.T,∃e:oO,AA v.T r=some (some e.since)/\0<=e.since/\e.since<=s.now/\(s.now:Int) -e.since<=12:=fun r f=>by
  unfold oZ at f;obtain⟨m,b,rfl⟩:=bM.1 f;rw[kI] at b;obtain⟨d,t,a⟩:=h.tab.right m b.1;have H:=jk.1 x d t;have k:d.ready=true:=by rw[<-a.ready];exact b.2
  rw[k] at H;simp only[lq,jV] at H
  cases g:Tok.Pn s.tab d.t with
  |none=>rw[g] at H;cases H
  |some od=>
   cases od with
   |none=>rw[g] at H;cases H
   |some d'=>
    rw[g] at H;simp only[bX] at H;obtain⟨i,e,n,y,o,E,z⟩:=(ED q a.t.1 a.t.2 0 h.tab).2 d' g;have w:=eD H.2;have u:=E.le;refine⟨e,?_,by rw[E.since];omega,by rw[E.since];omega,by rw[E.since];omega⟩;unfold AA;rw[a.r,n];simp only[Option.map_some,if_true,aO,o];rw[E.ready,H.1];rfl
 refine⟨fun r f=> ?_,?_⟩
 ·obtain⟨e,j,l,p,_⟩:=key r f
  exact⟨e.since,j,l,aR⟩
 unfold Uv;rw[List.any_eq_false];intro r f;obtain⟨e,j,l,p,A⟩:=key r f;have:abL v.T r=e.since:=by unfold abL;rw[j]
 rw[this,h.now,decide_eq_true_eq];have:e.since<=max e.since v.since:=Int.le_max_left _ _;omega
theorem aco(D:vD c)(C:sS c G)(h:tO c G N s v)(z:id<c.n)(H:Tok.WJ c id s=some (s',o))(hr:Room G v o):
  ∃Y v',Ni (who c id) (G.K,v)=some (Y,v')/\uF c G N v s' o Y v':=by
 unfold Tok.WJ at H;split at H
 ·cases H
 rename_i y;have a0: ¬900<=s.now:=fun e=>y (dS e);have fit:Vj (who c id) v:=⟨h.stop,by rw[h.now];omega,by rw[h.vl];show((c.f+1:Nat):Int)=c.f+1;omega⟩;have R1:tO c G N {s with now:=s.now+1} {v with now:=v.now+1}:={h with
  now:=by show v.now+1=((s.now+1:Nat):Int);rw[h.now];omega
  Ag:=by show s.now+1<=1000;omega
  tab:=h.tab.imp fun a b t=>⟨t.r,t.t,t.nX,t.l,t.ready,t.since,lY t.le⟩
  JM:=lY h.JM}
 cases M:Tok.tF c id (c.f+1) 0 {s with now:=s.now+1} with
 |none=>rw[M] at H;cases H
 |some q=>
  obtain⟨j,o1⟩:=q;rw[M] at H;simp only at H
  cases r:(if Nat.beq (j.now%2) 0 then Tok.Nv c id j else some []) with
  |none=>rw[r] at H;cases H
  |some o2=>
   rw[r] at H;simp only at H;split at H
   ·cases H
   rename_i w;have w:Tok.abq j.now j.tab=true:=by simpa using w
   have I: ∃s3,s'=s3/\o=o1++o2:=⟨s',rfl,by
    split at H
    ·split at H
     ·simp only[aD,aM] at H
      exact H.2.symm
     cases H
    simp only[aD,aM] at H;exact H.2.symm⟩
   obtain⟨_,_,ho⟩:=I;have A:Room G {v with now:=v.now+1} (o1++o2):=by rw[<-ho];exact⟨hr.K,hr.out⟩
   obtain⟨B,V,e1,n⟩:=DL D z (c.f+1) 0 G _ j _ o1 C R1 M A.left;have P:=C.le n.le;have U: ∃K v2,(if V.now%2=0 then EB (who c id) (B,V) else some (B,V))=some (K,v2)/\uF c (G.at B) N V j o2 K v2:=by
    have hn:V.now%2=((j.now%2:Nat):Int):=by rw[n.nd.now];omega
    by_cases J:j.now%2=0
    ·rw[if_pos (by rw[J];rfl)] at r
     rw[if_pos (by rw[hn,J];rfl)];obtain⟨K,v2,F,_,E⟩:=Xn D P n.nd z r (A.right n);exact⟨K,v2,F,E⟩
    rw[if_neg (fun e=>J (bO e))] at r;injection r with r;subst r;rw[if_neg (by rw[hn];omega)];exact⟨B,V,rfl,uF.refl n.nd⟩
   obtain⟨K,v2,F,E⟩:=U;have S:=n.then C E;have Q:=C.le S.le;have R:=S.nd;have O:=ahC Q R w;have rb:=R.Ag;have sb:=R.JM;have tl:=R.tab.len;have tb:=R.Fh;have W:v2.ga.length=c.f+1:=by rw[R.ga,aT,R.gal]
   obtain⟨i0,X,T⟩:=R.at_ 0 (j.insts[0]'(by rw[R.il];omega)) (aj _);have f1:=D.f1;have f4:=D.f4;have u: ∀p∈v2.ga,0<=p.1/\p.1<1048576/\0<=p.2/\p.2<1048576:=fun p d=>by rw[R.ga] at d;obtain⟨q,hq,rfl⟩:=bM.1 d;have:=R.gaB q hq;exact⟨by show(0:Int)<=q.1;omega,by show(q.1:Int)<_;omega,by show(0:Int)<=q.2;omega,by show(q.2:Int)<_;omega⟩
   have late:(v2.start+8<=v2.now->Tok.fine j.wT=true)->GJ v2:=fun x=>by
    refine⟨⟨i0,X,T.on⟩,by rw[R.now];omega,aR,R.since,by rw[R.start];omega,O.1,O.2,⟨aR,aR,u⟩,fun k m l i=> ?_⟩;have x:=x k;rw[R.ga] at i
    cases Z:j.wT with
    |nil=>rw[Z] at i;cases i
    |cons q g=>
     obtain⟨a,b⟩:=q;rw[Z] at i x;simp only[bV,gT] at i;obtain⟨rfl,rfl⟩:=i;exact aam x
   have pre: ∀L:GJ v2,Ni (who c id) (G.K,v)=some (if v2.start+8<=v2.now then(K,{v2 with ga:=List.replicate v2.ga.length (0,0),start:=v2.now}) else(K,v2)):=fun L=>by unfold Ni;rw[nQ fit];simp only[Option.bind_some];rw[show v.is.length=c.f+1 from h.vl,e1];simp only[Option.bind_some];have n1:=n.nd.Ag;rw[nQ (show 0<=V.now/\V.now<=1000000 by rw[n.nd.now];omega)];simp only[Option.bind_some];rw[F];simp only[Option.bind_some];rw[nQ L];rfl
   rw[ho];by_cases k:j.start+8<=j.now
   ·rw[if_pos (dS k)] at H
    split at H
    ·rename_i x
     simp only[aD,aM] at H;obtain⟨rfl,_⟩:=H;have f:v2.start+8<=v2.now:=by rw[R.start,R.now];omega
     refine⟨K,{v2 with ga:=List.replicate v2.ga.length (0,0),start:=v2.now},by rw[pre (late fun _=>x),if_pos f],⟨S.le,?_,S.out,S.msg,S.len⟩⟩;exact{R with
      ga:=by show List.replicate v2.ga.length (0,0)=(Tok.tH (c.f+1) (0,0)).map _;rw[qH,W];simp
      gal:=by show(Tok.tH (c.f+1) (0,0)).length=_;rw[qH];simp
      gaB:=fun p d=>by replace d:p∈Tok.tH (c.f+1) (0,0):=d;rw[qH] at d;rw[dO d];exact⟨bF _,bF _⟩
      start:=R.now
      JM:=aF _}
    cases H
   rw[if_neg (fun e=>k (eD e))] at H;simp only[aD,aM] at H;obtain⟨rfl,_⟩:=H;have f: ¬v2.start+8<=v2.now:=by rw[R.start,R.now];omega
   exact⟨K,v2,by rw[pre (late fun e=>absurd e f),if_neg f],⟨S.le,S.nd,S.out,S.msg,S.len⟩⟩
end
end
section
open Tok (TM)
def mF.own(G:mF):List Rq:=if G.cl=1 then G.nD else []
theorem mF.acT{G:mF}(h:G.cl=1):G.own=G.nD:=if_pos h
structure CkR(G:mF)(s:Tok.Ck)(X:CkV):Prop where
 waits:X.waits=s.waits
 il:X.il=G.own
 yK:s.issued=G.own.length
 at_:X.at_=s.at_
 now:X.now=s.now
 Ag:s.now<=1000
 atB:s.at_<=s.now
 al:s.waits=true->X.al=s.ans.map fun src:Nat=>((src:Int),G.res.getD (s.issued -1) 0)
 agE:s.waits=true->s.ans.length<=100
 el:X.el=(G.own.zip G.res).take s.acc
 acc:if s.waits then s.acc+1=s.issued else s.acc=s.issued
 alB:X.al.length<=200
structure Xg(c:Tok.qM)(G:mF)(l:List (List TM))(M:Nat->List LI):Prop where
 len:l.length=(c.n+2)*(c.n+2)
 val: ∀(k:Nat) (ms:List TM),l[k]?=some ms->M k=ms.map G.bytes
 ok: ∀(k:Nat) (ms:List TM),l[k]?=some ms-> ∀m∈ms,vH c G m/\k/(c.n+2)≠k%(c.n+2)
structure Km(c:Tok.qM)(G:mF)(N:Nat)(x:Tok.Cl)(X:CV):Prop where
 g:sS c G
 K:X.K=G.K
 Kl:G.K.length<=x.sent
 Ks:x.sent<=600000
 nl:x.nodes.length=c.n
 nl':X.nodes.length=c.n
 no: ∀i:Nat,x.nodes[i]?=some none->X.nodes[i]?=some none
 nd: ∀(i:Nat) (s:Tok.Nd),x.nodes[i]?=some (some s)-> ∃v,X.nodes[i]?=some (some v)/\tO c G N s v/\v.out= []
 ck:CkR G x.ck X.ck
 t0:X.t0=if c.cl=0 then none else some (x.ck.now:Int)
 lk:Xg c G x.links X.M
section
variable{c:Tok.qM}{G:mF}{N:Nat}{x x':Tok.Cl}{X X':CV}{l l':List (List TM)}{M M':Nat->List LI}{o:Tok.Out}{K':KS}
theorem CkR.MW{s:Tok.Ck}{X:CkV}(h:CkR G s X):CkR (G.at K') s X:=⟨h.waits,h.il,h.yK,h.at_,h.now,h.Ag,h.atB,h.al,h.agE,h.el,h.acc,h.alB⟩
theorem Xg.MW(h:Xg c G l M)(b:xC G K')(d:G.res.length=G.nD.length):Xg c (G.at K') l M:=
 ⟨h.len,fun k ms H=>by rw[h.val k ms H];exact dX fun m a=>(((h.ok k ms H m a).1.le b d).2).symm,fun k ms H m a=>⟨((h.ok k ms H m a).1.le b d).1,(h.ok k ms H m a).2⟩⟩
theorem tO.more{s:Tok.Nd}{v:ql}(h:tO c G N s v)(H:N<=N'):tO c G N' s v:={h with cnt:=by have:=h.cnt;omega}
theorem MQ: ∀(l:List (List TM)) (k:Nat) (m:TM) (l':List (List TM)),Tok.Av l k m=some l'-> ∃ms,l[k]?=some ms/\ms.length<64/\l'=l.set k (ms++ [m])
 | [],k,m,l',h=>by cases h
 |ms::l,0,m,l',h=>by
  rw[show Tok.Av (ms::l) 0 m=if Nat.ble 64 (Tok.len ms) then none else some ((ms++ [m])::l) from rfl] at h;split at h
  ·cases h
  rename_i hb;injection h with h;subst h;refine⟨ms,rfl,?_,rfl⟩;rw[pQ] at hb;exact jq fun e=>hb (dS e)
 |ms::l,k+1,m,l',h=>by
  rw[show Tok.Av (ms::l) (k+1) m=match Tok.Av l k m with|some r'=>some (ms::r')|none=>none from rfl] at h
  cases hr:Tok.Av l k m with
  |none=>rw[hr] at h;cases h
  |some r=>
   rw[hr] at h;injection h with h;subst h;obtain⟨ms',h1,h2,h3⟩:=MQ l k m r hr;exact⟨ms',by simpa using h1,h2,by rw[h3];rfl⟩
theorem DK(d:n<=100)(b:a<n+2):QX (zI n a) (pE n)=some a:=by
 have key: ∀(l:LI) (x:Int) (a:Nat),l[a]?=some x->(∀j,j<a->l[j]?≠some x)->QX x l=some a:=by
  intro l
  induction l with
  |nil=>intro x a h;simp at h
  |cons p l ih=>
   intro x a h H;rw[QX]
   cases a with
   |zero=>
    simp only[List.getElem?_cons_zero,aD] at h;rw[if_pos h]
   |succ a=>
    rw[if_neg (fun e=>H 0 aR (by simp[e])),ih x a (mR h) (fun j c=>by simpa using H (j+1) aR)];rfl
 refine key _ _ _ (uZ b) fun j c e=> ?_;rw[uZ aR] at e;have:=Ws d aR b (dh e);omega
theorem Om{b:Nat}(H:n<=100)(c:a<n+2)(d:b<n+2)(h:a≠b):XT (pE n) (zI n a) (zI n b)=some (a*(n+2)+b):=by unfold XT;rw[DK H c,DK H d];simp only[Option.bind_some];rw[if_neg h,QV]
theorem Ll(a:vD c)(h:sS c G)(H:G.K.length<=900000){m:TM}(b:Ew c G m):(G.bytes m).length<=65536:=by have o:=MB a h H b;unfold mF.bytes;rw[av];have:=(qz (num G.K (G.key m)).toNat).2;have:=o.2;omega
theorem JA(hc:vD c)(hG:sS c G)(hK:G.K.length<=900000)(hs:src<c.n+2): ∀(o:Tok.Out) (l l':List (List TM)) (M:Nat->List LI),Xg c G l M->(∀p∈o,vH c G p.2)->Tok.wY c.n src o l=some l'-> ∃M',zD (pE c.n) (zI c.n src) (G.yX c.n o) M=some M'/\Xg c G l' M'
 | [],l,l',M,h,_,hp=>by simp only[Tok.wY,aD] at hp;subst hp;exact⟨M,rfl,h⟩
 |(d,m)::o,l,l',M,h,hm,hp=>by
  have hn:c.n<=100:=by have:=hc.n;have:=hc.f4;omega
  rw[Tok.wY] at hp;split at hp
  ·cases hp
  rename_i hcond;rw[eZ] at hcond;have hds:d≠src:=fun e=>hcond (.inl (by rw[e];exact lM src));have hd2:d<c.n+2:=jq fun e=>hcond (.inr (dS e))
  cases hq:Tok.Av l (src*(c.n+2)+d) m with
  |none=>rw[hq] at hp;cases hp
  |some l1=>
   rw[hq] at hp;simp only at hp;obtain⟨ms,h1,h2,h3⟩:=MQ _ _ _ _ hq;have hm0:=hm (d,m) bJ;have hkl:=(ah.1 h1).1;have div:(src*(c.n+2)+d)/(c.n+2)=src:=by rw[gX,mg aR,iJ hd2,Nat.add_zero]
   have mod:(src*(c.n+2)+d)%(c.n+2)=d:=by rw[gX,mh,dJ hd2]
   have R1:Xg c G l1 (ru M (src*(c.n+2)+d) (M (src*(c.n+2)+d)++ [G.bytes m])):=by
    subst h3;refine⟨by rw[bG];exact h.len,fun k ms' hk=> ?_,fun k ms' hk m' hm'=> ?_⟩
    ·by_cases e:src*(c.n+2)+d=k
     ·subst e
      rw[aL hkl] at hk;injection hk with hk;subst hk;rw[ou,h.val _ _ h1,bR];rfl
     rw[aX e] at hk;rw[oP _ _ (dR e)];exact h.val k ms' hk
    by_cases e:src*(c.n+2)+d=k
    ·subst e
     rw[aL hkl] at hk;injection hk with hk;subst hk;rcases aQ.1 hm' with hm'|hm'
     ·exact h.ok _ _ h1 m' hm'
     rw[au] at hm';subst hm';rw[div,mod];exact⟨hm0,dR hds⟩
    rw[aX e] at hk;exact h.ok k ms' hk m' hm'
   obtain⟨M',e1,R2⟩:=JA hc hG hK hs o l1 l' _ R1 (fun p hp=>hm p (by simp[hp])) hp;refine⟨M',?_,R2⟩;show zD (pE c.n) (zI c.n src) ((zI c.n d,G.bytes m)::G.yX c.n o) M=_;rw[zD,Om hn hs hd2 (dR hds)];simp only[Option.bind_some];rw[if_pos ⟨by rw[h.val _ _ h1,aT];exact h2,Ll hc hG hK hm0.form⟩];exact e1
theorem Lx: ∀(l:List (List TM)) (k:Nat),Tok.tq l k=l.modify k (List.drop 1)
 | [],k=>by simp[Tok.tq]
 |ms::l,0=>by simp[Tok.tq]
 |ms::l,k+1=>by simp[Tok.tq,Lx l k]
theorem LX: ∀(l:List (List TM)) (q k:Nat) (m:TM),Tok.Co l q=some (k,m)->q<=k/\ ∃rest,l[k -q]?=some (m::rest)/\ ∀j,j<k -q->l[j]?=some []
 | [],q,k,m,h=>by cases h
 | []::l,q,k,m,h=>by
  obtain⟨h1,rest,h2,h3⟩:=LX l (q+1) k m h;refine⟨aR,rest,?_,fun j hj=> ?_⟩
  ·rw[show k -q=(k -(q+1))+1 by omega,List.getElem?_cons_succ]
   exact h2
  cases j with
  |zero=>rfl
  |succ j=>
   rw[List.getElem?_cons_succ];exact h3 j aR
 |(m'::ms)::l,q,k,m,h=>by simp only[Tok.Co,aD,aM] at h;obtain⟨rfl,rfl⟩:=h;exact⟨aF _,ms,by rw[fJ];rfl,fun j hj=>absurd hj aR⟩
theorem FC: ∀(l:List (List TM)) (q:Nat),Tok.Co l q=none-> ∀ms∈l,ms= []
 | [],q,h=>by simp
 | []::l,q,h=>fun ms hm=>by
  rcases ay.1 hm with rfl|hm
  ·rfl
  exact FC l (q+1) h ms hm
 |(m'::ms)::l,q,h=>by cases h
theorem Xg.drop(h:Xg c G l M){m:TM}{rest:List TM}(d:l[k]?=some (m::rest)):Xg c G (Tok.tq l k) (ru M k (rest.map G.bytes)):=by
 rw[Lx];refine⟨by rw[iV];exact h.len,fun q ms H=> ?_,fun q ms H f b=> ?_⟩
 ·rw[eY] at H
  by_cases e:k=q
  ·subst e
   rw[d] at H;simp at H;subst H;rw[ou]
  rw[oP _ _ (dR e)]
  cases a:l[q]? with
  |none=>rw[a] at H;cases H
  |some ms'=>
   rw[a] at H;simp[e] at H;subst H;exact h.val q ms' a
 rw[eY] at H;by_cases e:k=q
 ·subst e
  rw[d] at H;simp at H;subst H;exact h.ok k _ d f (by simp[b])
 cases a:l[q]? with
 |none=>rw[a] at H;cases H
 |some ms'=>
  rw[a] at H;simp[e] at H;subst H;exact h.ok q ms' a f b
theorem G8{sent:Nat}{o:Tok.Out}(h:Tok.room sent o=true):o.length<=2000/\sent+o.length<=500000:=by unfold Tok.room at h;rw[bX,pQ] at h;exact⟨eD h.1,eD h.2⟩
theorem abI(A:vD c)(h:Km c G N x X){i:Nat}{s s':Tok.Nd}{v v':ql}(g:x.nodes[i]?=some (some s))(B:X.nodes[i]?=some (some v))(q:v.out= [])(z:N<=N')(S:uF c G N' v s' o K' v')(a:Tok.Ux c x i s' o=some x'):
  ∃X',DF c.n i (K',v') X=some X'/\Km c (G.at K') N' x' X'/\v'.out.length<=4096:=by
 unfold Tok.Ux at a
 cases n:Tok.room x.sent o with
 |false=>rw[n] at a;cases a
 |true=>
  rw[n] at a;simp only at a;obtain⟨R,C⟩:=G8 n
  cases m:Tok.wY c.n i o x.links with
  |none=>rw[m] at a;cases a
  |some l=>
   rw[m] at a;simp only[aD] at a;subst a;have k:i<c.n:=by rw[<-h.nl];exact(ah.1 g).1
   have d:=h.g.le S.le;have f:K'.length<=x.sent+o.length:=by have:=S.len;have:=h.Kl;omega
   obtain⟨t,E,L⟩:=JA A d (by show K'.length<=_;omega) (src:=i) aR o x.links l X.M (h.lk.MW S.le h.g.len) (fun p a=>(S.msg p a).1) m;have b:v'.out=(G.at K').yX c.n o:=by rw[S.out,q];rfl
   refine⟨{X with K:=K',nodes:=X.nodes.set i (some {v' with out:= []}),M:=t},?_,?_,?_⟩
   ·unfold DF
    rw[show zI c.n i=(i:Int) by unfold zI;rw[if_pos k]] at E;rw[show((K',v'):KN).2.out=(G.at K').yX c.n o from b,E];rfl
   ·refine⟨d,rfl,by show K'.length<=x.sent+Tok.len o;rw[pQ];exact f,by show x.sent+Tok.len o<=_;rw[pQ];omega,by show(Tok.vG x.nodes i _).length=_;rw[qD,bG];exact h.nl,by show(X.nodes.set i _).length=_;rw[bG];exact h.nl',fun j H=> ?_,fun j r H=> ?_,h.ck.MW,h.t0,L⟩
    ·replace H:(Tok.vG x.nodes i (some s'))[j]?=some none:=H
     rw[qD] at H;show(X.nodes.set i _)[j]?=some none;by_cases e:i=j
     ·subst e
      rw[aL (ah.1 g).1] at H;cases H
     rw[aX e] at H|-;exact h.no j H
    replace H:(Tok.vG x.nodes i (some s'))[j]?=some (some r):=H;rw[qD] at H;show∃v,(X.nodes.set i _)[j]?=some (some v)/\_;by_cases e:i=j
    ·subst e
     rw[aL (ah.1 g).1] at H;injection H with H;injection H with H;subst H;exact⟨{v' with out:= []},by rw[aL (ah.1 B).1],{S.nd with},rfl⟩
    rw[aX e] at H|-;obtain⟨V,u,w,y⟩:=h.nd j r H;exact⟨V,u,(w.more z).le S.le,y⟩
   rw[b];unfold mF.yX;rw[aT];omega
end
end
section
open Tok (TM)
section
variable{c:Tok.qM}{G:mF}{N:Nat}{x x':Tok.Cl}{X X':CV}{l l':List (List TM)}{M M':Nat->List LI}{o:Tok.Out}{K':KS}
theorem afS(h:1<=G.nD.length):G.nD.getLast?=some (G.rq G.nD.length):=by rw[jO,mF.WT G h];rw[bE,aj aR];rfl
theorem Tg(v:vD c)(j:sS c G)(Q:G.K.length<=900000){s s':Tok.Ck}{Y0:CkV}(h:CkR G s Y0){m:TM}(B:vH c G m)(H:Tok.takeC c m s=some s'):
  ∃(V R z:Int) (Y:CkV),yN c.f G.K V R z (G.bytes m) Y0=some Y/\CkR G s' Y:=by
 cases m with
 |rep src t=>
  rw[show Tok.takeC c (.rep src t) s=(if !s.waits then some s else if !Nat.beq t s.issued||!Nat.beq c.cl 1 then none else if s.ans.any (Nat.beq src) then none else
   if Nat.ble (c.f+1) (Tok.len (s.ans++ [src])) then some {s with ans:=s.ans++ [src],acc:=s.acc+1,waits:=false} else some {s with ans:=s.ans++ [src]}) from rfl] at H
  by_cases f:s.waits=true
  ·rw[if_neg (by rw[f];decide)] at H
   split at H
   ·cases H
   rename_i o;rw[eZ,not_or] at o;have w:c.cl=1:=by
    have:Nat.beq c.cl 1=true:=by simpa using o.2
    exact bO this
   have L:G.own=G.nD:=mF.acT (j.cl.trans w);have y:(G.cl:Int)=1:=by have:=j.cl;omega
   have i:G.ms (.rep src t)=DV src 1 t (G.res.getD (t -1) 0):=by show(⟨10,src,0,(G.cl:Int),t,G.res.getD (t -1) 0,[],[],[]⟩:Ms)=_;rw[y];rfl
   have o:t=s.issued:=by
    have:Nat.beq t s.issued=true:=by simpa using o.1
    exact bO this
   split at H
   ·cases H
   rename_i r;have g:=h.yK;have l:=h.il;have b:=h.el;rw[L] at g l b;have P:=j.few;obtain⟨W,K,N⟩:=B.form;have I:=h.acc;rw[if_pos f] at I;have F:=j.rq t K N;have n:=afS (G:=G) aR;have E:(G.rq G.nD.length)=G.rq t:=by rw[o,g]
   have O:=MB v j Q B.form;have U:=yC G.K (G.key (.rep src t));have Z:=abP j (t -1);have k:=h.al f;have X:=v.n;have hlen:Y0.al.length=s.ans.length:=by rw[k,aT]
   have x:Y0.el.length<=1000:=by rw[b,cO,gW];omega
   have J:=h.agE f;have fit:afb c.f G.K Y0 (G.rq t).2.1 src (G.res.getD (t -1) 0) (num G.K (G.key (.rep src t))) (G.bytes (.rep src t)):=by
    refine⟨by rw[l];omega,by rw[hlen];omega,x,fun p u=> ?_,qJ U.1 aR,?_,?_,pK aR aR,?_,pK aR aR⟩
    ·rw[k] at u
     obtain⟨a,S,rfl⟩:=bM.1 u;refine⟨fun e=>r ?_,by show G.res.getD (s.issued -1) 0=_;rw[o]⟩;have e:a=src:=by have:(a:Int)=src:=e;omega
     rw[List.any_eq_true];exact⟨a,S,by rw[e];exact lM src⟩
    ·rw[F.2.1,<-i]
     exact⟨O.1,by have:=O.2;show(dF (G.ms (.rep src t))).length<=_;omega,B.has,rfl⟩
    ·rw[F.2.1,<-i]
     rfl
    rw[F.2.1];exact pK aR aR
   refine⟨src,G.res.getD (t -1) 0,num G.K (G.key (.rep src t)),{Y0 with waits:=decide ((Y0.al.length:Int)<c.f),al:=Y0.al++ [((src:Int),G.res.getD (t -1) 0)],el:=if(Y0.al.length:Int)<c.f then Y0.el else Y0.el++ [(G.rq t,G.res.getD (t -1) 0)]},?_,?_⟩
   ·unfold yN
    rw[if_neg (by rw[h.waits,f];decide),l,n,E];simp only[Option.bind_some];rw[nQ fit];rw[Option.map_some]
   have A:Tok.len (s.ans++ [src])=s.ans.length+1:=by rw[pQ];simp
   rw[A] at H;by_cases M:c.f+1<=s.ans.length+1
   ·rw[if_pos (dS M)] at H
    injection H with H;subst H;have d: ¬(Y0.al.length:Int)<c.f:=by rw[hlen];omega
    refine⟨decide_eq_false d,h.il,h.yK,h.at_,h.now,h.Ag,h.atB,fun e=>(by cases e),fun e=>(by cases e),?_,by show(if false=true then _ else _);rw[if_neg aV];exact I,by show(Y0.al++ [((src:Int),G.res.getD (t -1) 0)]).length<=200;rw[av,hlen];simp;omega⟩;show(if(Y0.al.length:Int)<c.f then Y0.el else Y0.el++ [(G.rq t,G.res.getD (t -1) 0)])=(G.own.zip G.res).take (s.acc+1);rw[if_neg d,L,b,fM]
    congr 1
    have q:s.acc=t -1:=aR;have C:G.nD[t -1]?=some (G.rq t):=by rw[mF.WT G K,bE,aj aR];rfl
    have D:G.res[t -1]?=some (G.res.getD (t -1) 0):=by rw[bE,aj (by rw[j.len];omega)];rfl
    rw[q,(jP (z:=(G.rq t,G.res.getD (t -1) 0))).2 ⟨C,D⟩];rfl
   rw[if_neg (fun e=>M (eD e))] at H;injection H with H;subst H;have T:=v.f4;have d:(Y0.al.length:Int)<c.f:=by rw[hlen];omega
   refine⟨by show decide _=s.waits;rw[decide_eq_true d,f],h.il,h.yK,h.at_,h.now,h.Ag,h.atB,fun _=> ?_,fun _=>by show(s.ans++ [src]).length<=100;rw[av];simp;omega,by show(if(Y0.al.length:Int)<c.f then Y0.el else _)=_;rw[if_pos d];exact h.el,h.acc,by show(Y0.al++ [((src:Int),G.res.getD (t -1) 0)]).length<=200;rw[av,hlen];simp;omega⟩;show Y0.al++ [((src:Int),G.res.getD (t -1) 0)]=(s.ans++ [src]).map _;rw[k,bR,o];rfl
  have f:s.waits=false:=by simpa using f
  rw[if_pos (by rw[f];rfl)] at H;injection H with H;subst H;exact⟨0,0,0,Y0,by unfold yN;rw[if_pos (by rw[h.waits,f])],h⟩
 |_=>cases H
theorem Qi(Q:vD c)(h:Km c G N x X)(hN:N<=900000){m:TM}(hf:Tok.Co x.links 0=some (k,m))(H:Tok.deliver c {x with links:=Tok.tq x.links k} (k/(c.n+2)) (k%(c.n+2)) m=some x'):
  Hz c.n X.M k/\ ∃K' X',Gm c.f c.n (k/(c.n+2)) (k%(c.n+2)) X X'/\xC G K'/\Km c (G.at K') (N+1) x' X':=by
 obtain⟨_,rest,f,y⟩:=LX x.links 0 k m hf;rw[Nat.sub_zero] at f y;have L:k<(c.n+2)*(c.n+2):=by rw[<-h.lk.len];exact(ah.1 f).1
 have W:X.M k=G.bytes m::rest.map G.bytes:=by rw[h.lk.val k _ f];rfl
 have w:Hz c.n X.M k:=⟨L,by rw[W];simp,fun j hj=>by rw[h.lk.val j [] (y j hj)];rfl⟩;refine⟨w,?_⟩;obtain⟨l,r⟩:=h.lk.ok k _ f m bJ;have P:k/(c.n+2)<c.n+2:=(eB aR).2 L;have hb:k%(c.n+2)<c.n+2:=ji _ aR;obtain⟨a,A⟩:=ex (k/(c.n+2));obtain⟨b,B⟩:=ex (k%(c.n+2));have Y:k=a*(c.n+2)+b:=by rw[A,B,gX];exact(Nat.div_add_mod k (c.n+2)).symm
 rw[<-A,<-B] at H r|-;rw[<-A] at P;rw[<-B] at hb;have p:X.M (a*(c.n+2)+b)=G.bytes m::rest.map G.bytes:=by rw[<-Y];exact W
 have I:G.K.length<=900000:=by have:=h.Kl;have:=h.Ks;omega
 have R:Km c G N {x with links:=Tok.tq x.links k} {X with M:=ru X.M (a*(c.n+2)+b) (rest.map G.bytes)}:={h with lk:=by rw[<-Y];exact h.lk.drop f};unfold Tok.deliver at H;by_cases u:b=c.n+1
 ·rw[if_pos (by rw[u];exact lM _)] at H
  cases d:Tok.takeC c m x.ck with
  |none=>rw[show({x with links:=Tok.tq x.links k}:Tok.Cl).ck=x.ck from rfl,d] at H;cases H
  |some ck'=>
   rw[show({x with links:=Tok.tq x.links k}:Tok.Cl).ck=x.ck from rfl,d] at H;injection H with H;subst H;obtain⟨sr,V,z,Y',T,U⟩:=Tg Q h.g I h.ck l d;subst u;have O:ck'.now=x.ck.now:=by
    cases m with
    |rep src t=>
     rw[show Tok.takeC c (.rep src t) x.ck=(if !x.ck.waits then some x.ck else if !Nat.beq t x.ck.issued||!Nat.beq c.cl 1 then none else if x.ck.ans.any (Nat.beq src) then none else
      if Nat.ble (c.f+1) (Tok.len (x.ck.ans++ [src])) then some {x.ck with ans:=x.ck.ans++ [src],acc:=x.ck.acc+1,waits:=false} else some {x.ck with ans:=x.ck.ans++ [src]}) from rfl] at d
     split at d
     ·injection d with d
      rw[<-d]
     split at d
     ·cases d
     split at d
     ·cases d
     split at d
     ·injection d with d
      rw[<-d]
     injection d with d;rw[<-d]
    |_=>cases d
   refine⟨G.K,_,Gm.ck a (G.bytes m) (rest.map G.bytes) sr V z Y' X aR p (by rw[h.K];exact T) (Ll Q h.g I l.form),xC.refl G,?_⟩;exact⟨h.g,h.K,h.Kl,h.Ks,h.nl,h.nl',h.no,fun i s K=>by obtain⟨v,f,y,F⟩:=h.nd i s K;exact⟨v,f,y.more aR,F⟩,U,by show X.t0=if c.cl=0 then none else some (ck'.now:Int);rw[h.t0,O],R.lk⟩
 by_cases J:b=c.n
 ·subst J
  rw[if_neg (fun e=>u (bO e)),if_pos (lM _)] at H;split at H
  ·rename_i C
   have C:=bO C;injection H with H;subst H;refine⟨G.K,_,Gm.alv a (G.bytes m) (rest.map G.bytes) X P r p (by rw[h.t0,if_pos C]),xC.refl G,?_⟩;exact{R with
    nd:=fun i s K=>by obtain⟨v,f,y,F⟩:=h.nd i s K;exact⟨v,f,y.more aR,F⟩}
  cases H
 rw[if_neg (fun e=>u (bO e)),if_neg (fun e=>J (bO e)),oV] at H;have g:b<c.n:=aR
 cases n:x.nodes[b]? with
 |none=>rw[show({x with links:=Tok.tq x.links k}:Tok.Cl).nodes=x.nodes from rfl,n] at H;cases H
 |some on=>
  rw[show({x with links:=Tok.tq x.links k}:Tok.Cl).nodes=x.nodes from rfl,n] at H
  cases on with
  |none=>
   simp only[aD] at H;subst H;refine⟨G.K,_,Gm.dead a b (G.bytes m) (rest.map G.bytes) X P g r p (h.no b n),xC.refl G,?_⟩;exact{R with
    nd:=fun i s K=>by obtain⟨v,f,y,F⟩:=h.nd i s K;exact⟨v,f,y.more aR,F⟩}
  |some s=>
   simp only at H
   cases E:Tok.takeN c b m s with
   |none=>rw[E] at H;cases H
   |some q=>
    obtain⟨s',o⟩:=q;rw[E] at H;simp only at H;obtain⟨v,v1,v2,v3⟩:=h.nd b s n;have D:Tok.room x.sent o=true:=by
     unfold Tok.Ux at H
     cases hr:Tok.room x.sent o with
     |true=>rfl
     |false=>rw[show({x with links:=Tok.tq x.links k}:Tok.Cl).sent=x.sent from rfl,hr] at H;cases H
    obtain⟨r1,r2⟩:=G8 D;have Z:=h.Kl;obtain⟨K',v',T,S⟩:=abM Q h.g v2 hN g l E ⟨aR,by rw[v3];simp;omega⟩;obtain⟨X',U,R2,e3⟩:=abI Q R n v1 v3 (Nat.le_succ N) S H;exact⟨K',X',Gm.node a b (G.bytes m) (rest.map G.bytes) v (G.ms m) (num G.K (G.key m)) (K',v') X X' P g r p v1 (by rw[h.K];exact T) e3 U,S.le,R2⟩
theorem Lv(hc:vD c): ∀(fuel:Nat) (G:mF) (N:Nat) (x x':Tok.Cl) (X:CV),Km c G N x X->N+fuel<=900000->Tok.drain c fuel x=some x'-> ∃m K' X',m<fuel/\Ch c.f c.n m X X'/\xC G K'/\Km c (G.at K') (N+m) x' X'
 |0,G,N,x,x',X,h,hN,hp=>by cases hp
 |fuel+1,G,N,x,x',X,h,hN,hp=>by
  rw[Tok.drain] at hp
  cases hf:Tok.Co x.links 0 with
  |none=>
   rw[hf] at hp;injection hp with hp;subst hp;refine⟨0,G.K,X,aR,.done X fun k hk=> ?_,xC.refl G,h⟩;have hk':k<x.links.length:=by rw[h.lk.len];exact hk
   rw[h.lk.val k _ (aj hk'),FC x.links 0 hf _ (bY hk')];rfl
  |some q=>
   obtain⟨k,m⟩:=q;rw[hf] at hp;simp only at hp
   cases hd:Tok.deliver c {x with links:=Tok.tq x.links k} (k/(c.n+2)) (k%(c.n+2)) m with
   |none=>rw[hd] at hp;cases hp
   |some x1=>
    rw[hd] at hp;simp only at hp;obtain⟨Tz,K1,X1,d1,k1,R1⟩:=Qi hc h aR hf hd;obtain⟨mm,K2,X2,hlt,d2,k2,R2⟩:=Lv hc fuel (G.at K1) (N+1) x1 x' X1 R1 aR hp;refine⟨mm+1,K2,X2,aR,.step mm k X X1 X2 Tz d1 d2,k1.trans k2,?_⟩;rw[show N+(mm+1)=N+1+mm by omega];exact R2
theorem AO(hc:vD c): ∀(fuel i:Nat) (G:mF) (x x':Tok.Cl) (X:CV),Km c G N x X->i+fuel=c.n->Tok.BG c fuel i x=some x'-> ∃K' X1 X',zm c.f c.n fuel i X=some X1/\NJ X1=some X'/\xC G K'/\Km c (G.at K') N x' X'
 |0,i,G,x,x',X,h,hi,hp=>by
  rw[Tok.BG] at hp
  cases hq:Tok.acn x.ck with
  |none=>rw[hq] at hp;cases hp
  |some ck'=>
   rw[hq] at hp;injection hp with hp;subst hp;unfold Tok.acn at hq;split at hq
   ·cases hq
   rename_i hcond;injection hq with hq;subst hq;rw[eZ] at hcond;have aj5: ¬900<=x.ck.now:=fun e=>hcond (.inr (dS e));have hmod:x.ck.waits=false\/(x.ck.now+1 -x.ck.at_)%6≠0:=by
    cases hw:x.ck.waits with
    |false=>exact .inl rfl
    |true=>
     refine .inr fun e=>hcond (.inl ?_);rw[hw,e];rfl
   have hb:=h.ck.atB;refine⟨G.K,X,{X with t0:=X.t0.map (· +1),ck:={X.ck with now:=X.ck.now+1}},rfl,?_,xC.refl G,?_⟩
   ·unfold NJ
    rw[nQ (show(∀t,X.t0=some t->0<=t/\t<1048000)/\(X.ck.waits=false\/(X.ck.now+1 -X.ck.at_)%6≠0)/\0<=X.ck.at_/\X.ck.at_<=X.ck.now/\X.ck.now<1048000 from by
     rw[h.t0,h.ck.waits,h.ck.now,h.ck.at_];refine⟨fun t ht=> ?_,?_,aR,aR,aR⟩
     ·split at ht
      ·cases ht
      injection ht with ht;omega
     rcases hmod with e|e
     ·exact .inl e
     refine .inr ?_;omega)]
    rfl
   exact{h with
    ck:={h.ck with now:=by show X.ck.now+1=((x.ck.now+1:Nat):Int);rw[h.ck.now];omega,Ag:=by show x.ck.now+1<=1000;omega,atB:=by show x.ck.at_<=x.ck.now+1;omega}
    t0:=by
     show X.t0.map (· +1)=if c.cl=0 then none else some ((x.ck.now+1:Nat):Int);rw[h.t0];split
     ·rfl
     rw[Option.map_some]
     congr 1}
 |fuel+1,i,G,x,x',X,h,hi,hp=>by
  rw[Tok.BG,oV] at hp
  cases hnd:x.nodes[i]? with
  |none=>rw[hnd] at hp;cases hp
  |some on=>
   rw[hnd] at hp
   cases on with
   |none=>
    simp only at hp;obtain⟨K',X1,X',e1,e2,e3,e4⟩:=AO hc fuel (i+1) G x x' X h aR hp;refine⟨K',X1,X',?_,e2,e3,e4⟩;rw[zm,h.no i hnd];exact e1
   |some s=>
    simp only at hp
    cases htk:Tok.WJ c i s with
    |none=>rw[htk] at hp;cases hp
    |some q=>
     obtain⟨s',o⟩:=q;rw[htk] at hp;simp only at hp
     cases hput:Tok.Ux c x i s' o with
     |none=>rw[hput] at hp;cases hp
     |some x1=>
      rw[hput] at hp;simp only at hp;obtain⟨v,v1,v2,v3⟩:=h.nd i s hnd;have hroom:Tok.room x.sent o=true:=by
       unfold Tok.Ux at hput
       cases hr:Tok.room x.sent o with
       |true=>rfl
       |false=>rw[hr] at hput;cases hput
      obtain⟨r1,r2⟩:=G8 hroom;have hkl':=h.Kl;obtain⟨K1,v',e1,S⟩:=aco hc h.g v2 aR htk ⟨aR,by rw[v3];simp;omega⟩;obtain⟨X1,e2,R1,e3⟩:=abI hc h hnd v1 v3 (aF N) S hput;obtain⟨K2,X2,X3,f1,f2,f3,f4⟩:=AO hc fuel (i+1) (G.at K1) x1 x' X1 R1 aR hp;refine⟨K2,X2,X3,?_,f2,S.le.trans f3,f4⟩;rw[zm,v1];simp only;rw[h.K,show(⟨(c.f:Int),c.n,i⟩:Who)=who c i from rfl,e1];simp only[Option.bind_some];rw[nQ e3];simp only[Option.bind_some];rw[e2];exact f1
theorem yF(d:vD c)(h:Km c G N x X)(o:N+1900<=900000)(H:Tok.round c x=some x'): ∃K' X',zP c.f c.n X X'/\xC G K'/\Km c (G.at K') (N+1900) x' X':=by
 unfold Tok.round at H
 cases a:Tok.drain c 1900 x with
 |none=>rw[a] at H;cases H
 |some x1=>
  rw[a] at H;simp only at H;obtain⟨m,k,b,q,D,k1,r⟩:=Lv d 1900 G N x x1 X h o a;obtain⟨K,t,X3,E,f,g,R⟩:=AO d c.n 0 (G.at k) x1 x' b r aR H;have e:Km c (G.at K) (N+1900) x' X3:={R with
   nd:=fun i s p=>by obtain⟨v,j,l,n⟩:=R.nd i s p;exact⟨v,j,l.more aR,n⟩}
  refine⟨K,X3,⟨m,b,aR,D,?_⟩,k1.trans g,e⟩;unfold Ei;rw[E];exact f
end
end
end Go.Proofs.YtgnhecmnlddjhaaGreat
