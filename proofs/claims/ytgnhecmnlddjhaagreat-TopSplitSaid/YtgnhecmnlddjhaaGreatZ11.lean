/- The law TopSplit answers true for all arguments, and each argument reads afterwards as it read before. Conditions: none. (Part 12 of 12, squeezed by a program.) -/
import Derived.Test.YtgnhecmnlddjhaaGreatZ10
import Derived.Test.YtgnhecmnlddjhaaGreatRows
set_option linter.all false
set_option maxRecDepth 100000
set_option maxHeartbeats 6400000
namespace Go.Proofs.YtgnhecmnlddjhaaGreat
open Go.RowKit Go.Proofs.Tryz
variable{K l:KS}{b:LN}{d f g j k n s:Nat}{kd ky v vl z:Int}{u:World}{σ:Nat->List Nat}
section
open Tok (TM)
section
variable{c:Tok.qM}{G H:mF}{N:Nat}{x x':Tok.Cl}{X X':CV}{l l':List (List TM)}{M M':Nat->List LI}{o:Tok.Out}{K':KS}
theorem Gl.grow(h:mF.Le G H)(a:Gl G b):Gl H b:=by obtain⟨l,d⟩:=h.nD;exact⟨fun t c=>⟨by rw[h.alt];exact(a.up t c).1,by rw[d,av];have:=(a.up t c).2;omega⟩,a.two,a.rise,a.one⟩
theorem Up.le(h:Up G b): ∀t∈b,t<=G.nD.length:=fun t H=>(h t H).2
theorem Em(h:mF.Le G H)(kind:Int)(k seq:Nat): ∀(l:List (Option LN)) (i:Nat),(∀(j:Nat) (b:LN),l[j]?=some (some b)->Up G b/\G.BO kind (i+j) k seq b∈G.K)->H.zL kind k seq l i=G.zL kind k seq l i
 | [],i,_=>rfl
 |none::l,i,hl=>by rw[mF.zL,mF.zL,Em h kind k seq l (i+1) fun j b hj=>by have:=hl (j+1) b (mR hj);rwa [show i+1+j=i+(j+1) by omega]]
 |some b::l,i,hl=>by rw[mF.zL,mF.zL,Em h kind k seq l (i+1) fun j b hj=>by have:=hl (j+1) b (mR hj);rwa [show i+1+j=i+(j+1) by omega]];have:=hl 0 b bJ;rw[Nat.add_zero] at this;rw[h.BO (Up.le this.1),(h.num this.2).1,h.qR (Up.le this.1)]
theorem Ci.grow{s:Tok.Sl}(g:mF.Le G H)(h:Ci c G k j s):Ci c H k j s:=
 ⟨h.b.grow g,h.gy,h.col,fun i b a=>⟨(h.pr i b a).1.grow g,by rw[g.BO (h.pr i b a).1.up.le];exact(g.num (h.pr i b a).2).2⟩,fun i b a=>⟨(h.co i b a).1.grow g,by rw[g.BO (h.co i b a).1.up.le];exact(g.num (h.co i b a).2).2⟩,fun b v d=>⟨(h.done b v d).1.grow g,(h.done b v d).2.1,fun i a=>by rw[g.BO (h.done b v d).1.up.le];exact(g.num ((h.done b v d).2.2 i a)).2⟩⟩
theorem ZF.grow{s:Tok.Sl}{p:uo}(g:mF.Le G H)(h:ZF G k j s p)(a:Ci c G k j s):ZF H k j s p:=by
 obtain⟨f,l,m,n,o,r⟩:=h;refine⟨f,by rw[g.qR a.b.up.le];exact l,?_,?_,o,?_⟩
 ·rw[Em g 4 k (j+1) s.pr 0 fun i b d=>by rw[aO];exact⟨(a.pr i b d).1.up,(a.pr i b d).2⟩];exact m
 ·rw[Em g 5 k (j+1) s.co 0 fun i b d=>by rw[aO];exact⟨(a.co i b d).1.up,(a.co i b d).2⟩];exact n
 rw[r]
 cases e:s.done with
 |none=>rfl
 |some q=>
  obtain⟨b,v⟩:=q;show some (G.ce k (j+1) b v)=some (H.ce k (j+1) b v);rw[g.ce (a.done b v e).1.up.le (a.done b v e).2.2]
theorem Ac(g:mF.Le G H)(h:k<=G.nD.length):mX H k=mX G k:=by obtain⟨l,a⟩:=g.nD;unfold mX;rw[a,jy h]
theorem tO.grow{s:Tok.Nd}{v:ql}(g:mF.Le G H)(h:tO c G N s v):tO c H N s v:=
 {h with
  at_:=fun k I o=>by
   obtain⟨i,m,e⟩:=h.at_ k I o;exact⟨i,m,e.vw,e.on,e.l1,e.l2,fun j s n=>by obtain⟨p,p1,p2,p3⟩:=e.at_ j s n;exact⟨p,p1,p2.grow g p3,p3.grow g⟩⟩
  tab:=h.tab.imp fun a b d=>⟨by rw[g.rq d.t.2];exact d.r,by obtain⟨l,f⟩:=g.nD;exact⟨d.t.1,by rw[f,av];have:=d.t.2;omega⟩,d.nX,d.l,d.ready,d.since,d.le⟩
  ES:=by obtain⟨l,f⟩:=g.nD;rw[f,av];have:=h.ES;omega
  es:=by rw[Ac g h.ES];exact h.es
  st:=by rw[Ac g h.ES];exact h.st
  ct:=by rw[Ac g h.ES];exact h.ct}
theorem vH.grow{m:TM}(g:mF.Le G H)(h:vH c G m):vH c H m/\H.bytes m=G.bytes m:=by
 obtain⟨l,d⟩:=g.nD;have len:G.nD.length<=H.nD.length:=by rw[d,av];omega
 refine⟨⟨?_,g.has h.form.upto h.has⟩,(g.bytes h.form.upto h.has).1⟩;have a:=h.form
 cases m with
 |req t=>exact⟨a.1,aG a.2 len⟩
 |prop s t=>exact⟨a.1,a.2.1,aG a.2.2 len⟩
 |pp s k q b=>exact⟨a.1,a.2.1,a.2.2.1.grow g,a.2.2.2⟩
 |uf s k q b=>exact⟨a.1,a.2.1,a.2.2.grow g⟩
 |com s k q b=>exact⟨a.1,a.2.1,a.2.2.grow g⟩
 |proof s k q b vs=>exact⟨a.1,a.2.1,a.2.2.1.grow g,a.2.2.2⟩
 |rep s t=>exact⟨a.1,a.2.1,aG a.2.2 len⟩
theorem Xg.grow(g:mF.Le G H)(h:Xg c G l M):Xg c H l M:=
 ⟨h.len,fun k ms a=>by rw[h.val k ms a];exact dX fun m b=>((h.ok k ms a m b).1.grow g).2.symm,fun k ms a m b=>⟨((h.ok k ms a m b).1.grow g).1,(h.ok k ms a m b).2⟩⟩
end
theorem Ul(G:mF): ∀k,oQ (mX G k).2.1/\(mX G k).2.1.length=64/\(mX G k).2.2.length=2:=by
 have key: ∀(R:List Rq) (s:Kr),oQ s.2.1/\s.2.1.length=64/\s.2.2.length=2->oQ (qL s R).2.1/\(qL s R).2.1.length=64/\(qL s R).2.2.length=2:=by
  intro R
  induction R with
  |nil=>exact fun s h=>h
  |cons r R ih=>
   intro s h;refine ih (qg s r) ⟨?_,?_,by rw[Ru];exact h.2.2⟩
   ·unfold qg
    split
    ·exact h.1.op _ _ _
    exact h.1
   unfold qg;split
   ·exact(abr _ _ _ _).trans h.2.1
   exact h.2.1
 exact fun k=>key _ _ ⟨oQ.zero,by simp[st0],bJ⟩
theorem Ng: ∀st:List (Bool×Int),oQ st-> -2147483648*(st.length:Int)<=uj st/\uj st<=2147483648*(st.length:Int)
 | [],_=>by simp[uj]
 |a::st,h=>by have ih:=Ng st fun c hc=>h c (by simp[hc]);have h0:=h a bJ;unfold uj at*;simp only[bV,List.sum_cons,List.length_cons];omega
theorem Yu(G:mF)(k:Nat)(r:Rq): -549755813887<=uK (mX G k) r/\uK (mX G k) r<=549755813887:=by
 obtain⟨H,a,_⟩:=Ul G k;have b:=Ng _ H;rw[a] at b;have d:=H.get r.2.2.2.1;unfold uK Pw;split
 ·rename_i c
  split
  ·omega
  split
  ·omega
  split
  ·split
   ·rename_i h
    unfold sH at h;have:=of_decide_eq_true h;omega
   omega
  split
  ·omega
  split<;>omega
 omega
theorem abT(d:n<=1000)(b:0<=z/\z<=1000000)(h:mq 2 (1,(n:Int)+1,kd,ky,vl,0)=true):xH (1,(n:Int)+1,kd,ky,vl,z)/\mq 2 (1,(n:Int)+1,kd,ky,vl,z)=true:=by unfold mq at h|-;simp only[bX,decide_eq_true_eq] at h|-;obtain⟨c,H,a⟩:=h;refine⟨⟨⟨by show(0:Int)<=1;decide,by show(1:Int)<_;decide⟩,⟨by show(0:Int)<=(n:Int)+1;omega,by show(n:Int)+1<_;omega⟩,⟨by show 0<=kd;omega,by show kd<_;omega⟩,⟨by show _<=ky;omega,by show ky<_;omega⟩,⟨by show _<=vl;omega,by show vl<_;omega⟩,⟨b.1,by show z<_;omega⟩⟩,⟨aR,aR,aR,aR,aR,aR⟩,H,a⟩
section
variable{c:Tok.qM}{G H:mF}{N:Nat}{x x':Tok.Cl}{X X':CV}{l l':List (List TM)}{M M':Nat->List LI}{o:Tok.Out}{K':KS}
def mF.more(G:mF)(kd ky vl:Int):mF:=
 let n:=G.nD.length
 let q:Int×List Int:=(100+1,gM (1,(n:Int)+1,kd,ky,vl,0))
 let r:Rq:=(1,(n:Int)+1,kd,ky,vl,num (sealed G.K q) q)
 ⟨G.f,G.nD++ [r],G.res++ [uK (mX G n) r],sealed (sealed G.K q) (100+1,dF (mU 1 r)),G.cl,G.alt⟩
theorem Ou(c:G.res.length=G.nD.length)(kd ky vl:Int):mF.Le G (G.more kd ky vl):=by refine⟨rfl,rfl,rfl,⟨_,rfl⟩,⟨_,rfl⟩,c,?_⟩;obtain⟨a,h⟩:=CJ G.K (100+1,gM (1,(G.nD.length:Int)+1,kd,ky,vl,0));obtain⟨b,H⟩:=CJ (sealed G.K (100+1,gM (1,(G.nD.length:Int)+1,kd,ky,vl,0))) (100+1,dF (mU 1 (1,(G.nD.length:Int)+1,kd,ky,vl,num (sealed G.K (100+1,gM (1,(G.nD.length:Int)+1,kd,ky,vl,0))) (100+1,gM (1,(G.nD.length:Int)+1,kd,ky,vl,0)))));exact⟨a++b,by show sealed (sealed G.K _) _=_;rw[H,h,bW]⟩
theorem ad9(i:c.cl=1)(v:G.alt=none)(a:sS c G)(M:G.K.length<=900000)(F:G.nD.length<100)(A:mq 2 (1,(G.nD.length:Int)+1,kd,ky,vl,0)=true):sS c (G.more kd ky vl):=by
 obtain⟨n,f⟩:=ex G.nD.length;obtain⟨q,y⟩: ∃q:Int×List Int,q=(100+1,gM (1,(n:Int)+1,kd,ky,vl,0)):=⟨_,rfl⟩;obtain⟨r,u⟩: ∃r:Rq,r=(1,(n:Int)+1,kd,ky,vl,num (sealed G.K q) q):=⟨_,rfl⟩;have E:G.more kd ky vl=⟨G.f,G.nD++ [r],G.res++ [uK (mX G n) r],sealed (sealed G.K q) (100+1,dF (mU 1 r)),G.cl,G.alt⟩:=by rw[u,y,f];rfl
 have le:=Ou a.len kd ky vl;rw[E] at le|-;rw[<-f] at A F;have N:=yC (sealed G.K q) q;have S:=ze G.K q;have R:=abT (z:=num (sealed G.K q) q) aR ⟨N.1,aR⟩ A;rw[<-u] at R;have k0:=abT (z:=0) aR ⟨aR,aR⟩ A;have J:xC G (sealed (sealed G.K q) (100+1,dF (mU 1 r))):=⟨le.K.choose,le.K.choose_spec⟩;have K:xC (G.at (sealed G.K q)) (sealed (sealed G.K q) (100+1,dF (mU 1 r))):=xC.sealed _;have s:=K.mem (q:=q) (zf G.K q);have h:r.1=1/\r.2.1=(n:Int)+1:=by rw[u];exact⟨rfl,rfl⟩
 have body:gM r=gM (1,(n:Int)+1,kd,ky,vl,0):=by rw[u];rfl
 have key:((100+r.1,gM r):Int×List Int)=q:=by rw[body,h.1,y]
 have j:sU (sealed (sealed G.K q) (100+1,dF (mU 1 r))) 2 r:=by refine⟨R.2,R.1,?_,by rw[key];exact s.1,by rw[key,s.2,u],by rw[h.1];exact⟨aV,aV⟩⟩;rw[key,y];refine⟨⟨by show _<=(100+1:Int);decide,by show(100+1:Int)<=_;decide⟩,fun x hx=>DX k0.1 x hx,?_⟩;have:=IL (1,(n:Int)+1,kd,ky,vl,0);show(oK (1,(n:Int)+1,kd,ky,vl,0)).length<=maxLen;unfold maxLen;omega
 have d: ∀t,t=n+1->(⟨G.f,G.nD++ [r],G.res++ [uK (mX G n) r],sealed (sealed G.K q) (100+1,dF (mU 1 r)),G.cl,G.alt⟩:mF).rq t=r:=fun t I=>by rw[mF.WT _ aR,bE,bN aR,I];show([r][n+1 -1 -G.nD.length]?).getD rq0=r;rw[show n+1 -1 -G.nD.length=0 by omega];rfl
 have len:(⟨G.f,G.nD++ [r],G.res++ [uK (mX G n) r],sealed (sealed G.K q) (100+1,dF (mU 1 r)),G.cl,G.alt⟩:mF).nD.length=n+1:=by show(G.nD++ [r]).length=_;rw[av,<-f];rfl
 obtain⟨Q,P,L⟩:=Ul G n;have b:lastOf (mX G n).2.2 1=n:=by have:=a.last n aR;rw[i] at this;exact this
 have O:Yf (mX G n).2.2 r=true:=by unfold Yf hasB;rw[h.1,b,h.2,L];simp;omega
 have l: ∀k,k<=n->mX (⟨G.f,G.nD++ [r],G.res++ [uK (mX G n) r],sealed (sealed G.K q) (100+1,dF (mU 1 r)),G.cl,G.alt⟩:mF) k=mX G k:=fun k C=>Ac le aR;refine⟨a.f,a.cl,a.clb,by show(G.res++ [_]).length=(G.nD++ [r]).length;simp[a.len],by rw[len];omega,fun t o p=> ?_,fun r' g=>(by replace g:G.alt=some r':=g;rw[v] at g;cases g),fun t o p=> ?_,fun t o p=> ?_,fun k C=> ?_,fun z m=> ?_⟩
 ·rw[len] at p
  by_cases e:t=n+1
  ·rw[d t e]
   exact⟨by rw[h.1,i];rfl,by rw[h.2,e];omega,j⟩
  have H:t<=G.nD.length:=aR;rw[le.rq H];have:=a.rq t o H;exact⟨this.1,this.2.1,this.2.2.le J⟩
 ·rw[len] at p
  rw[l (t -1) aR];by_cases e:t=n+1
  ·rw[d t e,show t -1=n by omega]
   exact O
  have H:t<=G.nD.length:=aR;rw[le.rq H];exact a.ok t o H
 ·rw[len] at p
  rw[l (t -1) aR];by_cases e:t=n+1
  ·rw[d t e,show t -1=n by omega]
   show(G.res++ [uK (mX G n) r]).getD n 0=_;rw[bE,bN (by rw[a.len];omega),a.len,show n -G.nD.length=0 by omega];rfl
  have H:t<=G.nD.length:=aR;rw[le.rq H,<-a.rs t o H];show(G.res++ [_]).getD (t -1) 0=_;rw[Iy (by rw[a.len];omega)]
 ·rw[len] at C
  by_cases e:k=n+1
  ·subst e
   have w:mX (⟨G.f,G.nD++ [r],G.res++ [uK (mX G n) r],sealed (sealed G.K q) (100+1,dF (mU 1 r)),G.cl,G.alt⟩:mF) (n+1)=qg (mX G n) r:=by unfold mX qL;show((G.nD++ [r]).take (n+1)).foldl qg _=_;rw[show n+1=(G.nD++ [r]).length by rw[<-len],dP,jR,f,dP];rfl
   rw[w,qg,if_pos O,i];show lastOf (Aw (mX G n).2.2 r.1 r.2.1 _) 1=_;have D:adU (mX G n).2.2 r.1 r.2.1=true:=by
    have:=b;unfold lastOf at this;have B:hasB (mX G n).2.2 1=true:=by unfold hasB;rw[L];decide
    rw[if_pos B] at this;unfold adU;rw[h.1,B,this,h.2];simp;omega
   unfold Aw;rw[if_pos D,h.1,h.2];unfold lastOf hasB;rw[bG,L];simp[bE,je,L]
  rw[l k aR];exact a.last k aR
 rcases aQ.1 m with m|m
 ·exact a.res z m
 rw[au] at m;rw[m];exact Yu G n r
theorem Mk(w:c.cl=1)(J:G.alt=none)(D:vD c)(h:Km c G N x X)(T:G.nD.length<100)(E:mq 2 (1,(G.nD.length:Int)+1,kd,ky,vl,0)=true)(H:Tok.issue c x=some x'):
  ∃X',Zp c.n kd ky vl X X'/\Km c (G.more kd ky vl) N x' X':=by
 have a0:=h.Kl;unfold Tok.issue Tok.aaU at H;simp only at H
 cases F:x.ck.waits with
 |true=>rw[F] at H;cases H
 |false=>
  rw[F] at H
  cases b:Tok.room x.sent (Tok.sendAll c.n 1000 (.req (x.ck.issued+1)) c.n) with
  |false=>rw[b] at H;cases H
  |true=>
   rw[b] at H;simp only at H;obtain⟨r1,r2⟩:=G8 b
   cases O:Tok.wY c.n (c.n+1) (Tok.sendAll c.n 1000 (.req (x.ck.issued+1)) c.n) x.links with
   |none=>rw[O] at H;cases H
   |some lk'=>
    rw[O] at H;simp only[aD] at H;subst H;have I:G.K.length<=900000:=aR;have o:=ad9 w J h.g I T E;have g:G.cl=1:=h.g.cl.trans w;have own:=mF.acT g;have le:=Ou h.g.len kd ky vl;have b0:=D.f4;have d0:=D.n;have c0:=D.f1;have Q:=h.ck.yK;rw[own] at Q;have e:=CO c.n 1000 (.req (x.ck.issued+1)) c.n;have y:(List.range c.n).filter (fun i=>decide (i≠1000))=List.range c.n:=by rw[List.filter_eq_self];intro a ha;have:=fE.1 ha;exact decide_eq_true aR
    rw[y] at e;obtain⟨n,k⟩:=ex G.nD.length;obtain⟨q,t⟩: ∃q:Int×List Int,q=(100+1,gM (1,(n:Int)+1,kd,ky,vl,0)):=⟨_,rfl⟩;obtain⟨r,U⟩: ∃r:Rq,r=(1,(n:Int)+1,kd,ky,vl,num (sealed G.K q) q):=⟨_,rfl⟩;have hM:G.more kd ky vl=⟨G.f,G.nD++ [r],G.res++ [uK (mX G n) r],sealed (sealed G.K q) (100+1,dF (mU 1 r)),G.cl,G.alt⟩:=by rw[U,t,k];rfl
    rw[hM] at o le|-;have f:(⟨G.f,G.nD++ [r],G.res++ [uK (mX G n) r],sealed (sealed G.K q) (100+1,dF (mU 1 r)),G.cl,G.alt⟩:mF).nD.length=n+1:=by show(G.nD++ [r]).length=_;rw[av,<-k];rfl
    have P:(⟨G.f,G.nD++ [r],G.res++ [uK (mX G n) r],sealed (sealed G.K q) (100+1,dF (mU 1 r)),G.cl,G.alt⟩:mF).rq (x.ck.issued+1)=r:=by rw[mF.WT _ aR,bE,fF,bN aR];show([r][x.ck.issued -G.nD.length]?).getD rq0=r;rw[show x.ck.issued -G.nD.length=0 by omega];rfl
    have B:(⟨G.f,G.nD++ [r],G.res++ [uK (mX G n) r],sealed (sealed G.K q) (100+1,dF (mU 1 r)),G.cl,G.alt⟩:mF).ms (.req (x.ck.issued+1))=mU 1 r:=by show(⟨1,100+(G.cl:Int),0,0,0,0,[_],[],[]⟩:Ms)=_;rw[P,g];rfl
    have m:(⟨G.f,G.nD++ [r],G.res++ [uK (mX G n) r],sealed (sealed G.K q) (100+1,dF (mU 1 r)),G.cl,G.alt⟩:mF).key (.req (x.ck.issued+1))=(100+1,dF (mU 1 r)):=by unfold mF.key;rw[B];rfl
    have A:vH c (⟨G.f,G.nD++ [r],G.res++ [uK (mX G n) r],sealed (sealed G.K q) (100+1,dF (mU 1 r)),G.cl,G.alt⟩:mF) (.req (x.ck.issued+1)):=⟨⟨aR,by rw[f];omega⟩,by show _∈_;rw[m];exact zf _ _⟩;have e0:=ze G.K q;have f0:=ze (sealed G.K q) (100+1,dF (mU 1 r));have V:(Tok.sendAll c.n 1000 (.req (x.ck.issued+1)) c.n).length=c.n:=by rw[e];simp
    have l:(sealed (sealed G.K q) (100+1,dF (mU 1 r))).length<=x.sent+Tok.len (Tok.sendAll c.n 1000 (.req (x.ck.issued+1)) c.n)+1:=by rw[pQ,V];omega
    obtain⟨R,S,Y⟩:=JA D o (by show(sealed (sealed G.K q) _).length<=_;rw[pQ,V] at l;omega) (src:=c.n+1) aR _ x.links lk' X.M (h.lk.grow le) (fun p H=>by rw[e] at H;obtain⟨a,_,rfl⟩:=bM.1 H;exact A) O
    have j:(⟨G.f,G.nD++ [r],G.res++ [uK (mX G n) r],sealed (sealed G.K q) (100+1,dF (mU 1 r)),G.cl,G.alt⟩:mF).bytes (.req (x.ck.issued+1))=mD (num (sealed (sealed G.K q) (100+1,dF (mU 1 r))) (100+1,dF (mU 1 r))).toNat++dF (mU 1 r):=by unfold mF.bytes;rw[m,B]
    have C:(⟨G.f,G.nD++ [r],G.res++ [uK (mX G n) r],sealed (sealed G.K q) (100+1,dF (mU 1 r)),G.cl,G.alt⟩:mF).yX c.n (Tok.sendAll c.n 1000 (.req (x.ck.issued+1)) c.n)=(List.range c.n).map fun i:Nat=>((i:Int),mD (num (sealed (sealed G.K q) (100+1,dF (mU 1 r))) (100+1,dF (mU 1 r))).toNat++dF (mU 1 r)):=by unfold mF.yX;rw[e,gu];refine dX fun i L=> ?_;show(zI c.n i,mF.bytes _ _)=_;rw[j,zI,if_pos (fE.1 L)]
    rw[C,show zI c.n (c.n+1)=101 by unfold zI;rw[if_neg aR];omega] at S;have d:X.ck.il.length=n:=by rw[h.ck.il,own,k]
    rw[<-k] at E T;have k0:=abT (z:=0) aR ⟨aR,aR⟩ E;have u:=h.ck.acc;rw[if_neg (by rw[F];decide)] at u;refine⟨{X with K:=sealed (sealed X.K q) (100+1,dF (mU 1 r)),ck:={X.ck with waits:=true,il:=X.ck.il++ [r],at_:=X.ck.now,al:= []},M:=R},⟨r,q,(100+1,dF (mU 1 r)),mD (num (sealed (sealed G.K q) (100+1,dF (mU 1 r))) (100+1,dF (mU 1 r))).toNat++dF (mU 1 r),R,?_,S,rfl⟩,?_⟩
    ·refine⟨by rw[h.ck.waits,F],by rw[d];omega,by rw[h.K];omega,by rw[d];exact E,by rw[d];exact k0.1,by rw[d];exact t,?_,by rw[d,h.K];exact U,rfl,by rw[h.K]⟩
     rw[t];refine⟨⟨by show _<=(100+1:Int);decide,by show(100+1:Int)<=_;decide⟩,fun x hx=>DX k0.1 x hx,?_⟩;have:=IL (1,(n:Int)+1,kd,ky,vl,0);show(oK (1,(n:Int)+1,kd,ky,vl,0)).length<=maxLen;unfold maxLen;omega
    refine⟨o,by show sealed (sealed X.K q) _=_;rw[h.K],l,by show x.sent+Tok.len _+1<=600000;rw[pQ];omega,h.nl,h.nl',h.no,fun i s L=> ?_,?_,h.t0,Y⟩
    ·obtain⟨v,Z,h2,h3⟩:=h.nd i s L
     exact⟨v,Z,h2.grow le,h3⟩
    have W:=h.ck.Ag;refine⟨rfl,by rw[mF.acT (by exact g)];show X.ck.il++ [r]=G.nD++ [r];rw[h.ck.il,own],by rw[mF.acT (by exact g),f];show x.ck.issued+1=n+1;omega,h.ck.now,h.ck.now,h.ck.Ag,aF _,fun _=>rfl,fun _=>bF _,?_,by show(if true=true then _ else _);rw[if_pos rfl];show x.ck.acc+1=x.ck.issued+1;omega,by show 0<=200;omega⟩;rw[mF.acT (by exact g)];show X.ck.el=((G.nD++ [r]).zip (G.res++ [uK (mX G n) r])).take x.ck.acc;rw[h.ck.el,own,List.zip_append (by rw[h.g.len]),jy (by rw[gW,h.g.len];omega)]
theorem afY(F:c.f=f)(g:vD c)(G:mF){v:ql}(I:vU f c.n v):tO c G 0 (Tok.nd0 c) v:=by
 have il:v.is.length=c.f+1:=by have:=I.il;rw[F];omega
 have r:=g.f4;exact{
  now:=I.now
  Ag:=bF _
  il:=by show(Tok.tH (c.f+1) _).length=_;rw[qH];simp
  vl:=il
  at_:=fun k ins h=>by
   replace h:(Tok.tH (c.f+1) (Tok.tH 16 (Tok.sl0 c.n)))[k]?=some ins:=h;rw[qH,qH,dI] at h;split at h
   ·rename_i u
    injection h with h;subst h;obtain⟨x,y,n⟩:=I.is _ (bY (show k<v.is.length by omega));refine⟨v.is[k],aj _,x,y,bJ,by rw[n];simp,fun j s H=> ?_⟩;rw[dI] at H;split at H
    ·rename_i l
     injection H with H;subst H;have V: ∀(kind:Int) (m i:Nat),mF.zL G kind k (j+1) (List.replicate m none) i=List.replicate m none:=fun kind m=>by
      induction m with
      |zero=>intro i;rfl
      |succ m ih=>intro i;rw[List.replicate_succ,mF.zL,ih,<-List.replicate_succ]
     refine⟨QW c.n,by rw[n,dI,if_pos l],⟨rfl,rfl,?_,?_,rfl,rfl⟩,⟨⟨fun t w=>(by cases w),bF _,iE,fun o=>(by cases o)⟩,by show(Tok.tH c.n none).length=_;rw[qH];simp,by show(Tok.tH c.n none).length=_;rw[qH];simp,fun a b d=> ?_,fun a b d=> ?_,fun b v q=>(by cases q)⟩⟩
     ·show List.replicate c.n none=mF.zL _ 4 k (j+1) (Tok.tH c.n none) 0
      rw[qH,V]
     ·show List.replicate c.n none=mF.zL _ 5 k (j+1) (Tok.tH c.n none) 0
      rw[qH,V]
     ·replace d:(Tok.tH c.n none)[a]?=some (some b):=d
      rw[qH,dI] at d;split at d<;>cases d
     replace d:(Tok.tH c.n none)[a]?=some (some b):=d;rw[qH,dI] at d;split at d<;>cases d
    cases H
   cases h
  tab:=by rw[I.T];exact uq.nil
  Fh:=bF _
  ES:=bF _
  es:=I.es
  st:=I.st
  ct:=I.ct
  ga:=by show v.ga=(Tok.tH (c.f+1) (0,0)).map _;rw[I.ga,il,qH];simp
  gal:=by show(Tok.tH (c.f+1) _).length=_;rw[qH];simp
  gaB:=fun p e=>by replace e:p∈Tok.tH (c.f+1) (0,0):=e;rw[qH] at e;rw[dO e];exact⟨bF _,bF _⟩
  run:=I.run
  kY:=bF _
  view:=I.view
  vk:=by rw[I.vk];decide
  since:=by rw[I.since];decide
  start:=I.start
  JM:=aF _
  stop:=I.stop
  cnt:=by rw[I.c0,I.c2];decide
  vZ:=by rw[I.vZ,il]
  nN:=fun k h=>⟨List.replicate 17 0,by rw[I.nN,il,dI,if_pos aR],bJ⟩
  nG:=fun k ins h=>by
   replace h:(Tok.tH (c.f+1) (Tok.tH 16 (Tok.sl0 c.n)))[k]?=some ins:=h;rw[qH,qH,dI] at h;split at h
   ·injection h with h
    subst h;refine⟨List.replicate 17 0,by rw[I.nG,il,dI,if_pos aR],bJ,fun j S H=> ?_⟩;rw[dI] at H|-;split at H
    ·injection H with H
     subst H;rw[if_pos aR];rfl
    cases H
   cases h
  QZ:=by rw[I.nN,il];simp
  Qg:=by rw[I.nG,il];simp
  V13:=by rw[I.V];have:=g.n;omega
  xU:=⟨c.n,I.xU,by have:=g.n;omega⟩
  Yj:=I.Yj}
theorem QD{f:Nat}(F:c.f=f)(x:vD c)(q:c.cl=1){l:LI}(j:Hw f c.n l X)(w:100∉l)(b:Nat->Bool)(u: ∀i,i<c.n->(b i=true↔(i:Int)∈l)):Km c ⟨c.f,[],[],[],1,none⟩ 0 (Tok.cl0 c b) X:=by
 have h:(Tok.cl0 c b).nodes=(List.range c.n).map fun i=>if b i then none else some (Tok.nd0 c):=rfl;refine⟨⟨rfl,q.symm,aR,rfl,bF _,fun t o p=> ?_,fun r A=>(by cases A),fun t o p=> ?_,fun t o p=> ?_,fun k H=> ?_,fun z C=>by cases C⟩,j.K,aF _,by show 0<=600000;omega,by rw[h];simp,j.len,fun i a=> ?_,fun i s a=> ?_,?_,by rw[j.t0,if_neg w,if_neg aR];rfl,?_⟩
 ·exact absurd (aG o p) (by show ¬1<=0;omega)
 ·exact absurd (aG o p) (by show ¬1<=0;omega)
 ·exact absurd (aG o p) (by show ¬1<=0;omega)
 ·obtain rfl:k=0:=Nat.le_zero.1 H
  rw[q];rfl
 ·have d:i<c.n:=by have:=(ah.1 a).1;rw[h] at this;simpa using this
  rw[h,aS,lU d] at a;have g:b i=true:=by
   cases n:b i with
   |true=>rfl
   |false=>rw[Option.map_some,n] at a;cases a
  have:=j.nodes i d;rw[if_pos ((u i d).1 g)] at this;exact this
 ·have d:i<c.n:=by have:=(ah.1 a).1;rw[h] at this;simpa using this
  rw[h,aS,lU d] at a;have g: ¬b i=true:=fun n=>by rw[Option.map_some,n] at a;cases a
  rw[Option.map_some,if_neg g] at a;injection a with a;injection a with a;subst a;have:=j.nodes i d;rw[if_neg (fun e=>g ((u i d).2 e))] at this;obtain⟨v,B,I⟩:=this;refine⟨v,B,?_,I.out⟩;exact afY F x _ I
 ·rw[j.ck]
  exact⟨rfl,rfl,rfl,rfl,rfl,bF _,aF _,fun e=>(by cases e),fun e=>(by cases e),rfl,by show(if false=true then _ else _);rw[if_neg aV];rfl,by show 0<=200;omega⟩
 refine⟨by show(Tok.tH _ _).length=_;rw[qH];simp,fun k ms H=> ?_,fun k ms H m y=> ?_⟩
 ·replace H:(Tok.tH ((c.n+2)*(c.n+2)) ([]:List TM))[k]?=some ms:=H
  rw[qH,dI] at H;split at H
  ·injection H with H
   subst H;exact j.M k
  cases H
 replace H:(Tok.tH ((c.n+2)*(c.n+2)) ([]:List TM))[k]?=some ms:=H;rw[qH,dI] at H;split at H
 ·injection H with H
  subst H;cases y
 cases H
end
end
section
open Tok (TM)
def dW(v z:Int):Rq:=(0,1,1,1,v,z)
def iY(v:Int):Int×List Int:=(100+0,gM (dW v (-1)))
def AL(kd:Nat)(v z:Int):Ms:=⟨kd,0,0,0,1,0,[dW v z],[],[]⟩
def ow(K:KS)(kd:Nat)(v:Int):Int×List Int:=(0,dF (AL kd v (num K (iY v))))
def fgB(K:KS)(kd:Nat)(v:Int):List Int:=mD (num K (ow K kd v)).toNat++(ow K kd v).2
theorem acQ{kd:Nat}(h:iY v∈K):ow (K++l) kd v=ow K kd v:=by unfold ow;rw[VX h]
theorem ajD{kd:Nat}(h:iY v∈K)(k:ow K kd v∈K):fgB (K++l) kd v=fgB K kd v:=by unfold fgB;rw[acQ h,VX k]
def sj(kd b:Nat):TM:=if kd=3 then .pp 0 0 1 [b] else if kd=4 then .uf 0 0 1 [b] else .com 0 0 1 [b]
def yc(f:Nat)(V:Nat->Int)(two:Bool)(K:KS):mF:=⟨f,[dW (V 1) (num K (iY (V 1)))],[uK ([],st0,ct0) (dW (V 1) 0)],K,0,if two then some (dW (V 0) (num K (iY (V 0)))) else none⟩
section
variable{f n:Nat}{V:Nat->Int}{two:Bool}{K:KS}{kd b:Nat}
structure ahX(two:Bool)(kd b:Nat):Prop where
 kd:kd=3\/kd=4\/kd=5
 b:b=1\/(b=0/\two=true)
theorem aoU(h:b=1\/(b=0/\two=true)):(yc f V two K).rq b=dW (V b) (num K (iY (V b))):=by rcases h with rfl|⟨rfl,rfl⟩<;>rfl
theorem alx(h:ahX two kd b):(yc f V two K).ms (sj kd b)=AL kd (V b) (num K (iY (V b))):=by
 have H:(yc f V two K).qR [b]= [dW (V b) (num K (iY (V b)))]:=by rw[<-aoU h.b];rfl
 rcases h.kd with rfl|rfl|rfl<;>show Ms.mk _ _ _ _ _ _ _ _ _=_<;>rw[H]<;>rfl
theorem lF(h:ahX two kd b):(yc f V two K).bytes (sj kd b)=fgB K kd (V b):=by unfold mF.bytes mF.key;rw[alx h];rfl
theorem afU(H:0<=v/\v<=100)(h:0<=z/\z<=1000000):xH (dW v z)/\mq 2 (dW v z)=true:=by refine⟨⟨⟨by show(0:Int)<=0;decide,by show(0:Int)<_;decide⟩,⟨by show(0:Int)<=1;decide,by show(1:Int)<_;decide⟩,⟨by show(0:Int)<=1;decide,by show(1:Int)<_;decide⟩,⟨by show _<=(1:Int);decide,by show(1:Int)<_;decide⟩,⟨by show _<=v;omega,by show v<_;omega⟩,⟨h.1,by show z<_;omega⟩⟩,?_⟩;unfold mq dW;simp only[bX,decide_eq_true_eq];exact⟨aR,aR,.inl trivial⟩
theorem ah8(H:0<=v/\v<=100)(a:0<=z/\z<=1000000)(b:kd=3\/kd=4\/kd=5):Ev (AL kd v z)/\(dF (AL kd v z)).length<=65000:=by have z0:qh 0:=qJ aR aR;refine⟨⟨qJ (by show(0:Int)<=(kd:Int);omega) (by show(kd:Int)<=_;omega),z0,z0,z0,qJ (by show(0:Int)<=1;omega) (by show(1:Int)<=_;omega),⟨by show(_:Int)<=0;omega,by show(0:Int)<_;omega⟩,fun r h=> ?_,fun x hx=>by simp[AL] at hx,fun x hx=>by simp[AL] at hx,by simp[AL],by simp[AL],by simp[AL]⟩,wQ (by simp[AL]) (by simp[AL]) (by simp[AL]) (by simp[AL])⟩;simp only[AL,au] at h;subst h;exact(afU H a).1
structure FgI(V:Nat->Int)(two:Bool)(X0 X:CV)(T:Nat->List TM)(most:Nat):Prop where
 nodes:X.nodes=X0.nodes
 t0:X.t0=X0.t0
 ck:X.ck=X0.ck
 K:X.K.length<=most
 has: ∀k,∀m∈T k,∃kd b,m=sj kd b/\ahX two kd b/\iY (V b)∈X.K/\ow X.K kd (V b)∈X.K
 val: ∀k,X.M k=(T k).map (yc 1 V two X.K).bytes
variable{X0 X:CV}{T:Nat->List TM}{most:Nat}
theorem ajF(h:FgI V two X0 X T most)(t: ∀b,0<=V b/\V b<=100)(c:most<=1000){i:Nat}(C:XT (pE n) 0 i=some k)(D:(T k).length<64)(g:ahX two kd b): ∃s,FgV X n i kd 0 1 1 1 (V b) s/\FgI V two X0 s (ru T k (T k++ [sj kd b])) (most+2):=by
 have J:=h.K;have S:=ze X.K (iY (V b));have O:=ze (sealed X.K (iY (V b))) (ow (sealed X.K (iY (V b))) kd (V b));have N:=yC (sealed X.K (iY (V b))) (iY (V b));obtain⟨k1,u⟩:=ah8 (v:=V b) (z:=num (sealed X.K (iY (V b))) (iY (V b))) (t b) ⟨N.1,aR⟩ g.kd;have w:iY (V b)∈sealed X.K (iY (V b)):=zf _ _;obtain⟨L,y⟩:=CJ X.K (iY (V b));obtain⟨G,E⟩:=CJ (sealed X.K (iY (V b))) (ow (sealed X.K (iY (V b))) kd (V b));have I:ow (sealed X.K (iY (V b))) kd (V b)∈sealed (sealed X.K (iY (V b))) (ow (sealed X.K (iY (V b))) kd (V b)):=zf _ _;have R:=afU (v:=V b) (z:=0) (t b) ⟨aR,aR⟩;obtain⟨K',H⟩:=ex (sealed (sealed X.K (iY (V b))) (ow (sealed X.K (iY (V b))) kd (V b)));have p:ow K' kd (V b)=ow (sealed X.K (iY (V b))) kd (V b):=by rw[H,E,acQ w]
 have A:iY (V b)∈K':=by rw[H,E];exact bL _ w
 have le: ∃l,K'=X.K++l:=⟨L++G,by rw[H,E,y,bW]⟩;refine⟨{X with K:=K',M:=ru X.M k (X.M k++ [fgB K' kd (V b)])},⟨⟨iY (V b),num (sealed X.K (iY (V b))) (iY (V b)),AL kd (V b) (num (sealed X.K (iY (V b))) (iY (V b))),ow (sealed X.K (iY (V b))) kd (V b),k,fgB K' kd (V b),rfl,?_,rfl,rfl,k1,u,rfl,?_,?_,C,?_,?_⟩,aR,R.1,⟨aR,aR⟩,by rcases g.kd with rfl|rfl|rfl<;>decide⟩,h.nodes,h.t0,h.ck,?_,?_,?_⟩
 ·refine⟨⟨by show _<=(100+0:Int);decide,by show(100+0:Int)<=_;decide⟩,fun x hx=>DX R.1 x hx,?_⟩
  have:=IL (dW (V b) 0);show(oK (dW (V b) 0)).length<=maxLen;unfold maxLen;omega
 ·show fgB K' kd (V b)=_
  unfold fgB;rw[p,H];rfl
 ·unfold fgB
  rw[p,av];have:=(qz (num K' (ow (sealed X.K (iY (V b))) kd (V b))).toNat).2;have F:(ow (sealed X.K (iY (V b))) kd (V b)).2.length<=65000:=u;omega
 ·rw[h.val,aT]
  exact D
 ·rw[H]
 ·show K'.length<=_
  rw[H];omega
 ·intro j m c
  obtain⟨l,a⟩:=le;by_cases e:j=k
  ·subst e
   rw[ou] at c;rcases aQ.1 c with c|c
   ·obtain⟨d,B,r,Q,q,f⟩:=h.has j m c
    refine⟨d,B,r,Q,?_,?_⟩
    ·show _∈K'
     rw[a];exact bL _ q
    show ow K' _ _∈K';rw[a,acQ q];exact bL _ f
   rw[au] at c;refine⟨kd,b,c,g,A,?_⟩;show ow K' _ _∈K';rw[p,H];exact I
  rw[oP _ _ e] at c;obtain⟨d,B,r,Q,q,f⟩:=h.has j m c;refine⟨d,B,r,Q,?_,?_⟩
  ·show _∈K'
   rw[a];exact bL _ q
  show ow K' _ _∈K';rw[a,acQ q];exact bL _ f
 intro j;obtain⟨l,a⟩:=le;have o: ∀j,X.M j=(T j).map (yc 1 V two K').bytes:=fun j=>by rw[h.val j];refine dX fun m c=> ?_;obtain⟨d,B,rfl,Q,q,f⟩:=h.has j m c;rw[lF Q,lF Q,a,ajD q f]
 show ru X.M k _ j=(ru T k _ j).map (yc 1 V two K').bytes;by_cases e:j=k
 ·subst e
  rw[ou,ou,bR,<-o,List.map_singleton,lF g]
 rw[oP _ _ e,oP _ _ e,<-o]
end
end
section
open Tok (TM)
def akc(c:Tok.qM)(sl:Tok.Sl)(led run now start:Nat):Tok.Nd:=
 ⟨(sl::Tok.tH 15 (Tok.sl0 c.n))::Tok.tH c.f (Tok.tH 16 (Tok.sl0 c.n)),[],led,Tok.tH (c.f+1) (0,0),run,now,start⟩
def J4(sl:Tok.Sl):Nat:=if sl.done.isSome then 1 else 0
def jd(c:Tok.qM)(sl:Tok.Sl)(now start:Nat):Tok.Nd:=akc c sl (J4 sl) (J4 sl) now start
structure KO(c:Tok.qM)(σ:Nat->List Nat):Prop where
 two: ∀i,σ i= [1]\/σ i= [0]
 few: ∀vs:List Nat,vs.Pairwise (· < ·)->(∀j∈vs,j<c.n/\(1<=j->σ j= [0]))->vs.length≠c.q
 q:2<=c.q
 n:1<=c.n
 cl:c.cl=0
structure D9(c:Tok.qM)(σ:Nat->List Nat)(i:Nat)(sl:Tok.Sl):Prop where
 gy:sl.pr.length=c.n
 col:sl.co.length=c.n
 pr: ∀j b,sl.pr[j]?=some (some b)->1<=j->b=σ j
 co: ∀j b,sl.co[j]?=some (some b)->(1<=j->b= [1])/\(b= [1]\/b= [0])
 b:sl.has=true->sl.b=σ i
 h0:sl.has=false->sl.told=false/\sl.pr[i]?=some none
 t0:sl.told=false->sl.co[i]?=some none
 t1:sl.told=true->σ i= [1]
 dn: ∀b vs,sl.done=some (b,vs)->b= [1]
def pv(sl:Tok.Sl):Nat:=(if sl.has then 0 else 1)+(if sl.told then 0 else 1)+(if sl.done.isSome then 0 else 1)
def LM(c:Tok.qM)(σ:Nat->List Nat)(s d:Nat):TM->Prop
 | .uf src k seq b=>src=s/\k=0/\seq=1/\s<c.n/\d<c.n/\(s=0/\(b= [1]\/b= [0])\/1<=s/\b=σ s)
 | .com src k seq b=>src=s/\k=0/\seq=1/\s<c.n/\d<c.n/\(s=0/\(b= [1]\/b= [0])\/1<=s/\b= [1])
 | .proof src k seq b vs=>k=0/\seq=1/\d<c.n/\b= [1]
 | .rep _ _=>d=c.n
 |_=>False
def cnt(d:Nat)(o:Tok.Out):Nat:=o.countP fun p=>decide (p.1=d)
structure jE(c:Tok.qM)(σ:Nat->List Nat)(i:Nat)(o:Tok.Out)(P P':Nat):Prop where
 msg: ∀p∈o,p.1≠i/\p.1<c.n+2/\LM c σ i p.1 p.2
 len:o.length+c.n*P'<=c.n*P
 cnt: ∀d,cnt d o+P'<=P
section
variable{c:Tok.qM}{σ:Nat->List Nat}{i:Nat}{sl:Tok.Sl}{nw st:Nat}
theorem jE.nil(P:Nat):jE c σ i [] P P:=⟨fun p h=>by simp at h,bJ,fun d=>by simp[Go.Proofs.YtgnhecmnlddjhaaGreat.cnt]⟩
theorem jE.app{o1 o2:Tok.Out}{P P1 P2:Nat}(h:jE c σ i o1 P P1)(k:jE c σ i o2 P1 P2):jE c σ i (o1++o2) P P2:=
 ⟨fun p H=>(aQ.1 H).elim (h.msg p) (k.msg p),by have:=h.len;have:=k.len;rw[av];omega,fun d=>by have:=h.cnt d;have:=k.cnt d;unfold Go.Proofs.YtgnhecmnlddjhaaGreat.cnt at*;rw[lK];omega⟩
theorem EA(n self d:Nat)(m:TM):cnt d (Tok.sendAll n self m n)<=1/\(Tok.sendAll n self m n).length<=n/\ ∀p∈Tok.sendAll n self m n,p.1≠self/\p.1<n/\p.2=m:=by
 rw[CO];refine⟨?_,?_,fun p f=> ?_⟩
 ·unfold cnt
  rw[List.countP_map,List.countP_filter];have key: ∀k,(List.range k).countP (fun a=>decide (((fun p:Nat×TM=>decide (p.1=d))∘fun i=>(i,m)) a=true/\decide (a≠self)=true))<=(if d<k then 1 else 0):=by
   intro k
   induction k with
   |zero=>simp
   |succ k ih=>
    rw[gV,lK];have H:List.countP (fun a=>decide (((fun p:Nat×TM=>decide (p.1=d))∘fun i=>(i,m)) a=true/\decide (a≠self)=true)) [k]<=if k=d then 1 else 0:=by
     rw[lT,List.countP_nil];simp only[Function.comp];split
     ·rename_i h
      have h:=of_decide_eq_true h;rw[if_pos (mR h.1)];omega
     omega
    split at H<;>split at ih<;>split<;>omega
  have b:=key n;have c:List.countP (fun a=>((fun p:Nat×TM=>decide (p.1=d))∘fun i=>(i,m)) a&&decide (a≠self)) (List.range n)=(List.range n).countP (fun a=>decide (((fun p:Nat×TM=>decide (p.1=d))∘fun i=>(i,m)) a=true/\decide (a≠self)=true)):=by
   congr 1
   funext a
   simp
  rw[c];split at b<;>omega
 ·rw[aT]
  exact aG (fB _ _) bJ
 obtain⟨a,e,rfl⟩:=bM.1 f;obtain⟨H,b⟩:=kI.1 e;exact⟨of_decide_eq_true b,fE.1 H,rfl⟩
theorem jE.all(m:TM)(b: ∀d,d<c.n->LM c σ i d m)(P:Nat):jE c σ i (Tok.sendAll c.n i m c.n) (P+1) P:=
 ⟨fun p e=>by
  obtain⟨h,H,a⟩:=(EA c.n i 0 m).2.2 p e;exact⟨h,aR,by rw[a];exact b _ H⟩,by have:=(EA c.n i 0 m).2.1;rw[lS];omega,fun d=>by have:=(EA c.n i d m).1;omega⟩
theorem ac0(v:LN)(e:1<=c.n)(a:c.cl=0)(b:i<c.n)(h:sl.done=none):Tok.Cj c i 0 [1] (akc c {sl with done:=some ([1],v)} 0 0 nw st)=some (jd c {sl with done:=some ([1],v)} nw st,[(c.n,.rep i 1)])/\jE c σ i [(c.n,TM.rep i 1)] (pv sl) (pv {sl with done:=some ([1],v)}):=by
 refine⟨?_,fun p H=> ?_,?_,fun d=> ?_⟩
 ·rw[show c.n=c.n+c.cl by omega]
  rfl
 ·simp only[au] at H
  subst H;exact⟨by show c.n≠i;omega,by show c.n<_;omega,rfl⟩
 ·simp only[pv,h,List.length_singleton,Option.isSome_none,Option.isSome_some,if_true,dz,if_false]
  rw[lS,lS,lS,lS];omega
 simp only[pv,h,cnt,lT,List.countP_nil,Option.isSome_none,Option.isSome_some,if_true,dz,if_false];split<;>omega
theorem RZ(l:KO c σ)(n:1<=i/\i<c.n)(h:D9 c σ i sl): ∃sl' o,Tok.looked c i 0 1 (jd c sl nw st)=some (jd c sl' nw st,o)/\D9 c σ i sl'/\sl'.has=sl.has/\jE c σ i o (pv sl) (pv sl'):=by
 obtain⟨s,o1,E,a,T,W⟩: ∃s o1,Tok.Wq c i 0 1 (jd c sl nw st)=some (jd c s nw st,o1)/\D9 c σ i s/\s.has=sl.has/\jE c σ i o1 (pv sl) (pv s):=by
  rw[show Tok.Wq c i 0 1 (jd c sl nw st)=(if sl.told||!sl.has then some (jd c sl nw st,[]) else match Tok.enough sl.pr sl.b c.q with
   |none=>some (jd c sl nw st,[])
   |some _=>match Tok.uw sl.co i with
    |some none=>some (jd c {sl with told:=true,co:=Tok.vG sl.co i (some sl.b)} nw st,Tok.sendAll c.n i (.com i 0 1 sl.b) c.n)
    |_=>none) from rfl]
  split
  ·exact⟨sl,[],rfl,h,rfl,jE.nil _⟩
  rename_i k;rw[eZ,not_or] at k;have x:sl.told=false:=by simpa using k.1
  have w:sl.has=true:=by simpa using k.2
  cases r:Tok.enough sl.pr sl.b c.q with
  |none=>exact⟨sl,[],rfl,h,rfl,jE.nil _⟩
  |some vs=>
   obtain⟨y,Q,u⟩:=XC r;have g:=h.b w;have f:σ i= [1]:=(l.two i).resolve_right fun e=>l.few vs Q (fun j H=>by obtain⟨A,a2⟩:=u j H;refine⟨by rw[<-h.gy];exact A,fun t=> ?_⟩;rw[<-h.pr j _ a2 t,g,e]) y
   have p:=h.t0 x;simp only[oV,qD,p];refine⟨_,_,rfl,⟨h.gy,by show(sl.co.set _ _).length=_;rw[bG];exact h.col,h.pr,fun j b H=> ?_,h.b,fun e=>(by rw[w] at e;cases e),fun e=>(by cases e),fun _=>f,h.dn⟩,rfl,?_⟩
   ·replace H:(sl.co.set i (some sl.b))[j]?=some (some b):=H
    by_cases e:i=j
    ·subst e
     rw[aL (by rw[h.col];exact n.2)] at H;injection H with H;injection H with H;rw[<-H,g,f];exact⟨fun _=>rfl,.inl rfl⟩
    rw[aX e] at H;exact h.co j b H
   have e:pv sl=pv {sl with told:=true,co:=sl.co.set i (some sl.b)}+1:=by simp only[pv,x,if_true,dz,if_false];omega
   rw[e];exact jE.all (c:=c) (σ:=σ) (i:=i) (.com i 0 1 sl.b) (fun d m=>⟨rfl,rfl,rfl,n.2,m,.inr ⟨n.1,by rw[g,f]⟩⟩) _
 obtain⟨S,o2,B,D,G,I⟩: ∃S o2,Tok.Vx c i 0 1 (jd c s nw st)=some (jd c S nw st,o2)/\D9 c σ i S/\S.has=s.has/\jE c σ i o2 (pv s) (pv S):=by
  rw[show Tok.Vx c i 0 1 (jd c s nw st)=(match s.done with
   |some _=>some (jd c s nw st,[])
   |none=>match Tok.qG s.co s.co c.q with
    |none=>some (jd c s nw st,[])
    |some (b,v)=>Tok.Cj c i 0 b (akc c {s with done:=some (b,v)} (J4 s) (J4 s) nw st)) from rfl]
  cases m:s.done with
  |some q=>exact⟨s,[],rfl,a,rfl,jE.nil _⟩
  |none=>
   simp only
   cases k:Tok.qG s.co s.co c.q with
   |none=>exact⟨s,[],rfl,a,rfl,jE.nil _⟩
   |some q=>
    obtain⟨b,v⟩:=q;simp only;obtain⟨r,F⟩:=yP s.co k;obtain⟨y,Q,u⟩:=XC r;have g:b= [1]:=by have L:=l.q;have lt:=eO.1 Q 0 1 aR aR aR;exact(a.co _ _ (u v[1] (bY _)).2).1 aR
    subst g;have hx:J4 s=0:=by unfold J4;rw[m];rfl
    rw[hx];obtain⟨C,z⟩:=ac0 (σ:=σ) (i:=i) (nw:=nw) (st:=st) v l.n l.cl n.2 m;exact⟨_,_,C,⟨a.gy,a.col,a.pr,a.co,a.b,a.h0,a.t0,a.t1,fun J V e=>by injection e with e;exact(congrArg Prod.fst e).symm⟩,rfl,z⟩
 refine⟨S,o1++o2,?_,D,G.trans T,W.app I⟩;unfold Tok.looked;rw[E];simp only;rw[B]
theorem take_split(l:KO c σ)(u:1<=i/\i<c.n)(h:D9 c σ i sl)(g:s≠i){m:TM}(f:LM c σ s i m): ∃sl' o,Tok.takeN c i m (jd c sl nw st)=some (jd c sl' nw st,o)/\D9 c σ i sl'/\sl'.has=sl.has/\jE c σ i o (pv sl) (pv sl'):=by
 cases m with
 |uf src k seq b=>
  obtain⟨rfl,rfl,rfl,d,_,a⟩:=f;rw[show Tok.takeN c i (.uf src 0 1 b) (jd c sl nw st)=(match Tok.uw sl.pr src with
   |some none=>Tok.looked c i 0 1 (jd c {sl with pr:=Tok.vG sl.pr src (some b)} nw st)
   |some (some _)=>some (jd c sl nw st,[])
   |none=>none) from rfl]
  simp only[oV,qD];rw[aj (show src<sl.pr.length by rw[h.gy];exact d)]
  cases e:sl.pr[src]'(by rw[h.gy];exact d) with
  |some x=>exact⟨sl,[],rfl,h,rfl,jE.nil _⟩
  |none=>
   simp only;obtain⟨sl',o,E,n,p,r⟩:=RZ (nw:=nw) (st:=st) (sl:={sl with pr:=sl.pr.set src (some b)}) l u ⟨by show(sl.pr.set _ _).length=_;rw[bG];exact h.gy,h.col,fun j B H v=>by
    replace H:(sl.pr.set src (some b))[j]?=some (some B):=H;by_cases e:src=j
    ·subst e
     rw[aL (by rw[h.gy];exact d)] at H;injection H with H;injection H with H;rw[<-H];rcases a with a|a
     ·omega
     exact a.2
    rw[aX e] at H;exact h.pr j B H v,h.co,h.b,fun e=>⟨(h.h0 e).1,by show(sl.pr.set _ _)[i]?=_;rw[aX g];exact(h.h0 e).2⟩,h.t0,h.t1,h.dn⟩
   exact⟨sl',o,E,n,p,r⟩
 |com src k seq b=>
  obtain⟨rfl,rfl,rfl,d,_,a⟩:=f;rw[show Tok.takeN c i (.com src 0 1 b) (jd c sl nw st)=(match Tok.uw sl.co src with
   |some none=>Tok.looked c i 0 1 (jd c {sl with co:=Tok.vG sl.co src (some b)} nw st)
   |some (some _)=>some (jd c sl nw st,[])
   |none=>none) from rfl]
  simp only[oV,qD];rw[aj (show src<sl.co.length by rw[h.col];exact d)]
  cases e:sl.co[src]'(by rw[h.col];exact d) with
  |some x=>exact⟨sl,[],rfl,h,rfl,jE.nil _⟩
  |none=>
   simp only;obtain⟨sl',o,E,n,p,r⟩:=RZ (nw:=nw) (st:=st) (sl:={sl with co:=sl.co.set src (some b)}) l u ⟨h.gy,by show(sl.co.set _ _).length=_;rw[bG];exact h.col,h.pr,fun j B H=>by
    replace H:(sl.co.set src (some b))[j]?=some (some B):=H;by_cases e:src=j
    ·subst e
     rw[aL (by rw[h.col];exact d)] at H;injection H with H;injection H with H;rw[<-H];rcases a with a|a
     ·exact⟨fun h=>by omega,a.2⟩
     exact⟨fun _=>a.2,.inl a.2⟩
    rw[aX e] at H;exact h.co j B H,h.b,h.h0,fun e=>by show(sl.co.set _ _)[i]?=_;rw[aX g];exact h.t0 e,h.t1,h.dn⟩
   exact⟨sl',o,E,n,p,r⟩
 |proof src k seq b vs=>
  obtain⟨rfl,rfl,_,rfl⟩:=f;rw[show Tok.takeN c i (.proof src 0 1 [1] vs) (jd c sl nw st)=(match sl.done with
   |some _=>some (jd c sl nw st,[])
   |none=>Tok.Cj c i 0 [1] (akc c {sl with done:=some ([1],vs)} (J4 sl) (J4 sl) nw st)) from rfl]
  cases w:sl.done with
  |some q=>exact⟨sl,[],rfl,h,rfl,jE.nil _⟩
  |none=>
   simp only;have hx:J4 sl=0:=by unfold J4;rw[w];rfl
   rw[hx];obtain⟨C,y⟩:=ac0 (σ:=σ) (i:=i) (nw:=nw) (st:=st) vs l.n l.cl u.2 w;exact⟨_,_,C,⟨h.gy,h.col,h.pr,h.co,h.b,h.h0,h.t0,h.t1,fun B V e=>by injection e with e;exact(congrArg Prod.fst e).symm⟩,rfl,y⟩
 |rep src t=>exact absurd f (by show ¬i=c.n;omega)
 |_=>exact absurd f id
theorem ak9(r:KO c σ)(a:1<=i/\i<c.n)(h:D9 c σ i sl)(f:sl.has=false): ∃sl' o,Tok.takeN c i (.pp 0 0 1 (σ i)) (jd c sl nw st)=some (jd c sl' nw st,o)/\D9 c σ i sl'/\jE c σ i o (pv sl) (pv sl'):=by
 obtain⟨t,q⟩:=h.h0 f;have l:D9 c σ i {sl with has:=true,b:=σ i,pr:=sl.pr.set i (some (σ i))}:=⟨by show(sl.pr.set _ _).length=_;rw[bG];exact h.gy,h.col,fun j B H g=>by
  replace H:(sl.pr.set i (some (σ i)))[j]?=some (some B):=H;by_cases e:i=j
  ·subst e
   rw[aL (by rw[h.gy];exact a.2)] at H;injection H with H;injection H with H;exact H.symm
  rw[aX e] at H;exact h.pr j B H g,h.co,fun _=>rfl,fun e=>(by cases e),h.t0,h.t1,h.dn⟩
 obtain⟨sl',o,E,m,s,n⟩:=RZ (nw:=nw) (st:=st) r a l;refine⟨sl',Tok.sendAll c.n i (.uf i 0 1 (σ i)) c.n++o,?_,m,?_⟩
 ·have k:Nat.ble 1 (Tok.doneN (sl::Tok.tH 15 (Tok.sl0 c.n))+4)=true:=dS aR
  rw[show Tok.takeN c i (.pp 0 0 1 (σ i)) (jd c sl nw st)=(match(if Nat.ble 1 (Tok.doneN (sl::Tok.tH 15 (Tok.sl0 c.n))+4)&&!sl.has then some (jd c {sl with has:=true,b:=σ i} nw st) else none) with
   |some s1=>Tok.accepted c i 0 1 (σ i) s1
   |none=>none) from rfl,k,f]
  show Tok.accepted c i 0 1 (σ i) (jd c {sl with has:=true,b:=σ i} nw st)=_;rw[show Tok.accepted c i 0 1 (σ i) (jd c {sl with has:=true,b:=σ i} nw st)=(match Tok.uw sl.pr i,true&&Tok.YZ (σ i) (σ i) with
   |some none,true=>match Tok.looked c i 0 1 (jd c {sl with has:=true,b:=σ i,pr:=Tok.vG sl.pr i (some (σ i))} nw st) with
    |some (s2,o)=>some (s2,Tok.sendAll c.n i (.uf i 0 1 (σ i)) c.n++o)
    |none=>none
   |_,_=>none) from rfl,oV,qD,q,(Dc _ _).2 rfl]
  simp only[kZ];rw[E]
 have e:pv sl=pv {sl with has:=true,b:=σ i,pr:=sl.pr.set i (some (σ i))}+1:=by simp only[pv,f,if_true,dz,if_false];omega
 rw[e];exact(jE.all (c:=c) (σ:=σ) (i:=i) (.uf i 0 1 (σ i)) (fun d p=>⟨rfl,rfl,rfl,a.2,p,.inr ⟨a.1,rfl⟩⟩) _).app n
end
end
section
open Tok (TM)
def tot(l:List (List TM)):Nat:=(l.map List.length).sum
theorem aeo: ∀(l:List (List TM)) (k:Nat) (ms ms':List TM),l[k]?=some ms->tot (l.set k ms')+ms.length=tot l+ms'.length
 | [],k,ms,ms',h=>by simp at h
 |a::l,0,ms,ms',h=>by simp only[List.getElem?_cons_zero,aD] at h;subst h;simp only[tot,List.set_cons_zero,bV,List.sum_cons];omega
 |a::l,k+1,ms,ms',h=>by have ih:=aeo l k ms ms' (mR h);simp only[tot,List.set_cons_succ,bV,List.sum_cons] at ih|-;omega
def kr(n:Nat)(sl:Nat->Tok.Sl):Nat:=((List.range n).map fun i=>pv (sl i)).sum
theorem ak7(f g:Nat->Nat)(i:Nat)(h: ∀j,j≠i->g j=f j): ∀n,i<n->((List.range n).map g).sum+f i=((List.range n).map f).sum+g i:=by
 have key: ∀n,n<=i->(List.range n).map g=(List.range n).map f:=fun n a=>dX fun j H=>h j (tL (fE.1 H));intro n
 induction n with
 |zero=>intro h;omega
 |succ n ih=>
  intro a;simp only[gV,bR,lQ,bV,fu,List.sum_cons,List.sum_nil];by_cases e:i=n
  ·subst e
   rw[key i (aF _)];omega
  have:=ih aR;rw[h n (dR e)];omega
theorem ain(n:Nat)(sl:Nat->Tok.Sl){i:Nat}(h:i<n)(s:Tok.Sl):kr n (ru sl i s)+pv (sl i)=kr n sl+pv s:=by have:=ak7 (fun j=>pv (sl j)) (fun j=>pv (ru sl i s j)) i (fun j H=>by simp only[oP _ _ H]) n h;simp only[ou] at this;exact this
theorem acO: ∀(l:List (List TM)) (k:Nat) (m:TM) (ms:List TM),l[k]?=some ms->ms.length<64->Tok.Av l k m=some (l.set k (ms++ [m]))
 | [],k,m,ms,h,_=>by simp at h
 |a::l,0,m,ms,h,hl=>by simp only[List.getElem?_cons_zero,aD] at h;subst h;rw[show Tok.Av (a::l) 0 m=if Nat.ble 64 (Tok.len a) then none else some ((a++ [m])::l) from rfl,if_neg (fun e=>by have:=eD e;rw[pQ] at this;omega)];rfl
 |a::l,k+1,m,ms,h,hl=>by rw[show Tok.Av (a::l) (k+1) m=match Tok.Av l k m with|some r'=>some (a::r')|none=>none from rfl,acO l k m ms (mR h) hl];rfl
theorem afu{l:List (List TM)}{m:TM}{rest:List TM}(h:l[k]?=some (m::rest)):Tok.tq l k=l.set k rest:=by
 rw[Lx];refine dD fun j=> ?_;rw[eY,je];by_cases e:k=j
 ·subst e
  rw[h,if_pos rfl,if_pos (ah.1 h).1];simp
 rw[if_neg e];simp[e]
theorem aaA(h:d<n+2):(s*(n+2)+d)/(n+2)=s/\(s*(n+2)+d)%(n+2)=d:=by
 constructor
 ·rw[gX,mg aR,iJ h,Nat.add_zero]
 rw[gX,mh,dJ h]
theorem acU(n src:Nat)(hs:src<n+2): ∀(o:Tok.Out) (l:List (List TM)),l.length=(n+2)*(n+2)->(∀p∈o,p.1≠src/\p.1<n+2)->(∀d ms,d<n+2->l[src*(n+2)+d]?=some ms->ms.length+cnt d o<=64)->
  ∃l',Tok.wY n src o l=some l'/\l'.length=l.length/\tot l'=tot l+o.length/\(∀k,k/(n+2)≠src->l'[k]?=l[k]?)/\ ∀d ms,d<n+2->l[src*(n+2)+d]?=some ms-> ∃ms',l'[src*(n+2)+d]?=some ms'/\ms'.length=ms.length+cnt d o/\ ∀m∈ms',m∈ms\/(d,m)∈o
 | [],l,hl,_,_=>⟨l,rfl,rfl,rfl,fun _ _=>rfl,fun d ms _ h=>⟨ms,h,by simp[cnt],fun m hm=> .inl hm⟩⟩
 |(d0,m0)::o,l,hl,ho,hc=>by
  have h0:=ho (d0,m0) bJ;simp only at h0;have hk:src*(n+2)+d0<l.length:=by rw[hl];exact ZN hs h0.2
  obtain⟨ms0,e0⟩: ∃ms0,l[src*(n+2)+d0]?=some ms0:=⟨_,aj hk⟩;have c0: ∀d,cnt d ((d0,m0)::o)=cnt d o+if d0=d then 1 else 0:=fun d=>by unfold cnt;rw[lT];simp
  have l0:=hc d0 ms0 h0.2 e0;rw[c0,if_pos rfl] at l0;have hp:=acO l _ m0 ms0 e0 aR;have get: ∀d,(l.set (src*(n+2)+d0) (ms0++ [m0]))[src*(n+2)+d]?=if d0=d then some (ms0++ [m0]) else l[src*(n+2)+d]?:=fun d=>by
   rw[je];by_cases e:d0=d
   ·rw[if_pos (by rw[e]),if_pos hk,if_pos e]
   rw[if_neg aR,if_neg e]
  obtain⟨l',p1,p2,p3,p4,p5⟩:=acU n src hs o (l.set (src*(n+2)+d0) (ms0++ [m0])) (by rw[bG];exact hl) (fun p hp=>ho p (by simp[hp])) (fun d ms hd h=>by
   rw[get] at h;split at h
   ·rename_i e
    subst e;injection h with h;subst h;rw[av];simp only[List.length_singleton];omega
   rename_i e;have:=hc d ms hd h;rw[c0,if_neg e] at this;exact this)
  refine⟨l',?_,by rw[p2,bG],?_,fun k hkn=> ?_,fun d ms hd h=> ?_⟩
  ·rw[Tok.wY,if_neg (fun e=>by
    rw[eZ] at e;rcases e with e|e
    ·exact h0.1 (bO e)
    have:=eD e;omega),hp]
   exact p1
  ·have q:=aeo l _ ms0 (ms0++ [m0]) e0
   have q2:(ms0++ [m0]).length=ms0.length+1:=by simp
   rw[p3,List.length_cons];omega
  ·rw[p4 k hkn,aX (fun e=>by subst e;exact hkn (aaA h0.2).1)]
  by_cases e:d0=d
  ·subst e
   rw[e0] at h;injection h with h;subst h;obtain⟨ms',q1,q2,q3⟩:=p5 d0 _ hd (by rw[get,if_pos rfl]);refine⟨ms',q1,by rw[q2,c0,if_pos rfl,av];simp only[List.length_singleton];omega,fun m hm=> ?_⟩;rcases q3 m hm with h|h
   ·rcases aQ.1 h with h|h
    ·exact .inl h
    rw[au] at h;subst h;exact .inr bJ
   exact .inr (by simp[h])
  obtain⟨ms',q1,q2,q3⟩:=p5 d ms hd (by rw[get,if_neg e];exact h);exact⟨ms',q1,by rw[q2,c0,if_neg e];rfl,fun m hm=>(q3 m hm).imp id fun h=>by simp[h]⟩
def LkI(c:Tok.qM)(σ:Nat->List Nat)(s d:Nat)(sl:Tok.Sl)(ms:List TM):Prop:=
 (∀m∈ms,LM c σ s d m)\/(s=0/\1<=d/\d<c.n/\sl.has=false/\ ∃rest,ms= .pp 0 0 1 (σ d)::rest/\ ∀m∈rest,LM c σ s d m)
structure GR(c:Tok.qM)(σ:Nat->List Nat)(x:Tok.Cl)(sl:Nat->Tok.Sl)(nw st:Nat->Nat):Prop where
 nl:x.nodes.length=c.n
 n0:x.nodes[0]?=some none
 nd: ∀i,1<=i->i<c.n->x.nodes[i]?=some (some (jd c (sl i) (nw i) (st i)))/\D9 c σ i (sl i)
 ck:x.ck.waits=false
 ll:x.links.length=(c.n+2)*(c.n+2)
 lk: ∀(s d:Nat) (ms:List TM),s<c.n+2->d<c.n+2->x.links[s*(c.n+2)+d]?=some ms->LkI c σ s d (sl d) ms/\(s=d->ms= [])/\(1<=s->s<c.n->ms.length+pv (sl s)<=12)
section
variable{c:Tok.qM}{σ:Nat->List Nat}{x:Tok.Cl}{sl:Nat->Tok.Sl}{nw st:Nat->Nat}
theorem LkI.tail{sd:Tok.Sl}{m:TM}{rest:List TM}(h:LkI c σ s d sd (m::rest)): ∀m∈rest,LM c σ s d m:=by
 rcases h with h|⟨_,_,_,_,r,H,b⟩
 ·exact fun a e=>h a (by simp[e])
 injection H with _ H;subst H;exact b
theorem ac5 (R:KO c σ) (h:GR c σ x sl nw st) {i:Nat} (J:1<=i/\i<c.n) {sl':Tok.Sl} {BA st':Nat} {o:Tok.Out} (G:D9 c σ i sl') (I: ∀ms,x.links[0*(c.n+2)+i]?=some ms->LkI c σ 0 i (sl i) ms->LkI c σ 0 i sl' ms) (l: ∀p∈o,p.1≠i/\p.1<c.n+2/\LM c σ i p.1 p.2) (z:o.length<=2000/\x.sent+o.length<=500000)
  (y: ∀d ms,d<c.n+2->x.links[i*(c.n+2)+d]?=some ms->ms.length+cnt d o+pv sl'<=12):
  ∃X,Tok.Ux c x i (jd c sl' BA st') o=some X/\GR c σ X (ru sl i sl') (ru nw i BA) (ru st i st')/\tot X.links=tot x.links+o.length/\X.sent=x.sent+o.length/\X.ck=x.ck/\(∀k,k/(c.n+2)≠i->X.links[k]?=x.links[k]?):=by
 obtain⟨L,p1,p2,p3,P,N⟩:=acU c.n i aR o x.links h.ll (fun p B=>⟨(l p B).1,(l p B).2.1⟩) (fun d ms H b=>by have:=y d ms H b;omega);have f:Tok.room x.sent o=true:=by unfold Tok.room;rw[pQ,bX];exact⟨dS z.1,dS z.2⟩
 refine⟨{x with nodes:=x.nodes.set i (some (jd c sl' BA st')),links:=L,sent:=x.sent+o.length},?_,⟨by show(x.nodes.set _ _).length=_;rw[bG];exact h.nl,by show(x.nodes.set _ _)[0]?=_;rw[aX aR];exact h.n0,fun j n t=> ?_,h.ck,p2.trans h.ll,fun s d ms g H b=> ?_⟩,p3,rfl,rfl,P⟩
 ·unfold Tok.Ux
  rw[f];simp only;rw[p1];simp only[qD,pQ]
 ·show(x.nodes.set i _)[j]?=_/\_
  by_cases e:i=j
  ·subst e
   rw[aL (by rw[h.nl];exact J.2),ou,ou,ou];exact⟨rfl,G⟩
  rw[aX e,oP _ _ (dR e),oP _ _ (dR e),oP _ _ (dR e)];exact h.nd j n t
 replace b:L[s*(c.n+2)+d]?=some ms:=b;by_cases e:s=i
 ·subst e
  obtain⟨ms0,E⟩: ∃ms0,x.links[s*(c.n+2)+d]?=some ms0:=⟨_,aj (by rw[h.ll];exact ZN g H)⟩;obtain⟨M,Q,O,C⟩:=N d ms0 H E;rw[b] at Q;injection Q with Q;subst Q;obtain⟨a,a2,a3⟩:=h.lk s d ms0 g H E;have A: ∀m∈ms0,LM c σ s d m:=by
   rcases a with a|⟨a,_⟩
   ·exact a
   omega
  refine⟨.inl fun m u=> ?_,fun e=> ?_,fun _ _=>by rw[ou,O];exact y d ms0 H E⟩
  ·rcases C m u with q|q
   ·exact A m q
   exact(l _ q).2.2
  have K:=a2 e
  cases ms with
  |nil=>rfl
  |cons m r=>
   rcases C m bJ with q|q
   ·rw[K] at q
    cases q
   exact absurd e.symm (l _ q).1
 rw[P _ (by rw[(aaA H).1];exact e)] at b;obtain⟨a,a2,a3⟩:=h.lk s d ms g H b;refine⟨?_,a2,fun D F=>by rw[oP _ _ e];exact a3 D F⟩;by_cases v:d=i
 ·subst v
  rw[ou];by_cases w:s=0
  ·subst w
   exact I ms b a
  exact .inl (a.resolve_right fun q=>w q.1)
 rw[oP _ _ v];exact a
theorem agk(z:KO c σ)(h:GR c σ x sl nw st)(Y:c.n<=13/\x.sent+c.n*kr c.n sl<=400000){m:TM}(hf:Tok.Co x.links 0=some (k,m)):
  ∃X sl',Tok.deliver c {x with links:=Tok.tq x.links k} (k/(c.n+2)) (k%(c.n+2)) m=some X/\GR c σ X sl' nw st/\tot X.links+c.n*kr c.n sl'<tot x.links+c.n*kr c.n sl/\X.sent+c.n*kr c.n sl'<=x.sent+c.n*kr c.n sl/\X.ck=x.ck:=by
 obtain⟨_,rest,F,_⟩:=LX x.links 0 k m hf;rw[Nat.sub_zero] at F;have u:k<(c.n+2)*(c.n+2):=by rw[<-h.ll];exact(ah.1 F).1
 obtain⟨s,l⟩:=ex (k/(c.n+2));obtain⟨d,j⟩:=ex (k%(c.n+2));have G:s<c.n+2:=by rw[l];exact(eB aR).2 u
 have i:d<c.n+2:=by rw[j];exact ji _ aR
 have B:k=s*(c.n+2)+d:=by rw[l,j,gX];exact(Nat.div_add_mod k (c.n+2)).symm
 rw[<-l,<-j];have p:=F;rw[B] at p;obtain⟨A,a2,a3⟩:=h.lk s d _ G i p;have v:s≠d:=fun e=>by have:=a2 e;cases this
 have H:=afu F;have J:tot (Tok.tq x.links k)+1=tot x.links:=by have:=aeo x.links k (m::rest) rest F;rw[H];simp only[List.length_cons] at this;omega
 have get: ∀S D,D<c.n+2->(x.links.set k rest)[S*(c.n+2)+D]?=if S=s/\D=d then some rest else x.links[S*(c.n+2)+D]?:=fun S D f=>by
  rw[je];by_cases e:S=s/\D=d
  ·rw[if_pos e,if_pos (by rw[B,e.1,e.2]),if_pos (by rw[h.ll];exact u)]
  rw[if_neg e,if_neg (fun q=>e (by rw[B] at q;have n:=(aaA (s:=s) i);have Q:=(aaA (s:=S) f);rw[q] at n;exact⟨Q.1.symm.trans n.1,Q.2.symm.trans n.2⟩))]
 have H1:GR c σ {x with links:=Tok.tq x.links k} sl nw st:={h with
  ll:=by show(Tok.tq x.links k).length=_;rw[H,bG];exact h.ll
  lk:=fun S D ms E f a=>by
   replace a:(Tok.tq x.links k)[S*(c.n+2)+D]?=some ms:=a;rw[H,get S D f] at a;split at a
   ·rename_i e
    injection a with a;subst a;rw[e.1,e.2];exact⟨.inl A.tail,fun W=>absurd W v,fun M O=>by have:=a3 M O;simp only[List.length_cons] at this;omega⟩
   exact h.lk S D ms E f a}
 unfold Tok.deliver;by_cases R:d=c.n+1
 ·exfalso
  rcases A with A|⟨_,_,b,_⟩
  ·have:=A m bJ
   cases m with
   |uf _ _ _ _=>have:=this.2.2.2.2.1;omega
   |com _ _ _ _=>have:=this.2.2.2.2.1;omega
   |proof _ _ _ _ _=>have:=this.2.2.1;omega
   |rep _ _=>have:d=c.n:=this;omega
   |_=>exact this
  omega
 rw[if_neg (fun e=>R (bO e))];by_cases I:d=c.n
 ·rw[if_pos (by rw[I];exact lM _),if_pos (by rw[z.cl];rfl)]
  exact⟨_,sl,rfl,H1,by show tot (Tok.tq x.links k)+_<_;omega,aF _,rfl⟩
 rw[if_neg (fun e=>I (bO e)),oV];by_cases V:d=0
 ·rw[V,show({x with links:=Tok.tq x.links k}:Tok.Cl).nodes[0]?=some none from h.n0]
  exact⟨_,sl,rfl,H1,by show tot (Tok.tq x.links k)+_<_;omega,aF _,rfl⟩
 have g:1<=d/\d<c.n:=⟨aR,aR⟩;obtain⟨n1,N⟩:=h.nd d g.1 g.2;rw[show({x with links:=Tok.tq x.links k}:Tok.Cl).nodes[d]?=_ from n1];simp only;obtain⟨sl',o,T,w,y,t⟩: ∃sl' o,Tok.takeN c d m (jd c (sl d) (nw d) (st d))=some (jd c sl' (nw d) (st d),o)/\D9 c σ d sl'/\(sl'.has=(sl d).has\/s=0/\ ∃b,m= .pp 0 0 1 b)/\jE c σ d o (pv (sl d)) (pv sl'):=by
  rcases A with A|⟨q0,_,_,n,r,Q,_⟩
  ·obtain⟨sl',o,T,w,y,t⟩:=take_split (nw:=nw d) (st:=st d) z g N v (A m bJ)
   exact⟨sl',o,T,w,.inl y,t⟩
  injection Q with Q _;subst Q;obtain⟨sl',o,T,w,t⟩:=ak9 (nw:=nw d) (st:=st d) z g N n;exact⟨sl',o,T,w,.inr ⟨q0,_,rfl⟩,t⟩
 rw[T];simp only;have pu:=ain c.n sl g.2 sl';have ol:=t.len;have P:pv (sl d)<=3:=by unfold pv;split<;>split<;>split<;>omega
 have e2:c.n*kr c.n (ru sl d sl')+o.length<=c.n*kr c.n sl:=by
  have e:c.n*(kr c.n (ru sl d sl')+pv (sl d))=c.n*(kr c.n sl+pv sl'):=by rw[pu]
  rw[lS,lS] at e;omega
 have a0:o.length<=39:=by have:c.n*pv (sl d)<=13*3:=jK Y.1 P;omega
 obtain⟨X,u1,U,K,L,u5,_⟩:=ac5 (BA:=nw d) (st':=st d) z H1 g w (fun ms a C=>by
  replace a:(Tok.tq x.links k)[0*(c.n+2)+d]?=some ms:=a;rcases y with y|⟨rfl,b,rfl⟩
  ·rcases C with C|⟨n,Q,q3,q4,q5⟩
   ·exact .inl C
   exact .inr ⟨n,Q,q3,y.trans q4,q5⟩
  ·rw[H,get 0 d i,if_pos ⟨rfl,rfl⟩] at a
   injection a with a;subst a;exact .inl A.tail) t.msg ⟨aR,by show x.sent+_<=_;omega⟩ (fun e ms Z a=>by have:=(H1.lk d e ms aR Z a).2.2 g.1 g.2;have:=t.cnt e;omega)
 refine⟨X,ru sl d sl',u1,?_,?_,?_,u5⟩
 ·rw[RU,RU] at U
  exact U
 ·replace K:tot X.links=tot (Tok.tq x.links k)+o.length:=K
  omega
 replace L:X.sent=x.sent+o.length:=L;omega
theorem acL(hs:KO c σ)(hn:c.n<=13): ∀(fuel:Nat) (x:Tok.Cl) (sl:Nat->Tok.Sl),GR c σ x sl nw st->x.sent+c.n*kr c.n sl<=400000->tot x.links+c.n*kr c.n sl<fuel->
  ∃x' sl',Tok.drain c fuel x=some x'/\GR c σ x' sl' nw st/\(∀ms∈x'.links,ms= [])/\x'.sent+c.n*kr c.n sl'<=x.sent+c.n*kr c.n sl/\x'.ck=x.ck
 |0,x,sl,h,hb,hf=>by omega
 |fuel+1,x,sl,h,hb,hf=>by
  rw[Tok.drain]
  cases e:Tok.Co x.links 0 with
  |none=>exact⟨x,sl,rfl,h,FC _ _ e,aF _,rfl⟩
  |some q=>
   obtain⟨k,m⟩:=q;obtain⟨x1,sl1,e1,h1,h2,h3,h4⟩:=agk hs h ⟨hn,hb⟩ e;simp only;rw[e1];simp only;obtain⟨x',sl',e2,g1,g2,g3,g4⟩:=acL hs hn fuel x1 sl1 h1 aR aR;exact⟨x',sl',e2,g1,g2,aR,g4.trans h4⟩
end
end
section
open Tok (TM)
theorem aaL(c:Tok.qM)(i:Nat): ∀(fuel k:Nat) (s:Tok.Nd),s.tab= []->k+fuel<=s.insts.length->Tok.tF c i fuel k s=some (s,[])
 |0,k,s,_,_=>rfl
 |fuel+1,k,s,ht,hl=>by
  have h1:Tok.propose c i k s=some (s,[]):=by
   unfold Tok.propose;rw[oV,aj (show k<s.insts.length by omega),ht];simp only;split
   ·rfl
   rfl
  rw[Tok.tF,h1];simp only;rw[aaL c i fuel (k+1) s ht aR];rfl
theorem adj: ∀m,Tok.vN (Tok.tH m (0,0))=(0,0)
 |0=>rfl
 |m+1=>by show(let r:=Tok.vN (Tok.tH m (0,0));(0+r.1,0+r.2))=_;rw[adj m];rfl
theorem agB(m:Nat):Tok.fine (Tok.tH (m+1) (0,0))=true:=by show(let r:=Tok.vN (Tok.tH m (0,0));!Nat.blt (0*2*Tok.len (Tok.tH m (0,0))) (1*r.1)&&(Nat.beq 0 0||Nat.beq r.1 0||!Nat.blt (r.2*0+8*0*r.1) (0*r.1)))=true;rw[adj m];rfl
theorem W9(c:Tok.qM)(i k:Nat): ∀m q,Tok.kQ c i k (Tok.tH m (Tok.sl0 c.n)) q=some []
 |0,q=>rfl
 |m+1,q=>by
  show(match Tok.kQ c i k (Tok.tH m (Tok.sl0 c.n)) (q+1) with
   |none=>none
   |some o=>if false&&true then _ else some o)=_
  rw[W9 c i k m (q+1)];rfl
theorem abh(c:Tok.qM)(i:Nat): ∀m k,Tok.iR c i (Tok.tH m (Tok.tH 16 (Tok.sl0 c.n))) k=some []
 |0,k=>rfl
 |m+1,k=>by
  show(match Tok.iR c i (Tok.tH m (Tok.tH 16 (Tok.sl0 c.n))) (k+1),Tok.kQ c i k (Tok.tH 16 (Tok.sl0 c.n)) 1 with
   |some o',some o=>some (o++o')
   |_,_=>none)=_
  rw[abh c i m (k+1),W9];rfl
theorem acN(c:Tok.qM)(i nw:Nat): ∀m k,Tok.proofs c i nw (Tok.tH m (Tok.tH 16 (Tok.sl0 c.n))) k=some []
 |0,k=>rfl
 |m+1,k=>by
  show(match Tok.proofs c i nw (Tok.tH m (Tok.tH 16 (Tok.sl0 c.n))) (k+1) with
   |none=>none
   |some o=>if Nat.beq (Tok.doneN (Tok.tH 16 (Tok.sl0 c.n))) 0 then some o else _)=_
  rw[acN c i nw m (k+1)];rfl
section
variable{c:Tok.qM}{σ:Nat->List Nat}{i:Nat}{sl:Tok.Sl}{nw st:Nat}
structure gU(c:Tok.qM)(σ:Nat->List Nat)(i:Nat)(o:Tok.Out)(q:Nat):Prop where
 msg: ∀p∈o,p.1≠i/\p.1<c.n+2/\LM c σ i p.1 p.2
 len:o.length<=q*c.n
 cnt: ∀d,cnt d o<=q
theorem gU.nil(q:Nat):gU c σ i [] q:=⟨fun p h=>by simp at h,bF _,fun d=>bF _⟩
theorem gU.app{o1 o2:Tok.Out}{p q:Nat}(h:gU c σ i o1 p)(k:gU c σ i o2 q):gU c σ i (o1++o2) (p+q):=
 ⟨fun x hx=>(aQ.1 hx).elim (h.msg x) (k.msg x),by have:=h.len;have:=k.len;rw[av,iH];omega,fun d=>by have:=h.cnt d;have:=k.cnt d;unfold Go.Proofs.YtgnhecmnlddjhaaGreat.cnt at*;rw[lK];omega⟩
theorem gU.all(m:TM)(b: ∀d,d<c.n->LM c σ i d m):gU c σ i (Tok.sendAll c.n i m c.n) 1:=
 ⟨fun p e=>by obtain⟨h,H,a⟩:=(EA c.n i 0 m).2.2 p e;exact⟨h,aR,by rw[a];exact b _ H⟩,by have:=(EA c.n i 0 m).2.1;omega,fun d=>(EA c.n i d m).1⟩
theorem ae3(n:KO c σ)(f:1<=i/\i<c.n)(h:D9 c σ i sl): ∃o,Tok.Nv c i (jd c sl nw st)=some o/\gU c σ i o 3:=by
 obtain⟨o1,E,w⟩: ∃o1,Tok.iR c i (jd c sl nw st).insts 0=some o1/\gU c σ i o1 2:=by
  show∃o1,(match Tok.iR c i (Tok.tH c.f (Tok.tH 16 (Tok.sl0 c.n))) 1,(match Tok.kQ c i 0 (Tok.tH 15 (Tok.sl0 c.n)) 2 with
   |none=>none
   |some o=>if sl.has&&sl.done.isNone then(if Nat.beq 0 i then none else some (Tok.sendAll c.n i (.uf i 0 1 sl.b) c.n++((if sl.told then Tok.sendAll c.n i (.com i 0 1 sl.b) c.n else [])++o))) else some o) with
   |some O,some o=>some (o++O)
   |_,_=>none)=some o1/\_
  rw[abh,W9];simp only;split
  ·rename_i O o g Q
   injection g with g;subst g;split at Q
   ·rename_i k
    rw[bX] at k;rw[if_neg (fun e=>by have:=bO e;omega)] at Q;injection Q with Q;subst Q;have j:=h.b k.1;refine⟨_,rfl,?_⟩;rw[eG,eG];refine gU.app (p:=1) (q:=1) (gU.all (c:=c) (σ:=σ) (i:=i) (.uf i 0 1 sl.b) fun d a=>⟨rfl,rfl,rfl,f.2,a,.inr ⟨f.1,j⟩⟩) ?_;split
    ·rename_i m
     exact gU.all (c:=c) (σ:=σ) (i:=i) (.com i 0 1 sl.b) fun d a=>⟨rfl,rfl,rfl,f.2,a,.inr ⟨f.1,by rw[j,h.t1 m]⟩⟩
    exact gU.nil _
   injection Q with Q;subst Q;exact⟨_,rfl,gU.nil _⟩
  rename_i H;exfalso;split at H
  ·split at H
   ·rename_i e
    have:=bO e;omega
   exact H _ _ rfl rfl
  exact H _ _ rfl rfl
 obtain⟨o2,l,W⟩: ∃o2,Tok.proofs c i nw (jd c sl nw st).insts 0=some o2/\gU c σ i o2 1:=by
  have a:Tok.doneN (sl::Tok.tH 15 (Tok.sl0 c.n))=match sl.done with
   |some _=>1
   |none=>0:=by cases e:sl.done<;>simp[Tok.doneN,e,Tok.tH,Tok.sl0]
  show∃o2,(match Tok.proofs c i nw (Tok.tH c.f (Tok.tH 16 (Tok.sl0 c.n))) 1 with
   |none=>none
   |some o=>if Nat.beq (Tok.doneN (sl::Tok.tH 15 (Tok.sl0 c.n))) 0 then some o else
    match Tok.uw (sl::Tok.tH 15 (Tok.sl0 c.n)) (1+nw/2%Tok.doneN (sl::Tok.tH 15 (Tok.sl0 c.n)) -1) with
    |some sl1=>match sl1.done with
     |some (b,v)=>some (Tok.sendAll c.n i (.proof i 0 (1+nw/2%Tok.doneN (sl::Tok.tH 15 (Tok.sl0 c.n))) b v) c.n++o)
     |none=>none
    |none=>none)=some o2/\_
  rw[acN,a]
  cases e:sl.done with
  |none=>exact⟨_,rfl,gU.nil _⟩
  |some q=>
   obtain⟨b,v⟩:=q;simp only[Nat.mod_one,Nat.add_zero,fJ];rw[if_neg aV];show∃o2,(match sl.done with
    |some (b,v)=>some (Tok.sendAll c.n i (.proof i 0 1 b v) c.n++ [])
    |none=>none)=some o2/\_
   rw[e];refine⟨_,rfl,?_⟩;rw[eG];exact gU.all (c:=c) (σ:=σ) (i:=i) (.proof i 0 1 b v) fun d a=>⟨rfl,rfl,a,h.dn b v e⟩
 refine⟨o1++o2,?_,w.app W⟩;unfold Tok.Nv;rw[show(jd c sl nw st).tab.isEmpty=true from rfl,if_pos rfl,E,show(jd c sl nw st).now=nw from rfl,l]
theorem afJ(b:KO c σ)(H:1<=i/\i<c.n)(h:D9 c σ i sl)(d:nw<900): ∃st' o,Tok.WJ c i (jd c sl nw st)=some (jd c sl (nw+1) st',o)/\gU c σ i o 3:=by
 obtain⟨o,e,w⟩: ∃o,(if Nat.beq ((nw+1)%2) 0 then Tok.Nv c i (jd c sl (nw+1) st) else some [])=some o/\gU c σ i o 3:=by
  split
  ·exact ae3 b H h
  exact⟨[],rfl,gU.nil _⟩
 unfold Tok.WJ;rw[if_neg (fun q=>by have:=eD q;change 900<=nw at this;omega)];have a:Tok.tF c i (c.f+1) 0 {jd c sl nw st with now:=(jd c sl nw st).now+1}=some (jd c sl (nw+1) st,[]):=by
  rw[aaL c i (c.f+1) 0 _ rfl (by show 0+(c.f+1)<=((sl::Tok.tH 15 (Tok.sl0 c.n))::Tok.tH c.f (Tok.tH 16 (Tok.sl0 c.n))).length;rw[qH c.f];simp)]
  rfl
 rw[a];simp only;rw[show(jd c sl (nw+1) st).now=nw+1 from rfl,e];simp only[List.nil_append];rw[if_neg (show ¬(!Tok.abq (nw+1) (jd c sl (nw+1) st).tab)=true by show ¬(!true)=true;decide)];split
 ·rw[show Tok.fine (jd c sl (nw+1) st).wT=true from agB c.f,if_pos rfl]
  exact⟨nw+1,o,rfl,w⟩
 exact⟨st,o,rfl,w⟩
end
section
variable{c:Tok.qM}{σ:Nat->List Nat}{x:Tok.Cl}{sl:Nat->Tok.Sl}{nw st:Nat->Nat}
theorem rz(hs:KO c σ)(hn:c.n<=13)(R:Nat)(hR:R<900): ∀(fuel i:Nat) (x:Tok.Cl) (nw st:Nat->Nat),GR c σ x sl nw st->i+fuel=c.n->(∀j,i<=j->nw j<=R)->(∀j,nw j<=R+1)->(∀(s d:Nat) (ms:List TM),i<=s->d<c.n+2->x.links[s*(c.n+2)+d]?=some ms->ms= [])->x.sent+39*fuel<=490000->x.ck.now<=R->
  ∃x' BA st',Tok.BG c fuel i x=some x'/\GR c σ x' sl BA st'/\(∀j,BA j<=R+1)/\tot x'.links<=tot x.links+39*fuel/\x'.sent<=x.sent+39*fuel/\x'.ck.now<=R+1
 |0,i,x,nw,st,h,hi,h1,h2,h3,h4,h5=>by rw[Tok.BG];unfold Tok.acn;rw[h.ck,kN,jV,if_neg (fun e=>by have:=eD e;omega)];exact⟨_,nw,st,rfl,{h with ck:=rfl},h2,aF _,aF _,by show x.ck.now+1<=_;omega⟩
 |fuel+1,i,x,nw,st,h,hi,h1,h2,h3,h4,h5=>by
  rw[Tok.BG,oV];by_cases h0:i=0
  ·subst h0
   rw[h.n0];simp only;obtain⟨x',BA,st',e,a1,a2,a3,a4,a5⟩:=rz hs hn R hR fuel 1 x nw st h aR (fun j hj=>h1 j aR) h2 (fun s d ms hs'=>h3 s d ms aR) aR h5;exact⟨x',BA,st',e,a1,a2,aR,aR,a5⟩
  obtain⟨n1,n2⟩:=h.nd i aR aR;rw[n1];simp only;obtain⟨st1,o,e1,w⟩:=afJ (st:=st i) hs ⟨aR,aR⟩ n2 (show nw i<900 by have:=h1 i (aF _);omega);rw[e1];simp only;have ol:o.length<=39:=by have:=w.len;omega
  have p3: ∀s:Tok.Sl,pv s<=3:=fun s=>by unfold pv;split<;>split<;>split<;>omega
  obtain⟨x1,u1,u2,u3,u4,u5,u6⟩:=ac5 (BA:=nw i+1) (st':=st1) hs h ⟨aR,aR⟩ n2 (fun ms _ hl=>hl) w.msg ⟨aR,aR⟩ (fun d ms hd hm=>by have hz:=h3 i d ms (aF _) hd hm;have:=w.cnt d;have:=p3 (sl i);rw[hz];simp only[List.length_nil];omega)
  rw[u1];simp only;rw[RU] at u2;obtain⟨x',BA,st',e,a1,a2,a3,a4,a5⟩:=rz hs hn R hR fuel (i+1) x1 _ _ u2 aR (fun j hj=>by
   rw[oP _ _ aR];exact h1 j aR) (fun j=>by
   by_cases e:j=i
   ·subst e
    rw[ou];have:=h1 j (aF _);omega
   ·rw[oP _ _ e]
    exact h2 j) (fun s d ms hs' hd hm=>by rw[u6 _ (by rw[(aaA hd).1];omega)] at hm;exact h3 s d ms aR hd hm) aR (by rw[u5];exact h5)
  exact⟨x',BA,st',e,a1,a2,aR,aR,a5⟩
theorem afe(g:KO c σ)(b:c.n<=13){R:Nat}(D:R<100)(h:GR c σ x sl nw st)(f: ∀j,nw j<=R)(u:x.ck.now<=R)(z:tot x.links<=600)(C:x.sent+c.n*kr c.n sl<=2000+600*R):
  ∃X sl' BA st',Tok.round c x=some X/\GR c σ X sl' BA st'/\(∀j,BA j<=R+1)/\X.ck.now<=R+1/\tot X.links<=600/\X.sent+c.n*kr c.n sl'<=2000+600*(R+1):=by
 have p3: ∀s:Tok.Sl,pv s<=3:=fun s=>by unfold pv;split<;>split<;>split<;>omega
 have F:kr c.n sl<=3*c.n:=by
  unfold kr;have key: ∀m,((List.range m).map fun i=>pv (sl i)).sum<=3*m:=fun m=>by
   induction m with
   |zero=>simp
   |succ m ih=>
    simp only[gV,bR,lQ,bV,fu,List.sum_cons,List.sum_nil];have:=p3 (sl m);omega
  exact key c.n
 have P:c.n*kr c.n sl<=13*39:=jK b aR;obtain⟨k,S,E,A,a2,a3,o⟩:=acL g b 1900 x sl h aR aR;have t:tot k.links=0:=by
  unfold tot;have key: ∀l:List (List TM),(∀ms∈l,ms= [])->(l.map List.length).sum=0:=fun l=>by
   induction l with
   |nil=>simp
   |cons a l ih=>
    intro h;rw[bV,List.sum_cons,ih fun ms H=>h ms (by simp[H]),h a bJ];rfl
  exact key _ a2
 obtain⟨v,n,e,r,B,p,w,y,q⟩:=rz g b R aR c.n 0 k nw st A aR (fun j _=>f j) (fun j=>lY (f j)) (fun s d ms _ _ H=>a2 ms (ak H)) aR (by rw[o];exact u);refine⟨v,S,n,e,?_,B,p,q,aR,aR⟩;unfold Tok.round;rw[E];exact r
end
end
section
open Tok (TM)
theorem aae:vD (Tok.cfg 1):=⟨aV,aV,aV,aV⟩
section
variable{c:Tok.qM}{G H:mF}{N:Nat}{x x':Tok.Cl}{X X':CV}
theorem Ol(hG:sS c G): ∀k,k<=G.nD.length->(mX G k).1=(G.nD.zip G.res).take k
 |0,_=>rfl
 |k+1,hk=>by have hl:=hG.len;have h1:k<G.nD.length:=aR;have h2:k<G.res.length:=aR;rw[Dv hG (t:=k+1) aR hk,fF];show(mX G k).1++_=_;rw[Ol hG k aR,fM,aj (show k<(G.nD.zip G.res).length by rw[gW];omega),List.getElem_zip];rw[mF.WT G aR,bE,bE,fF,aj h1,aj h2];rfl
theorem ZR(m:Nat): ∀x∈agI m,x.oneCell'=true:=by intro x hx;obtain⟨l,H,h⟩:=List.mem_flatten.1 hx;rw[dO H] at h;simp only[ay,aI,or_false] at h;rcases h with rfl|rfl|rfl|rfl|rfl|rfl|rfl|rfl|rfl|rfl|rfl<;>rfl
theorem tO.fit(d:vD c)(b:sS c G){s:Tok.Nd}{v:ql}(h:tO c G N s v)(i:v.out= []):Vf v:=by
 have j:=d.f4;have g:=d.f1;have f:=b.few;have V:=h.vl;refine⟨aR,by rw[h.QZ,V],by rw[h.Qg,V],fun l a=> ?_,fun l a=> ?_,?_,h.V13,?_,?_,by rw[i];exact bF _,h.xU,⟨c.f+1,by rw[h.vZ];simp[agI],aR⟩,h.Yj,fun x hx=> ?_⟩
 ·obtain⟨k,H,rfl⟩:=kX.1 a
  obtain⟨L,e,E⟩:=h.nN k (tL h.QZ);rw[aj H] at e;injection e with e;rw[e,E]
  decide
 ·obtain⟨k,H,rfl⟩:=kX.1 a
  obtain⟨L,e,E,_⟩:=h.nG k _ (aj (show k<s.insts.length by have:=h.Qg;have:=h.il;omega));rw[aj H] at e;injection e with e;rw[e,E]
  decide
 ·rw[<-h.tab.len]
  have:=h.Fh;omega
 ·rw[h.es,Ol b s.led h.ES,cO,gW]
  omega
 ·rw[h.ga,aT,h.gal]
  omega
 rw[h.vZ] at hx;exact ZR _ x hx
theorem YL(h:Tok.wakes=true)(l:Hw 1 4 [3] X): ∃b d x,Zp 4 1 2 7 X b/\zP 1 4 b d/\zP 1 4 d x/\x.ck.il.length<=4096/\x.ck.al.length<=4096/\x.ck.el.length=1:=by
 have k:Km (Tok.cfg 1) ⟨(1:Nat),[],[],[],1,none⟩ 0 (Tok.cl0 (Tok.cfg 1) fun i=>Nat.beq i 3) X:=QD (c:=Tok.cfg 1) rfl aae rfl l aV _ fun i f=>by
  constructor
  ·intro e
   rw[bO e];simp
  intro e;simp only[au] at e;rw[show i=3 by omega];rfl
 unfold Tok.wakes at h;rw[Tok.play.eq_def] at h;simp only at h
 cases f:Tok.issue (Tok.cfg 1) (Tok.cl0 (Tok.cfg 1) fun i=>Nat.beq i 3) with
 |none=>rw[f] at h;cases h
 |some x1=>
  rw[f] at h;simp only at h
  cases g:Tok.round (Tok.cfg 1) x1 with
  |none=>rw[g] at h;cases h
  |some x2=>
   rw[g] at h;simp only at h
   cases j:Tok.round (Tok.cfg 1) x2 with
   |none=>rw[j] at h;cases h
   |some x3=>
    rw[j] at h;simp only at h;split at h
    rotate_left
    ·cases h
    rename_i y a;split at a
    rotate_left
    ·cases a
    rw[Tok.play.eq_def] at a;simp only[aD] at a;subst a;have H:=bO h;obtain⟨b,I,m⟩:=Mk rfl rfl aae k aV (kd:=1) (ky:=2) (vl:=7) aV f;obtain⟨K,d,r,o,R⟩:=yF aae m aR g;obtain⟨n,x,S,p,s⟩:=yF aae R aR j;refine⟨b,d,x,I,r,S,?_,?_,?_⟩
    ·rw[s.ck.il]
     show 1<=4096;omega
    ·have:=s.ck.alB
     omega
    rw[s.ck.el,H];rfl
end
end
section
open Tok (TM)
def jI(τ:Bool->Nat)(β:Bool):List TM:= [sj 3 (τ β),sj 4 (τ false),sj 5 (τ false),sj 5 (τ true),sj 4 (τ true)]
def jG(τ:Bool->Nat)(bits:Nat->Bool)(i j:Nat):Nat->List TM:=fun k=>if 1<=k/\k<i then jI τ (bits k) else if k=i then(jI τ (bits k)).take j else []
section
variable{τ:Bool->Nat}{bits:Nat->Bool}{i j n:Nat}
theorem agy:jG τ bits 1 0=fun _=> []:=by
 funext k
 unfold jG;rw[if_neg aR];split<;>rfl
theorem agA{m:TM}(h:(jI τ (bits i))[j]?=some m):ru (jG τ bits i j) i (jG τ bits i j i++ [m])=jG τ bits i (j+1):=by
 funext k
 by_cases e:k=i
 ·subst e
  rw[ou];unfold jG;rw[if_neg aR,if_pos rfl,if_neg aR,if_pos rfl,fM,h];rfl
 rw[oP _ _ e];unfold jG;rw[if_neg e,if_neg e]
theorem agw(H:1<=i):jG τ bits i 5=jG τ bits (i+1) 0:=by
 funext k
 unfold jG;by_cases e:k=i
 ·subst e
  rw[if_neg aR,if_pos rfl,if_pos ⟨H,aR⟩];rfl
 by_cases h:1<=k/\k<i
 ·rw[if_pos h,if_pos ⟨h.1,aR⟩]
 rw[if_neg h,if_neg e,if_neg aR];split<;>rfl
theorem ae6(k:Nat):(jG τ bits i j k).length<=5:=by
 unfold jG;split
 ·exact aF _
 split
 ·rw[cO]
  exact Nat.min_le_right _ _
 exact bF _
theorem ama(H:n<=100)(c:1<=i/\i<n):XT (pE n) 0 i=some i:=by have h:=Om (n:=n) H (a:=0) (b:=i) aR aR aR;rw[show zI n 0=0 by simp[zI];omega,show zI n i=(i:Int) by simp[zI];omega,fI,aO] at h;exact h
theorem acV(p:Nat->Bool): ∀(n:Nat) (vs:LN),vs.Pairwise (· < ·)->(∀j∈vs,j<n/\p j=true)->vs.length<=(List.range n).countP p
 |0,vs,_,h=>by
  cases vs with
  |nil=>exact bF _
  |cons a r=>have:=(h a bJ).1;omega
 |n+1,vs,hp,h=>by
  rw[gV,lK,lN];have h1:=acV p n (vs.filter fun j=>decide (j<n)) (hp.filter _) fun j hj=>by obtain⟨h1,h2⟩:=kI.1 hj;exact⟨of_decide_eq_true h2,(h j h1).2⟩
  have h2:vs.length=(vs.filter fun j=>decide (j<n)).length+(vs.filter fun j=>!decide (j<n)).length:=by
   clear h h1 hp
   induction vs with
   |nil=>rfl
   |cons a l ih=>by_cases e:a<n<;>simp[kg,e]<;>omega
  have h3: ∀j∈vs.filter (fun j=>!decide (j<n)),j=n/\p n=true:=fun j hj=>by obtain⟨h1,h2⟩:=kI.1 hj;have h4:=h j h1;simp only[Bool.not_eq_true',decide_eq_false_iff_not] at h2;have e:j=n:=aR;exact⟨e,by rw[<-e];exact h4.2⟩
  have h4:(vs.filter fun j=>!decide (j<n)).Pairwise (· < ·):=hp.filter _
  cases e:vs.filter (fun j=>!decide (j<n)) with
  |nil=>rw[e] at h2;simp only[List.length_nil] at h2;omega
  |cons a r=>
   rw[e] at h2 h3 h4;have ha:=h3 a bJ
   cases r with
   |nil=>rw[if_pos ha.2];simp only[List.length_singleton] at h2;omega
   |cons b r=>
    have hb:=h3 b bJ;have:=(eu.1 h4).1 b bJ;omega
theorem acZ(w:Bool): ∀n,(List.range (n+1)).countP (fun j=>decide (1<=j)&&(bits j==w))+(List.range (n+1)).countP (fun j=>decide (1<=j)&&(bits j==!w))=n
 |0=>by simp[gV]
 |n+1=>by
  have ih:=acZ w n;rw[gV,lK,lK,lN,lN];have:decide (1<=n+1)=true:=by simp
  rw[this];cases bits (n+1)<;>cases w<;>simp at* <;>omega
end
def kT(f:Nat)(bits:Nat->Bool):Bool:=decide (2*f<=(List.range (3*f+1)).countP fun j=>decide (1<=j)&&(bits j==true))
def gQ(val:Bool->Int)(win:Bool)(β:Bool):Nat:=if val false=val true then 1 else if β=win then 1 else 0
def iN(val:Bool->Int)(win:Bool)(t:Nat):Int:=if t=1 then val win else val (!win)
def jo(val:Bool->Int):Bool:=decide (val false≠val true)
def lu(τ:Bool->Nat)(bits:Nat->Bool)(i:Nat):List Nat:= [τ (bits i)]
def kF(f:Nat):Tok.qM:=⟨f,3*f+1,2*f+1,0⟩
section
variable{val:Bool->Int}{win:Bool}{bits:Nat->Bool}{f:Nat}
theorem ah9(β:Bool):iN val win (gQ val win β)=val β:=by unfold iN gQ;cases β<;>cases win<;>simp<;>(try split)<;>simp_all
theorem afy(β:Bool):gQ val win β=1\/(gQ val win β=0/\jo val=true):=by
 unfold gQ jo;split
 ·exact .inl rfl
 rename_i h;split
 ·exact .inl rfl
 exact .inr ⟨rfl,by simpa using h⟩
theorem amb(p:1<=f):KO (kF f) (lu (gQ val (kT f bits)) bits):=by
 refine⟨fun i=> ?_,fun v l m d=> ?_,by show 2<=2*f+1;omega,by show 1<=3*f+1;omega,rfl⟩
 ·rcases afy (val:=val) (win:=kT f bits) (bits i) with h|h
  ·exact .inl (by unfold lu;rw[h])
  exact .inr (by unfold lu;rw[h.1])
 have d:v.length=2*f+1:=d;have B:=acZ (bits:=bits) true (3*f);have a:=acV (fun j=>decide (j=0)||(decide (1<=j)&&(bits j==!kT f bits))) (3*f+1) v l fun j k=>by
  obtain⟨A,a2⟩:=m j k;refine⟨A,?_⟩;by_cases e:j=0
  ·simp[e]
  have c:lu (gQ val (kT f bits)) bits j= [0]:=a2 aR;have b:gQ val (kT f bits) (bits j)=0:=by unfold lu at c;injection c
  unfold gQ at b;split at b
  ·omega
  split at b
  ·omega
  rename_i q;have:bits j=!kT f bits:=by cases E:bits j<;>cases o:kT f bits<;>simp_all
  simp[this,Nat.one_le_iff_ne_zero.2 e]
 have H:(List.range (3*f+1)).countP (fun j=>decide (j=0)||(decide (1<=j)&&(bits j==!kT f bits)))<=1+(List.range (3*f+1)).countP (fun j=>decide (1<=j)&&(bits j==!kT f bits)):=by
  have key: ∀n,(List.range (n+1)).countP (fun j=>decide (j=0)||(decide (1<=j)&&(bits j==!kT f bits)))<=1+(List.range (n+1)).countP (fun j=>decide (1<=j)&&(bits j==!kT f bits)):=by
   intro n
   induction n with
   |zero=>simp[gV]
   |succ n ih=>
    rw[gV,lK,lK,lN,lN];have e:decide (n+1=0)=false:=by simp
    rw[e,jV];omega
  exact key _
 unfold kT at H a;by_cases g:2*f<=(List.range (3*f+1)).countP fun j=>decide (1<=j)&&(bits j==true)
 ·rw[decide_eq_true g] at H a
  simp only[lq] at H a B;omega
 rw[decide_eq_false g] at H a;simp only[mo] at H a;omega
end
end
section
open Tok (TM)
def aha(f:Nat)(τ:Bool->Nat)(bits:Nat->Bool):Tok.Cl:={Tok.cl0 (kF f) (fun i=>Nat.beq i 0) with links:=(List.range ((3*f+1+2)*(3*f+1+2))).map (jG τ bits (3*f+1) 0),sent:=200}
section
variable{f:Nat}{τ:Bool->Nat}{bits:Nat->Bool}
theorem acz(i:Nat):(aha f τ bits).nodes[i]?=if i<3*f+1 then some (if i=0 then none else some (Tok.nd0 (kF f))) else none:=by
 show((List.range (3*f+1)).map fun i=>if Nat.beq i 0 then none else some (Tok.nd0 (kF f)))[i]?=_;rw[aS];by_cases h:i<3*f+1
 ·rw[lU h,if_pos h,Option.map_some]
  by_cases e:i=0
  ·subst e;rfl
  rw[if_neg e,if_neg (fun q=>e (bO q))]
 rw[if_neg h,fT (mR h)];rfl
theorem acW{ms:List TM}(h:(aha f τ bits).links[k]?=some ms):ms=jG τ bits (3*f+1) 0 k:=by
 replace h:((List.range ((3*f+1+2)*(3*f+1+2))).map (jG τ bits (3*f+1) 0))[k]?=some ms:=h;rw[aS] at h;by_cases H:k<(3*f+1+2)*(3*f+1+2)
 ·rw[lU H] at h
  exact(dh h).symm
 rw[fT (mR H)] at h;cases h
theorem afD:jG τ bits (3*f+1) 0 k=if 1<=k/\k<3*f+1 then jI τ (bits k) else []:=by
 unfold jG;split
 ·rfl
 split<;>rfl
theorem apx(p:1<=f)(o: ∀β,τ β=1\/τ β=0):GR (kF f) (lu τ bits) (aha f τ bits) (fun _=>Tok.sl0 (3*f+1)) (fun _=>0) (fun _=>0):=by
 have tk: ∀β,[τ β]= [1]\/ [τ β]= [0]:=fun β=>by rcases o β with h|h<;>simp[h]
 refine⟨by show((List.range _).map _).length=_;simp[kF],by rw[acz,if_pos aR,if_pos rfl],fun i a b=> ?_,rfl,by show((List.range _).map _).length=_;simp[kF],fun s d ms l c H=> ?_⟩
 ·have b:i<3*f+1:=b
  refine⟨by rw[acz,if_pos b,if_neg aR];rfl,?_⟩;have k: ∀j b,(Tok.tH (3*f+1) (none:Option LN))[j]?=some (some b)->False:=fun j b h=>by rw[qH,dI] at h;split at h<;>cases h
  have g:(Tok.tH (3*f+1) (none:Option LN))[i]?=some none:=by rw[qH,dI,if_pos b]
  refine⟨by show(Tok.tH _ _).length=_;rw[qH];simp[kF],by show(Tok.tH _ _).length=_;rw[qH];simp[kF],fun j b h=>(k j b h).elim,fun j b h=>(k j b h).elim,fun e=>(by cases e),fun _=>⟨rfl,g⟩,fun _=>g,fun e=>(by cases e),fun b v e=>(by cases e)⟩
 rw[acW H];have c:d<3*f+1+2:=c;have l:s<3*f+1+2:=l;rw[afD];show LkI _ _ s d _ (if 1<=s*(3*f+1+2)+d/\s*(3*f+1+2)+d<3*f+1 then jI τ (bits (s*(3*f+1+2)+d)) else [])/\(s=d->(if 1<=s*(3*f+1+2)+d/\s*(3*f+1+2)+d<3*f+1 then jI τ (bits (s*(3*f+1+2)+d)) else [])= [])/\(1<=s->s<3*f+1->(if 1<=s*(3*f+1+2)+d/\s*(3*f+1+2)+d<3*f+1 then jI τ (bits (s*(3*f+1+2)+d)) else []).length+3<=12);by_cases e:s=0
 ·subst e
  rw[fI,aO];by_cases h:1<=d/\d<3*f+1
  ·rw[if_pos h]
   refine⟨.inr ⟨rfl,h.1,h.2,rfl,_,rfl,fun m H=> ?_⟩,fun e=>by omega,fun e=>by omega⟩;simp only[ay,aI,or_false] at H;rcases H with rfl|rfl|rfl|rfl
   ·exact⟨rfl,rfl,rfl,by show 0<3*f+1;omega,h.2,.inl ⟨rfl,tk _⟩⟩
   ·exact⟨rfl,rfl,rfl,by show 0<3*f+1;omega,h.2,.inl ⟨rfl,tk _⟩⟩
   ·exact⟨rfl,rfl,rfl,by show 0<3*f+1;omega,h.2,.inl ⟨rfl,tk _⟩⟩
   exact⟨rfl,rfl,rfl,by show 0<3*f+1;omega,h.2,.inl ⟨rfl,tk _⟩⟩
  rw[if_neg h];exact⟨.inl fun m H=>(by cases H),fun _=>rfl,fun _ _=>by show 0+3<=12;omega⟩
 have n:3*f+1+2<=s*(3*f+1+2):=l9 _ aR;rw[if_neg aR];exact⟨.inl fun m H=>(by cases H),fun _=>rfl,fun _ _=>by show 0+3<=12;omega⟩
theorem akQ(H:f<=4):tot (aha f τ bits).links<=600:=by
 have key: ∀m,((List.range m).map fun k=>(jG τ bits (3*f+1) 0 k).length).sum<=5*(3*f+1):=fun m=>by
  have K: ∀m,((List.range m).map fun k=>(jG τ bits (3*f+1) 0 k).length).sum<=5*min m (3*f+1):=fun m=>by
   induction m with
   |zero=>simp
   |succ m ih=>
    simp only[gV,bR,lQ,bV,fu,List.sum_cons,List.sum_nil];have a:=ae6 (τ:=τ) (bits:=bits) (i:=3*f+1) (j:=0) m;by_cases e:m<3*f+1
    ·omega
    have h:(jG τ bits (3*f+1) 0 m).length=0:=by rw[afD,if_neg aR];rfl
    omega
  have:=K m;omega
 show(((List.range _).map _).map List.length).sum<=_;rw[gu];have:=key ((3*f+1+2)*(3*f+1+2));simp only[Function.comp_def] at this|-;omega
end
section
variable{f:Nat}{τ:Bool->Nat}{bits:Nat->Bool}{V:Nat->Int}{two:Bool}{X0 X:CV}{most:Nat}{T:Nat->List TM}
theorem akM(v:Int):uK ([],st0,ct0) (dW v 0)=0:=by unfold uK Pw dW;split<;>rfl
theorem afl(a:K.length<=1000)(h:0<=v/\v<=100)(H:iY v∈K):sU K 2 (dW v (num K (iY v))):=by have n:=yC K (iY v);have o:=afU (z:=num K (iY v)) h ⟨n.1,aR⟩;have r:=afU (v:=v) (z:=0) h ⟨aR,aR⟩;refine⟨o.2,o.1,⟨⟨by show _<=(100+0:Int);decide,by show(100+0:Int)<=_;decide⟩,fun x hx=>DX r.1 x hx,?_⟩,H,rfl,⟨by show _<=(100+0:Int);decide,by show(100+0:Int)<=_;decide⟩⟩;have:=IL (dW v 0);show(oK (dW v 0)).length<=maxLen;unfold maxLen;omega
theorem apw(h:FgI V two X0 X T most)(c:most<=1000)(i: ∀b,0<=V b/\V b<=100)(l:iY (V 1)∈X.K)(g:two=true->iY (V 0)∈X.K/\V 0≠V 1):sS (kF f) (yc f V two X.K):=by
 have m:=h.K;have s:sU X.K 2 _:=afl aR (i 1) l;refine⟨rfl,rfl,by show 0<2;omega,rfl,by show 1<=100;omega,fun t a b=> ?_,fun r H=> ?_,fun t a b=> ?_,fun t a b=> ?_,fun k j=> ?_,fun z d=> ?_⟩
 ·have b:t<=1:=b
  obtain rfl:t=1:=aR;exact⟨rfl,rfl,s⟩
 ·have H:(if two then some (dW (V 0) (num X.K (iY (V 0)))) else none)=some r:=H
  split at H
  ·rename_i e
   injection H with H;subst H;refine⟨afl (K:=X.K) aR (i 0) (g e).1,fun c=> ?_⟩;have c:dW (V 0) _∈ [dW (V 1) _]:=c;rw[au] at c;have E:(dW (V 0) (num X.K (iY (V 0)))).2.2.2.2.1=(dW (V 1) (num X.K (iY (V 1)))).2.2.2.2.1:=by rw[c]
   exact(g e).2 E
  cases H
 ·have b:t<=1:=b
  obtain rfl:t=1:=aR;rfl
 ·have b:t<=1:=b
  obtain rfl:t=1:=aR;rfl
 ·have j:k<=1:=j
  rcases iZ k 1 with h|h
  ·obtain rfl:k=0:=aR
   rfl
  obtain rfl:k=1:=aR;rfl
 have d:z∈ [uK ([],st0,ct0) (dW (V 1) 0)]:=d;rw[au,akM] at d;subst d;exact⟨aV,aV⟩
theorem akh{b:Nat}(h:ahX two 3 b)(K:KS):Gl (yc f V two K) [b]:=by
 refine⟨fun t H=> ?_,bJ,lZ _ _,fun _=>by simp⟩;rw[au] at H;subst H;rcases h.b with rfl|⟨rfl,rfl⟩
 ·exact⟨.inl (aF _),aF 1⟩
 exact⟨.inr rfl,bF _⟩
theorem akx(q:1<=f)(r:f<=4)(j:Hw f (3*f+1) [0,100] X0)(h:FgI V two X0 X (jG τ bits (3*f+1) 0) 130)(t: ∀b,0<=V b/\V b<=100)(o:iY (V 1)∈X.K)(n:two=true->iY (V 0)∈X.K/\V 0≠V 1):Km (kF f) (yc f V two X.K) 0 (aha f τ bits) X:=by
 have u:vD (kF f):=⟨q,r,rfl,rfl⟩;have x:=h.K;refine⟨apw h aR t o n,rfl,by show X.K.length<=200;omega,by show 200<=600000;omega,by show((List.range _).map _).length=_;simp[kF],by rw[h.nodes];exact j.len,fun i H=> ?_,fun i s H=> ?_,?_,by rw[h.t0,j.t0,if_pos bJ];rfl,?_⟩
 ·rw[acz] at H
  split at H
  ·rename_i a
   injection H with H;split at H
   ·rename_i e
    subst e;have:=j.nodes 0 a;rw[if_pos bJ] at this;rw[h.nodes];exact this
   cases H
  cases H
 ·rw[acz] at H
  split at H
  ·rename_i a
   injection H with H;split at H
   ·cases H
   rename_i e;injection H with H;subst H;have:=j.nodes i a;rw[if_neg (by simp;omega)] at this;obtain⟨v,w,I⟩:=this;refine⟨v,by rw[h.nodes];exact w,?_,I.out⟩;exact afY (c:=kF f) rfl u _ I
  cases H
 ·rw[h.ck,j.ck]
  exact⟨rfl,rfl,rfl,rfl,rfl,bF _,aF _,fun e=>(by cases e),fun e=>(by cases e),rfl,by show(if false=true then _ else _);rw[if_neg aV];rfl,by show 0<=200;omega⟩
 refine⟨by show((List.range _).map _).length=_;simp[kF],fun k ms l=> ?_,fun k ms l m d=> ?_⟩
 ·rw[acW l,h.val k]
  refine dX fun m d=> ?_;obtain⟨p,b,rfl,g,_,_⟩:=h.has k m d;rw[lF g,lF g]
 rw[acW l] at d;obtain⟨p,b,rfl,g,z,Q⟩:=h.has k m d;have B:=akh (f:=f) (V:=V) (K:=X.K) (b:=b) ⟨.inl rfl,g.b⟩;have pl:Plc (kF f) 0 1:=⟨bF _,aF _,aV⟩;have key:(yc f V two X.K).key (sj p b)∈X.K:=by unfold mF.key;rw[alx g];exact Q
 refine⟨?_,?_⟩
 ·rcases g.kd with rfl|rfl|rfl
  ·exact⟨⟨rfl,pl,B,bJ⟩,key⟩
  ·exact⟨⟨by show 0<3*f+1;omega,pl,B⟩,key⟩
  exact⟨⟨by show 0<3*f+1;omega,pl,B⟩,key⟩
 rw[afD] at d;split at d
 ·rename_i y
  show k/(3*f+1+2)≠k%(3*f+1+2);rw[iJ aR,dJ aR];omega
 cases d
structure SpR(f:Nat)(σ:Nat->List Nat)(G:mF)(R:Nat)(X:CV):Prop where
 ex: ∃K x sl nw st,Km (kF f) (G.at K) (1900*R) x X/\GR (kF f) σ x sl nw st/\(∀j,nw j<=R)/\x.ck.now<=R/\tot x.links<=600/\x.sent+(3*f+1)*kr (3*f+1) sl<=2000+600*R
theorem aht(c:1<=f)(d:f<=4)(i: ∀β,τ β=1\/τ β=0)(e:Hw f (3*f+1) [0,100] X0)(h:FgI V two X0 X (jG τ bits (3*f+1) 0) 130)(g: ∀b,0<=V b/\V b<=100)(a:iY (V 1)∈X.K)(H:two=true->iY (V 0)∈X.K/\V 0≠V 1):SpR f (lu τ bits) (yc f V two X.K) 0 X:=by
 refine⟨X.K,aha f τ bits,fun _=>Tok.sl0 (3*f+1),fun _=>0,fun _=>0,akx c d e h g a H,apx c i,fun _=>aF _,aF _,akQ d,?_⟩;have key: ∀m,((List.range m).map fun _=>pv (Tok.sl0 (3*f+1))).sum=3*m:=fun m=>by
  induction m with
  |zero=>rfl
  |succ m ih=>
   simp only[gV,bR,lQ,bV,fu,List.sum_cons,List.sum_nil,ih];show 3*m+(3+0)=_;omega
 show 200+(3*f+1)*kr (3*f+1) (fun _=>Tok.sl0 (3*f+1))<=2000+600*0;unfold kr;rw[key];have:(3*f+1)*(3*(3*f+1))<=13*39:=jK aR aR;omega
theorem aho{G:mF}{R:Nat}(H:1<=f)(j:f<=4)(m:KO (kF f) σ)(q:R<90)(h:SpR f σ G R X): ∃a,zP f (3*f+1) X a/\SpR f σ G (R+1) a:=by obtain⟨K,x,r,nw,t,A,a2,a3,b,a5,a6⟩:=h.ex;have l:vD (kF f):=⟨H,j,rfl,rfl⟩;obtain⟨o,s,n,S,B,c,d,e,g,b6⟩:=afe m (by show 3*f+1<=13;omega) (R:=R) aR a2 a3 b a5 a6;obtain⟨k,a,C,p,i⟩:=yF l A aR B;exact⟨a,C,⟨k,o,s,n,S,by rw[show 1900*(R+1)=1900*R+1900 by omega];exact i,c,d,e,g,b6⟩⟩
theorem akX{R:Nat}(c:1<=f)(d:f<=4)(h:SpR f σ (yc f V two K) R X){i:Nat}(H:1<=i/\i<3*f+1): ∃v,X.nodes[i]?=some (some v)/\Vf v/\(v.es= []\/v.es= [(dW (V 1) (num K (iY (V 1))),uK ([],st0,ct0) (dW (V 1) 0))]):=by
 obtain⟨m,x,s,nw,S,a,a2,_⟩:=h.ex;have g:vD (kF f):=⟨c,d,rfl,rfl⟩;obtain⟨n,N⟩:=a2.nd i H.1 H.2;obtain⟨v,j,b,k⟩:=a.nd i _ n;refine⟨v,j,b.fit g a.g k,?_⟩;have e:=b.es;have l:=b.ES;rw[Ol a.g _ l] at e;have E:(jd (kF f) (s i) (nw i) (S i)).led=J4 (s i):=rfl;rw[E] at e;unfold J4 at e;split at e
 ·exact .inr e
 exact .inl e
end
end
theorem an7:Zg 1 [3]:=⟨bJ,bJ,bJ,bJ⟩
theorem UM(c:Tok.wakes=true)(w:World):Y 22 #[] w fun e w'=>e=acK true/\Be w w':=by
 have HK:=jj c;clear c;go_enter func22,ntmps22;go_wp2_with fail;refine(qM.acP 1 _).mono ?_;rintro e w1 ⟨rfl,b⟩;have l:=jj (b.alloc b.size (.cells #[U 3] 3));have Z1:=jj b.size;clear b;go_wp2_with fail;refine(aac _ 1 aV aV 4 aV _ 1 1 [3] rfl aV (gD.nR (n:=1) (s:=1) (aZ.new w1 3 #[U 3]) rfl) an7).mono ?_;rintro e w2 ⟨gc,X,F,rfl,H,y,v,g⟩;have N:=jj H;have I2:=jj y;have o:=F9 (∀k∈F,w.heap.size<=k) fun k c=>by have:=v k c;have:=l.size;omega
 have B:=nO l g;clear H y v g;obtain⟨X1,X2,x,I,A,C,D,E,G⟩:=YL HK I2;obtain⟨J1,J2,J3⟩:=j3 I A C;have J:=F9 (x.ck.il.length<=4096/\x.ck.al.length<=4096/\x.ck.el.length<=4096) ⟨D,E,aR⟩;have J5:=jj G;clear I A C D E G;go_wp2_with fail;refine(Qe N 1 2 7 J1).mono ?_;rintro e w3 ⟨S,rfl,H,a,d⟩;have O:=jj H;have i:=jj (a.below B B.size o);have p:=F9 (∀k∈S,w.heap.size<=k) fun k c=>(d k c).elim (o.out k) fun h=>aG B.size h;clear H a d;go_wp2_with fail;refine(zS O J2 2000 aV).mono ?_;rintro e w4 ⟨z,j,rfl,H,a,d⟩;have P:=jj H;have m:=jj (a.below i i.size p);have T:=F9 (∀k∈j,w.heap.size<=k) fun k c=>(d k c).elim (p.out k) fun h=>aG i.size h;clear H a d;go_wp2_with fail;refine(zS P J3 2000 aV).mono ?_;rintro e w5 ⟨z,V,rfl,H,a,d⟩;have Q:=jj H;have K:=jj (a.below m m.size T);clear H a d;go_wp2_with fail;refine(Lm Q J).mono ?_;rintro e w6 ⟨q,rfl,⟨cs,ia,ic,ea,ec,r,h2,h3,t,u⟩,f⟩;have L:=nO K f;obtain⟨H1,W,Z⟩:=j3 r t u;have R:=J5.out;clear r h2 h3 t u f;go_wp2_with fail;refine(Aa _ _ _ H1 _ _ _ _ W Z J.2.2).mono ?_;rintro e w7 ⟨⟨a',c',rfl,a⟩,f⟩;rw[R];have M:=nO L f;clear a f;go_wp2_with fail;go_ret;exact⟨rfl,M⟩
namespace Tok
theorem UQ:wakes=true:=by decide+kernel
end Tok
namespace TopSplit
open Go.RowKit Go.Proofs.Tryz Go.ChangeShapes Go.WideShapes Go.ChangeAt
def aeA(n:Nat)(xs:LI)(k:Nat):Int:=if k<n then xs.getD k 0%100 else k
theorem ald(n:Nat)(xs:LI)(h:k<2):0<=aeA n xs k/\aeA n xs k<=100:=by unfold aeA;split<;>omega
theorem apz(w:World)(G:Nat)(A:OA)(n c:Nat)(xs:LI)(s:J w G 0 (acX A n c))(j:acA w A n xs)(i: ∀x∈xs,qX x)(r:n<=maxLen)(k:Nat)(t:k<2):
  Y 38 #[U k,G] w fun e w'=>e=acK (U (aeA n xs k))/\w=w':=by
 have m:=jj j;have l:=jj i;clear j i;unfold maxLen at r;by_cases h:k<n
 ·have I:(k:Int)<n:=aR
  have u:(0:Int)<=k:=aR;obtain⟨q,H⟩:=m.out;obtain⟨b,O,rfl,f,a⟩:=H aR;have p:=a k h;clear H a;obtain⟨z,d⟩:=ex (xs.getD k 0);have Z:qX z:=by
   rw[d,bE]
   cases e:xs[k]? with
   |none=>exact qX.zero
   |some y=>exact l.out _ (ak e)
  have V:=F9 (aeA n xs k=z%100) (by unfold aeA;rw[if_pos h,d]);rw[<-d] at p;obtain⟨y,g⟩:=ex (z%100);rw[V.out,<-g];have o:=jj g;clear d q f g;go_enter func38,ntmps38;go_wp2_with fail;refine(Sg z 100 _ Z aV aV).mono ?_;rw[<-o.out];rintro e w' ⟨rfl,rfl⟩;go_wp2_with fail;go_ret;exact⟨by trivial,by trivial⟩
 have I: ¬(k:Int)<n:=aR;rw[show aeA n xs k=k by unfold aeA;rw[if_neg h]];go_enter func38,ntmps38;go_wp2_with fail;go_ret;exact⟨by trivial,by trivial⟩
structure Mem(w wr:World)(F:LN)(E:List (Nat×TypeId×Array Value)):Prop where
 own: ∀x∈E,aZ wr x.1 x.2.1 x.2.2/\x.1∉F/\w.heap.size<=x.1
 ge: ∀j∈F,w.heap.size<=j
 lt: ∀j∈F,j<wr.heap.size
 b:Be w wr
section
variable{w wr w':World}{F F':LN}{E:List (Nat×TypeId×Array Value)}{g:Nat}{t:TypeId}{cs:AV}
theorem Mem.turn(h:Mem w wr F E)(d:Only F wr w')(c:Fro wr F F')(i: ∀j∈F',j<w'.heap.size):Mem w w' F' E where
 own:=fun x hx=>by obtain⟨H,a,f⟩:=h.own x hx;exact⟨H.only d a,fun k=>(c _ k).elim a fun e=>by have:=H.lt;omega,f⟩
 ge:=fun j g=>(c j g).elim (h.ge j) fun e=>aG h.b.size e
 lt:=i
 b:=d.below h.b h.b.size h.ge
theorem Mem.below(h:Mem w wr F E)(a:Be wr w'):Mem w w' F E:=h.turn (Only.of_below a) (fun j H=> .inl H) fun j H=>aB (h.lt j H) a.size
theorem Mem.more(h:Mem w wr F E)(H:Be wr w')(b:wr.heap.size<=g)(a:aZ w' g t cs):Mem w w' F ((g,t,cs)::E):=
 {h.below H with own:=fun x hx=>(ay.1 hx).elim (fun e=>by subst e;exact⟨a,fun c=>by have:=h.lt _ c;simp only at this;omega,aG h.b.size b⟩) ((h.below H).own x)}
theorem Mem.sub{E':List (Nat×TypeId×Array Value)}(h:Mem w wr F E)(H: ∀x∈E',x∈E):Mem w wr F E':={h with own:=fun x hx=>h.own x (H x hx)}
theorem Mem.set(h:Mem w wr F ((g,t,cs)::E))(e: ∀x∈E,x.1≠g)(i:Nat)(u:Value):Mem w (wr.setCell (adZ g i) u) F ((g,t,cs.setIfInBounds i u)::E) where
 own:=fun x hx=>by
  rcases ay.1 hx with rfl|hx
  ·obtain⟨H,a,c⟩:=h.own (g,t,cs) bJ
   exact⟨H.fU i u,a,c⟩
  obtain⟨H,a,c⟩:=h.own x (by simp[hx]);exact⟨H.far (p:=adZ g i) (e x hx) u,a,c⟩
 ge:=h.ge
 lt:=fun j d=>aB (h.lt j d) ((Only.refl [g] wr).setCell (p:=adZ g i) (.inl bJ) u).size
 b:=h.b.setCell (p:=adZ g i) (h.own (g,t,cs) bJ).2.2 u
theorem Mem.swap{x y:Nat×TypeId×Array Value}(h:Mem w wr F (x::y::E)):Mem w wr F (y::x::E):=h.sub fun z H=>by simp only[ay] at H|-;rcases H with h|h|h<;>simp[h]
theorem aip(h:aZ u g 49 #[U 0,U 1,U 1,U 1,U z,U (-1)]):qc u (some (adZ g 0)) 1 1 [(0,1,1,1,z,-1)]:=⟨gD.nR (n:=1) (s:=6) h rfl,rfl,aF _,by unfold maxLen;omega⟩
abbrev msC(kd:Int)(sl:Value):Array Value:=#[U kd,U 0,U 0,U 0,U 1,U 0,sl,(),(),()]
abbrev rqC(z:Int):Array Value:=#[U 0,U 1,U 1,U 1,U z,U (-1)]
theorem acR{sl:Value}(h:aZ u g 82 (msC kd sl)):J u g 0 (U kd)/\J u g 1 (U 0)/\J u g 2 (U 0)/\J u g 3 (U 0)/\J u g 4 (U 1)/\J u g 5 (U 0)/\J u g 6 sl/\J u g 7 ()/\J u g 8 ()/\J u g 9 ():=⟨h.cell 0,h.cell 1,h.cell 2,h.cell 3,h.cell 4,h.cell 5,h.cell 6,h.cell 7,h.cell 8,h.cell 9⟩
theorem ag5(h:aZ u g 49 (rqC z)):J u g 0 (U 0)/\J u g 1 (U 1)/\J u g 2 (U 1)/\J u g 3 (U 1)/\J u g 4 (U z)/\J u g 5 (U (-1)):=⟨h.cell 0,h.cell 1,h.cell 2,h.cell 3,h.cell 4,h.cell 5⟩
end
def St(τ:Bool->Nat)(bits:Nat->Bool)(V:Nat->Int)(two:Bool)(X0:CV)(i j:Nat)(X:CV):Prop:=FgI V two X0 X (jG τ bits i j) (10*(i -1)+2*j)
section
variable{f i j:Nat}{bits:Nat->Bool}{val:Bool->Int}{win:Bool}{X0 X:CV}
theorem ad6(k:f<=4)(d: ∀b,0<=val b/\val b<=100)(e:1<=i/\i<3*f+1)(h:St (gQ val win) bits (iN val win) (jo val) X0 i j X){kd:Nat}{β:Bool}(g:kd=3\/kd=4\/kd=5)(c:(jI (gQ val win) (bits i))[j]?=some (sj kd (gQ val win β))):
  ∃x,FgV X (3*f+1) i kd 0 1 1 1 (val β) x/\St (gQ val win) bits (iN val win) (jo val) X0 i (j+1) x:=by have l:j<5:=(ah.1 c).1;obtain⟨x,H,a⟩:=ajF (n:=3*f+1) (kd:=kd) (b:=gQ val win β) h (fun b=>by unfold iN;split<;>exact d _) aR (ama aR e) (tL (ae6 (τ:=gQ val win) (bits:=bits) (i:=i) (j:=j) i)) ⟨g,afy β⟩;rw[ah9] at H;refine⟨x,H,?_⟩;unfold St;rw[agA c] at a;exact a
theorem ak2(H:1<=i)(h:St (gQ val win) bits (iN val win) (jo val) X0 i 5 X):St (gQ val win) bits (iN val win) (jo val) X0 (i+1) 0 X:=by unfold St at h|-;rw[agw H] at h;exact{h with K:=by have:=h.K;omega}
theorem air(h:Hw f n [0,100] X0):St (gQ val win) bits (iN val win) (jo val) X0 1 0 X0:=by unfold St;rw[agy];exact⟨rfl,rfl,rfl,by rw[h.K];exact bF _,fun k m H=>(by cases H),fun k=>by rw[h.M];rfl⟩
theorem afI(a:Hw f (3*f+1) [0,100] X0)(h:St (gQ val win) bits (iN val win) (jo val) X0 i j X):X.nodes[0]?=some none/\X.t0=none:=by have H:=a.nodes 0 aR;rw[if_pos bJ] at H;exact⟨by rw[h.nodes];exact H,by rw[h.t0,a.t0,if_pos bJ]⟩
theorem ah7{b kd b':Nat}(h:sj 4 b=sj kd b'):b'=b:=by
 unfold sj at h;rw[if_neg aV,if_pos rfl] at h;split at h
 ·cases h
 split at h
 ·injection h with _ _ _ h
  injection h with h;exact h.symm
 cases h
theorem amv(a:1<=f)(c:f<=4)(g: ∀b,0<=val b/\val b<=100)(d:Hw f (3*f+1) [0,100] X0)(h:St (gQ val win) bits (iN val win) (jo val) X0 (3*f+1) 0 X):SpR f (lu (gQ val win) bits) (yc f (iN val win) (jo val) X.K) 0 X:=by
 have has: ∀β,iY (val β)∈X.K:=fun β=>by
  obtain⟨k,b,e,i,H,_⟩:=h.has 1 (sj 4 (gQ val win β)) (by unfold jG jI;rw[if_pos ⟨aF _,aR⟩];cases β<;>simp)
  rw[ah7 e,ah9] at H;exact H
 refine aht a c (fun β=>(afy (val:=val) β).imp id And.left) d {h with K:=by have:=h.K;omega} (fun b=>by unfold iN;split<;>exact g _) (has _) fun e=>⟨has _,?_⟩;have e:val false≠val true:=by simpa[jo] using e
 show val (!win)≠val win;cases win
 ·exact dR e
 exact e
end
structure LgS(f:Nat)(w wr:World)(gc:Nat)(X:CV)(F:LN)(B:Nat)(A:OA)(m cap:Nat)(L:List zw)(e:CY):Prop where
 cl:Nl wr (f:Nat) (3*f+1) gc X F
 b:Be w wr
 row:wr.ownsRow B 44 1 (acX A m cap) m (L.map zw.val)
 len:L.length=m
 ok: ∀l∈L,wr.ownsRow 0 51 7 (acX l.a l.n l.c) l.n (l.es.flatMap pF)/\l.es.length=l.n/\(l.es= []\/l.es= [e])
 B0:w.heap.size<=B
 Bl:B<=wr.heap.size
 F0: ∀j∈F,j<B
theorem agO:(prog.info? 44).map (fun i=>(i.zero,i.size,i.bytes))=some (some (acX none 0 0),1,24):=by kernel_rfl
section
variable{f:Nat}{w wr w':World}{gc B:Nat}{X:CV}{F:LN}{A A':OA}{m cap cap':Nat}{L:List zw}{e:CY}
theorem LgS.below(h:LgS f w wr gc X F B A m cap L e)(H:Be wr w'):LgS f w w' gc X F B A m cap L e:=
 {h with cl:=h.cl.below H,b:=h.b.trans (H.mono h.b.size),row:=own_below h.row H,ok:=fun l a=>⟨own_below (h.ok l a).1 H,(h.ok l a).2⟩,Bl:=aG h.Bl H.size}
theorem LgS.app(h:LgS f w wr gc X F B A m cap L e){l:zw}(k:wr.ownsRow 0 51 7 (acX l.a l.n l.c) l.n (l.es.flatMap pF)/\l.es.length=l.n/\(l.es= []\/l.es= [e]))(a:qQ wr w' B 44 1 A A' (m+1) cap' (L.map zw.val++ [l.val])):LgS f w w' gc X F B A' (m+1) cap' (L++ [l]) e:=by
 have far: ∀l:zw,wr.ownsRow 0 51 7 (acX l.a l.n l.c) l.n (l.es.flatMap pF)->w'.ownsRow 0 51 7 (acX l.a l.n l.c) l.n (l.es.flatMap pF):=fun l n=>mK n a.only fun g d i=>by obtain⟨_,cs,c⟩:=dx h.row g i;exact mG n c aV d
 refine⟨h.cl.only a.only (fun g d=> ?_) (fun j o i=> ?_),a.below h.row h.b h.B0 h.b.size,by rw[bR];exact a.own,by rw[av,h.len];rfl,fun b H=> ?_,h.B0,aG h.Bl a.only.size,h.F0⟩
 ·obtain⟨_,cs,c⟩:=dx h.row g d
  exact⟨_,cs,c,aV,aV⟩
 ·have p:=(dG h.row j (by rw[dQ];exact aJ.1 i)).1
  have:=h.F0 j o;omega
 rcases aQ.1 H with H|H
 ·exact⟨far b (h.ok b H).1,(h.ok b H).2⟩
 rw[au] at H;subst H;exact⟨far b k.1,k.2⟩
end
end TopSplit
namespace TopSplit
open Go
theorem Ri:(Rows.topSplitRow.inPlace==Tryz.pinned.checked.prog.inPlace 7)=true:=by kernel_rfl
theorem Yp:(Rows.topSplitRow.unfollowed==Tryz.pinned.checked.prog.unfollowed 7)=true:=by kernel_rfl
theorem Yo:(Rows.topSplitRow.recurses==Tryz.pinned.checked.prog.recurses 7)=true:=by kernel_rfl
theorem UA:(Rows.topSplitRow.named==Tryz.pinned.checked.prog.varsNamed 7)=true:=by kernel_rfl
theorem joined:joinedFacts Tryz.pinned.checked.prog 7 Tryz.f7 Rows.topSplitSpec Rows.topSplitRow=true:=by
 unfold joinedFacts
 iterate 19 (refine iq.2 ⟨?_,by kernel_rfl⟩)
 refine iq.2 ⟨?_,UA⟩;refine iq.2 ⟨?_,Yo⟩;refine iq.2 ⟨?_,Yp⟩;refine iq.2 ⟨?_,Ri⟩
 kernel_rfl
end TopSplit
namespace TopSplit
open Go.RowKit Go.Proofs.Tryz Go.ChangeShapes Go.WideShapes Go.ChangeAt
theorem asb(H:1<=f):Zg (f:Int) [0,100]:=⟨fun z h=>by simp at h;omega,bJ,by simp[lT];omega,bJ⟩
theorem walk(v0:Int)(A1:OA)(n1 c1:Nat)(gB:Nat->Bool)(G:OA)(N c2:Nat)(xs:LI)(v3:Int)(w:World)(h0:qX v0)(hb:alf w A1 n1 gB)(hr:acA w G N xs)(hx: ∀x∈xs,qX x)(O1:n1<=maxLen)(U0:N<=maxLen)(h3:qX v3):
  Y 7 #[U v0,.slice A1 n1 c1,.slice G N c2,U v3] w fun e w'=>e= .returned true/\Be w w':=by
 have M2:=jj U0;unfold maxLen at O1;obtain⟨H0,HB,HR,HX,H3⟩:=j5 h0 hb hr hx h3;clear h0 hb hr hx h3 U0;go_enter func7,ntmps7;go_upto_region 1 with fail;generalize hw0:w.alloc _=w0;generalize BR:w.heap.size=g6;replace hw0:=hw0.symm;replace BR:=BR.symm;obtain⟨B0,X6⟩:=nw hw0 BR;have G6:=F9 (w.heap.size<=g6) aR;clear hw0 BR;go_wp2_with fail;refine(acF v0 3 _ H0 aV aV).mono ?_;rintro e w' ⟨q,rfl,-,q0,q1,rfl⟩;obtain⟨f,C⟩: ∃f:Nat,1+q=(f:Int):=⟨(1+q).toNat,aR⟩;have f1:1<=f:=aR;have f4:f<=3:=aR;have HF:=jj C;clear C;go_wp2_with fail;rw[HF.out];clear q0 q1;refine(qM.acP _ _).mono ?_;rintro e w1 ⟨rfl,C0⟩;have B1:=nO B0 C0;have P0:=jj (X6.below C0 X6.lt);clear C0
 go_upto_region 2 with(first|(refine wpList_store_row rfl 24 (.tmp 9) (.tmp 27) rfl w1.heap.size (sW f) rfl rfl 24 _ (aZ.new _ _ _) (by kernel_rfl) (by kernel_rfl) (by kernel_rfl) ?_;rw[World.setRow_alloc_new];try simp only[Act.put]))
 obtain⟨w2,g0⟩:=ex (w1.alloc (.cells (sW f) 24));obtain⟨g9,D0⟩:=ex w1.heap.size;rw[<-g0,<-D0];have K2:=xNew g0 D0;have y0:=(tQ g0).out;have B2:=nO B1 y0;have t0:=jj (P0.below y0 P0.lt);clear g0 D0 y0;obtain⟨p0,p1,p2,p3,p4,p5,p6,p7,p8,p9,Q1,R1,T1,U1,V1⟩:=sZ K2;go_wp2_with fail;have M:Be w2 (w2.alloc (.cells #[U 0,U 100] 3)):=nC;refine(ajz _ (f:Nat) aR aR (3*f+1) aR _ 2 2 [0,100] rfl aV (gD.nR (n:=2) (s:=1) (aZ.new w2 3 #[U 0,U 100]) rfl) (asb f1)).mono ?_;rintro e w3 ⟨x0,gc,X0,F0,rfl,a,hI,hF,H⟩;have I0:=jj hI;have H:=M.trans (H.mono M.size);have K3:=jj (K2.below H K2.lt);have C3:=jj a;have v1:=F9 (Mem w w3 F0 [(g6,35,#[.slice G N c2])]) {
  own:=fun x hx=>by rw[au] at hx;subst hx;exact⟨t0.below H t0.lt,fun hm=>by have:=hF _ hm;have h1:=t0.lt;have h2:=M.size;omega,G6⟩
  ge:=fun j hj=>by have:=hF j hj;have h1:=B2.size;have h2:=M.size;omega
  lt:=a.i.lt
  b:=B2.trans (H.mono B2.size)}
 clear a hI hF H M p0 p1 p2 p3 p4 p5 p6 p7 p8 p9 Q1 R1 T1 U1 V1;have p0:=K3.at_ 0;go_wp2_with fail;refine(abQ (f:Nat) _ aR aR).mono ?_;rintro e u1 ⟨rfl,rfl⟩;clear p0;obtain⟨val,a0⟩: ∃val:Bool->Int,val=fun β=>aeA N xs (if β then 1 else 0):=⟨_,rfl⟩;have VI:=F9 (∀β,0<=val β/\val β<=100) fun β=>by rw[a0];cases β<;>exact ald _ _ aV
 have VC:=F9 (∀(u:World) (F:LN) (E:List (Nat×TypeId×Array Value)) (k:Nat) (β:Bool),Mem w u F E->(g6,35,#[.slice G N c2])∈E->k=(if β then 1 else 0)->Y 38 #[U k,g6] u fun e w'=>e= .returned (U (val β))/\u=w') fun u F E k β Q hE hk=>by
  rw[a0];have h6:=(Q.own _ hE).1;have T0:k<2:=by rw[hk];split<;>omega
  subst hk;exact apz u g6 G N c2 xs (h6.cell 0) (HR.below Q.b) HX M2 _ T0
 obtain⟨bits,S⟩: ∃bits:Nat->Bool,bits=fun i=>decide (i<n1)&&gB i:=⟨_,rfl⟩;have BI:=jj S;obtain⟨W,c0⟩:=ex (kT f bits);have WI:=jj c0;have S3:=F9 (St (gQ val W) bits (iN val W) (jo val) X0 1 0 X0) (air I0);clear a0 S c0;go_wp2_with fail;go_loopw [14] (fun z wr=> ∃i:Nat,1<=i/\i<=3*f+1/\z= U i/\ ∃x X F,pq x wr (f:Nat) (3*f+1) gc X F/\Mem w wr F [(g6,35,#[.slice G N c2])]/\St (gQ val W) bits (iN val W) (jo val) X0 i 0 X) (fun z _=>3*f+1 -(intOf z).toNat)
 case atStart=>exact⟨1,aR,aR,by first|rfl|simp,x0,X0,F0,C3,v1,S3⟩
 case round=>
  obtain⟨i,d,hi,rfl,x1,X1,F1,a,Q,hS⟩:=hrel;obtain⟨C1,M1,S1⟩:=j3 a Q hS;clear a Q hS;by_cases r:i<3*f+1
  ·have i1:(i:Int)<3*f+1:=aR
   have i0:(0:Int)<=i:=aR;go_upto_region 10 with fail;go_cut [15] from 15 to 15 (fun v wx=>v= U 0/\wx=wr)
   case first=>
    go_wp2_with fail;go_meet;exact⟨rfl,rfl⟩
   obtain⟨rfl,b0⟩:=hcut;obtain rfl:wr=wc:=b0.symm;clear b0;rename_i ha;refine ha _ _ ?_
   go_step
   go_cut [15] from 49 to 58 (fun v wx=>v= U (if bits i then 1 else 0:Nat)/\wx=wr)
   case first=>
    by_cases e0:i<n1
    ·obtain⟨b,P1,rfl,K1,hc⟩:=HB.out aR
     have hc:=(M1.b.cell (p:=⟨b,P1+i,none⟩) K1).trans (hc i e0);have i2:(i:Int)<n1:=aR
     cases hg:gB i with
     |true=>
      rw[hg] at hc;go_wp2_with fail;go_meet;exact⟨by rw[BI.out];simp[e0,hg],rfl⟩
     |false=>
      rw[hg] at hc;go_wp2_with fail;go_meet;exact⟨by rw[BI.out];simp[e0,hg],rfl⟩
    have i2: ¬(i:Int)<n1:=aR;go_wp2_with fail;go_meet;exact⟨by rw[BI.out];simp[e0],rfl⟩
   case rest=>
    obtain⟨rfl,b0⟩:=hcut;obtain rfl:wr=wc:=b0.symm;clear b0;obtain⟨kb,K0⟩: ∃kb:Nat,kb=(if bits i then 1 else 0):=⟨_,rfl⟩;rw[<-K0];have KB:=jj K0;clear K0;go_wp2_with fail;refine(VC.out wr F1 _ kb (bits i) M1 bJ KB).mono ?_;rintro e w' ⟨rfl,rfl⟩;go_upto_region 14 with fail;obtain⟨z,hz⟩:=ex (val (bits i));rw[<-hz];have HZ:=jj hz;clear hz;generalize zn:wr.alloc _=wa;generalize ajU:wr.heap.size=g16;replace zn:=zn.symm;replace ajU:=ajU.symm;have ba:=(tQ zn).out;have xa:aZ wa g16 49 #[U 0,U 1,U 1,U 1,U z,U (-1)]:=by rw[zn,ajU];exact aZ.new _ _ _
    have Ma:=jj (M1.more ba aR xa);have Ca:=jj (C1.fresh ba (y:=g16) aR xa.lt);clear zn ajU ba;obtain⟨d0,d1,d2,d3,d4,d5⟩:J wa g16 0 (U 0)/\J wa g16 1 (U 1)/\J wa g16 2 (U 1)/\J wa g16 3 (U 1)/\J wa g16 4 (U z)/\J wa g16 5 (U (-1)):=⟨xa.cell 0,xa.cell 1,xa.cell 2,xa.cell 3,xa.cell 4,xa.cell 5⟩;clear xa;go_upto_region 15 with fail;obtain⟨wb,I⟩:=ex ((wa.alloc (.cells #[U 0,U 1,U 1,U 1,U z,U (-1)] 49)).alloc (.cells #[U 3,U 0,U 0,U 0,U 1,U 0,O wa.heap.size 1 1,(),(),()] 82));obtain⟨g,T⟩:=ex (wa.heap.size+1);rw[<-I,<-T];obtain⟨A0,Z⟩:=ex wa.heap.size;rw[<-Z] at I|-;have u0: ∀o,(wa.alloc o).heap.size=wa.heap.size+1:=fun o=>Array.size_push ..;have bb:Be wa wb:=by rw[I];exact nC.alloc (by rw[u0];omega) _
    have xb:aZ wb g 82 #[U 3,U 0,U 0,U 0,U 1,U 0,O A0 1 1,(),(),()]:=by rw[I,T];exact aZ.new' _ _ _ (by rw[u0])
    have xr:aZ wb A0 49 #[U 0,U 1,U 1,U 1,U z,U (-1)]:=by rw[I,Z];exact(aZ.new _ _ _).alloc _
    have Mb:=jj (Ma.more bb aR xb);have Cb:=jj (Ca.below bb);have RR:=jj (aip xr);have NE:=F9 (g≠g16/\g≠g6/\g16≠g6) (by have h1:=(Ma.own _ jL).1.lt;have h2:=(Ma.own _ (cK _ jL)).1.lt;have h3:g16≠g6:=(Ma.own _ jL).1.nY (Ma.own _ (cK _ jL)).1 (show 49≠35 by decide);simp only at h1 h2 h3;exact⟨aR,aR,h3⟩)
    obtain⟨m0,m1,m2,m3,m4,m5,m6,m7,m8,m9⟩:J wb g 0 (U 3)/\J wb g 1 (U 0)/\J wb g 2 (U 0)/\J wb g 3 (U 0)/\J wb g 4 (U 1)/\J wb g 5 (U 0)/\J wb g 6 (O A0 1 1)/\J wb g 7 ()/\J wb g 8 ()/\J wb g 9 ():=acR xb;clear I T Z u0 bb xb xr d0 d1 d2 d3 d4 d5;obtain⟨Xb,fv,sv⟩:=ad6 aR VI ⟨d,r⟩ S1 (kd:=3) (β:=bits i) (.inl rfl) rfl;obtain⟨bn,bt⟩:=afI I0 S1;obtain⟨FV,SV,BN,BT⟩:=j4 fv sv bn bt;clear fv sv bn bt;rw[<-HZ.out] at FV;go_wp2_with fail;refine(acJ Cb BN BT i ⟨d,r⟩ 3 1 1 1 z FV _ 1 RR).mono ?_;rintro e wd ⟨F2,rfl,a,D,C⟩;have Md:=jj (Mb.turn D C a.i.lt);have Cd:=jj a;clear a D C m0 m1 m2 m3 m4 m5 m6 m7 m8 m9;go_wp2_with fail;go_loopw [18] (fun z wr=> ∃k:Nat,k<=2/\z= U k/\ ∃X F kd sl y,pq g16 wr (f:Nat) (3*f+1) gc X F/\Mem w wr F [(g,82,msC kd sl),(g16,49,rqC y),(g6,35,#[.slice G N c2])]/\St (gQ val W) bits (iN val W) (jo val) X0 i (1+2*k) X) (fun z _=>2 -(intOf z).toNat)
    case atStart=>exact⟨0,aR,by first|rfl|simp,_,_,_,_,_,Cd,Md,SV⟩
    case round=>
     obtain⟨k,hk,rfl,X3,F3,kd,sl,y,a,Q,hS⟩:=hrel;obtain⟨C3,M3,S3⟩:=j3 a Q hS;clear a Q hS;by_cases T0:k<2
     ·have k1:(k:Int)<2:=aR
      have k0:(0:Int)<=k:=aR;have K2:=F9 (k=0\/k=1) aR;obtain⟨β,o0⟩:=ex (decide (k=1));have o1:=F9 (k=if β then 1 else 0) (by rcases K2.out with rfl|rfl<;>simp[o0]);have J1:=F9 ((jI (gQ val W) (bits i))[1+2*k]?=some (sj (4+k) (gQ val W β))) (by rcases K2.out with rfl|rfl<;>simp[o0]<;>rfl);have J2:=F9 ((jI (gQ val W) (bits i))[1+2*k+1]?=some (sj (5 -k) (gQ val W β))) (by rcases K2.out with rfl|rfl<;>simp[o0]<;>rfl);clear o0;go_wp2_with fail;refine(VC.out wr F3 _ k β M3 bJ o1).mono ?_;rintro e w' ⟨rfl,rfl⟩;obtain⟨z,hz⟩:=ex (val β);rw[<-hz];have O0:=jj hz;clear hz;have s0:aZ wr g16 49 (rqC y):=(M3.own _ (cK _ jL)).1;have c4:=s0.at_ 4;have E1:wr.frozen? ⟨g16,4,none⟩=false:=s0.frozen 4;have M4:=F9 (Mem w (wr.setCell ⟨g16,4,none⟩ (U z)) F3 [(g16,49,rqC z),(g,82,msC kd sl),(g6,35,#[.slice G N c2])]) (M3.swap.set (fun x hx=>by
       simp only[ay,aI,or_false] at hx;rcases hx with rfl|rfl
       ·exact NE.1
       exact dR NE.2.2) 4 (U z))
      have C4:=jj (C3.set s0 aV (.inl ⟨rfl,rfl⟩) (M3.own _ (cK _ jL)).2.1 4 (U z));clear s0;go_upto_region 20 with fail;obtain⟨w4,V0⟩:=ex (wr.setCell ⟨g16,4,none⟩ (U z));rw[<-V0] at M4 C4|-;clear V0 c4 E1;obtain⟨d0,d1,d2,d3,d4,d5⟩:=ag5 (M4.own _ jL).1;have m6: ∀o,J (w4.alloc o) g 6 sl:=fun o=>((M4.own _ (cK _ jL)).1.alloc o).cell 6;have f6: ∀o,(w4.alloc o).frozen? ⟨g,6,none⟩=false:=fun o=>((M4.own _ (cK _ jL)).1.alloc o).frozen 6;go_upto_region 21 with fail;generalize zM:w4.alloc _=w5;generalize ajV:w4.heap.size=g19;replace zM:=zM.symm;replace ajV:=ajV.symm;have z0:=(tQ zM).out;have a1:aZ w5 g19 49 (rqC z):=by rw[zM,ajV];exact aZ.new _ _ _
      have y1:=F9 (g≠g19) (by have:=(M4.own _ (cK _ jL)).1.lt;simp only at this;omega);have M5:=F9 (Mem w w5 F3 [(g,82,msC kd sl),(g16,49,rqC z),(g19,49,rqC z),(g6,35,#[.slice G N c2])]) ((M4.more z0 aR a1).sub (fun x hx=>by simp only[ay,aI,or_false] at hx|-;rcases hx with h|h|h|h<;>simp[h]));have C5:=jj (C4.below z0);have NN:=F9 (∀x∈ [(g16,49,rqC z),(g19,49,rqC z),(g6,35,#[.slice G N c2])],x.1≠g) (fun x hx=>by
       simp only[ay,aI,or_false] at hx;rcases hx with rfl|rfl|rfl
       ·exact dR NE.1
       ·exact dR y1
       exact dR NE.2.1)
      clear zM ajV z0 a1 d0 d1 d2 d3 d4 d5 m6 f6;obtain⟨w6,j0⟩:=ex (w5.setCell ⟨g,6,none⟩ (O g19 1 1));have M6:=F9 (Mem w w6 F3 [(g,82,msC kd (O g19 1 1)),(g16,49,rqC z),(g19,49,rqC z),(g6,35,#[.slice G N c2])]) (by rw[j0];exact M5.set NN 6 _);have C6:=F9 (pq g16 w6 (f:Nat) (3*f+1) gc X3 F3) (by rw[j0];exact C5.set (t:=82) (M5.own _ jL).1 aV (.inr aV) (M5.own _ jL).2.1 6 _);rw[<-j0];clear j0;have m0:J w6 g 0 (U kd):=(M6.own _ jL).1.cell 0;have f0:w6.frozen? ⟨g,0,none⟩=false:=(M6.own _ jL).1.frozen 0;go_upto_region 22 with fail;obtain⟨w7,l0⟩:=ex (w6.setCell ⟨g,0,none⟩ (U (4+(k:Int))));have M7:=F9 (Mem w w7 F3 [(g,82,msC (4+(k:Int)) (O g19 1 1)),(g16,49,rqC z),(g19,49,rqC z),(g6,35,#[.slice G N c2])]) (by rw[l0];exact M6.set NN 0 _);have C7:=F9 (pq g16 w7 (f:Nat) (3*f+1) gc X3 F3) (by rw[l0];exact C6.set (t:=82) (M6.own _ jL).1 aV (.inr aV) (M6.own _ jL).2.1 0 _);rw[<-l0];clear l0 m0 f0;obtain⟨m0,m1,m2,m3,m4,m5,m6,m7,m8,m9⟩:=acR (M7.own _ jL).1;obtain⟨X8,fv,sv⟩:=ad6 aR VI ⟨d,r⟩ S3 (kd:=4+k) (β:=β) aR J1;obtain⟨bn,bt⟩:=afI I0 S3;obtain⟨FV,SV,BN,BT⟩:=j4 fv sv bn bt;have RR:=jj (aip (M7.own (g19,49,rqC z) bJ).1);clear fv sv bn bt;rw[<-O0.out,show((4+k:Nat):Int)=4+(k:Int) by omega] at FV;go_wp2_with fail;refine(acJ C7 BN BT i ⟨d,r⟩ (4+(k:Int)) 1 1 1 z FV _ 1 RR).mono ?_;rintro e w8 ⟨F8,rfl,a,D,C⟩;have M8:=jj (M7.turn D C a.i.lt);have C8:=jj a;clear a D C m0 m1 m2 m3 m4 m5 m6 m7 m8 m9;have m0:J w8 g 0 (U (4+(k:Int))):=(M8.own _ jL).1.cell 0;have f0:w8.frozen? ⟨g,0,none⟩=false:=(M8.own _ jL).1.frozen 0;go_upto_region 24 with fail;obtain⟨w9,n0⟩:=ex (w8.setCell ⟨g,0,none⟩ (U (5 -(k:Int))));have M9:=F9 (Mem w w9 F8 [(g,82,msC (5 -(k:Int)) (O g19 1 1)),(g16,49,rqC z),(g19,49,rqC z),(g6,35,#[.slice G N c2])]) (by rw[n0];exact M8.set NN 0 _);have C9:=F9 (pq g16 w9 (f:Nat) (3*f+1) gc X8 F8) (by rw[n0];exact C8.set (t:=82) (M8.own _ jL).1 aV (.inr aV) (M8.own _ jL).2.1 0 _);rw[<-n0];clear n0 m0 f0;obtain⟨m0,m1,m2,m3,m4,m5,m6,m7,m8,m9⟩:=acR (M9.own _ jL).1;obtain⟨D1,fv,Z0⟩:=ad6 aR VI ⟨d,r⟩ SV (kd:=5 -k) (β:=β) aR J2;obtain⟨bn,bt⟩:=afI I0 SV;obtain⟨FV,z1,BN,BT⟩:=j4 fv Z0 bn bt;have RR:=jj (aip (M9.own (g19,49,rqC z) bJ).1);clear fv Z0 bn bt;rw[<-O0.out,show((5 -k:Nat):Int)=5 -(k:Int) by omega] at FV;go_wp2_with fail;refine(acJ C9 BN BT i ⟨d,r⟩ (5 -(k:Int)) 1 1 1 z FV _ 1 RR).mono ?_;rintro e e2 ⟨g1,rfl,a,D,C⟩;have t1:=jj (M9.turn D C a.i.lt);have e1:=jj a;clear a D C m0 m1 m2 m3 m4 m5 m6 m7 m8 m9;go_wp2_with fail;go_roundw
      case rel=>exact⟨k+1,aR,by go_num,D1,g1,5 -(k:Int),.slice (some ⟨g19,0,none⟩) 1 1,z,e1,t1.sub (fun x hx=>by simp only[ay,aI,or_false] at hx|-;rcases hx with h|h|h<;>simp[h]),by rw[show 1+2*(k+1)=1+2*k+1+1 by omega];exact z1.out⟩
      simp[intOf];omega
     obtain rfl:k=2:=aR;have S4:=jj (ak2 d S3);go_wp2_with fail;go_roundw
     case rel=>exact⟨i+1,aR,aR,by go_num,g16,X3,F3,C3,M3.sub (fun x hx=>by simp only[ay,aI,or_false] at hx|-;simp[hx]),S4⟩
     simp[intOf];omega
  obtain rfl:i=3*f+1:=aR;have i1: ¬((3*f+1:Nat):Int)<3*f+1:=aR;have SQ:=F9 (KO (kF f) (lu (gQ val W) bits)) (by rw[WI.out];exact amb f1);obtain⟨K,hK⟩:=ex X1.K;have SP:=F9 (SpR f (lu (gQ val W) bits) (yc f (iN val W) (jo val) K) 0 X1) (by rw[hK];exact amv f1 aR VI I0 S1);have s1:=F9 (Mem w wr F1 []) (M1.sub bJ);have b1:=jj C1.i;clear hK;go_wp2_with fail;refine(acF v3 8 _ H3 aV aV).mono ?_;rintro e w' ⟨q2,rfl,-,r0,r1,rfl⟩;go_wp2_with fail;go_loopw [19] (fun z wr=> ∃j:Int,-1<=j/\j<=q2/\z= U j/\ ∃X F,Nl wr (f:Nat) (3*f+1) gc X F/\Mem w wr F []/\SpR f (lu (gQ val W) bits) (yc f (iN val W) (jo val) K) (q2 -j).toNat X) (fun z _=>(intOf z+1).toNat)
  case atStart=>exact⟨q2,aR,aR,by first|rfl|simp,X1,F1,b1,s1,by rw[show(q2 -q2).toNat=0 by omega];exact SP.out⟩
  case round=>
   obtain⟨j,Y1,Z1,rfl,X2,F2,a,Q,hS⟩:=hrel;obtain⟨C2,M2,S2⟩:=j3 a Q hS;clear a Q hS;by_cases hj:0<=j
   ·obtain⟨X3,hv,hs⟩:=aho f1 aR SQ aR S2
    have HV:=jj hv;have S3:=jj hs;clear hv hs;go_wp2_with fail;refine(zS C2 HV 6000 aV).mono ?_;rintro e w5 ⟨z5,F5,rfl,a,D,C⟩;have M5:=jj (M2.turn D C a.lt);have C5:=jj a;clear a D C;go_wp2_with fail;go_roundw
    case rel=>exact⟨j -1,aR,aR,by go_num,X3,F5,C5,M5,by rw[show(q2 -(j -1)).toNat=(q2 -j).toNat+1 by omega];exact S3.out⟩
    simp[intOf];omega
   obtain⟨e,he⟩: ∃e:CY,e=(dW (iN val W 1) (num K (iY (iN val W 1))),uK ([],st0,ct0) (dW (iN val W 1) 0)):=⟨_,rfl⟩;have NZ:=F9 (∀i:Nat,1<=i/\i<3*f+1-> ∃v,X2.nodes[i]?=some (some v)/\Vf v/\(v.es= []\/v.es= [e])) fun i hi=>by rw[he];exact akX f1 aR S2 hi
   obtain⟨B,hB⟩:=ex wr.heap.size;have L0:=F9 (LgS f w wr gc X2 F2 B none 0 0 [] e) ⟨C2,M2.b,World.ownsRow_nil _ _ _ _,rfl,bJ,by rw[hB];exact M2.b.size,aR,by rw[hB];exact C2.lt⟩;obtain⟨ij,L1,E0,G0,J0⟩:=info_parts agO;clear he hB;go_wp2_with fail;go_loopw [20,21] (fun V z wr=> ∃(i m:Nat) (A:OA) (P:Nat) (L:List zw),1<=i/\i<=3*f+1/\m+1=i/\V= .slice A m P/\z= U i/\LgS f w wr gc X2 F2 B A m P L e) (fun _ z _=>3*f+1 -(intOf z).toNat)
   case atStart=>exact⟨1,0,none,0,[],aR,aR,aR,by first|rfl|simp,by first|rfl|simp,L0⟩
   case round=>
    obtain⟨i,m,A,P,L,d,W1,hm,rfl,rfl,hL⟩:=hrel;have LL:=jj hL;clear hL;by_cases r:i<3*f+1
    ·have i1:(i:Int)<3*f+1:=aR
     have i0:(0:Int)<=i:=aR;obtain⟨v,W0,Y0,N0⟩:=NZ.out i ⟨d,r⟩;have N1:=jj W0;have N2:=jj Y0;obtain⟨ln,M0⟩:=ex v.es.length;have LN:=F9 (v.es.length=ln) M0.symm;have a2:ln<=1:=by rcases N0 with h|h<;>rw[M0,h]<;>simp
     have b2:(ln:Int)<=1:=aR;have OE:=jj N0;clear W0 Y0 N0 M0;go_wp2_with fail;refine(ads LL.cl i v N1 N2).mono ?_;rintro e' u2 ⟨qn,rfl,⟨c,S',Q0,h1,h2,h3⟩,R⟩;obtain⟨H1,H2,H3⟩:=j3 h1 h2 h3;have LB:=jj (LL.below R);clear h1 h2 h3 R;go_wp2_with fail;refine(Un _ qn Q0 c S' _ _ _ H1 H2 H3 (by rw[LN.out];omega)).mono ?_;rintro e' u3 ⟨S2,G1,rfl,hL,-,H⟩;have L3:=jj hL;have LC:=jj (LB.below H);have j1:=jj (H1.below H H1.lt);have l1:=jj (H3.below H);clear hL H;go_wp2_with fail;refine(amj S2 G1 2 _ _ _ _ L3 ln LN).mono ?_;rintro e' u4 ⟨rfl,rfl⟩;go_wp2_with fail;refine(Un _ qn Q0 c S' _ _ _ j1 H2 l1 (by rw[LN.out];omega)).mono ?_;rintro e' u4 ⟨S3,I1,rfl,hL,-,R0⟩;have L4:=jj hL;have LD:=jj (LC.below R0);clear hL R0;go_wp2_with fail;refine(aaY S3 I1 2 _ _ _ _ L4 ln LN aR).mono ?_;rintro e' u5 ⟨a7,c7,rfl,D,S0⟩;have LF:=jj ((LD.below S0).below ((aC _ _).alloc (aF _) (.cells #[.slice a7 ln c7] 44)));have O8:=jj (own_below (mO D (bF _)) ((aC _ _).alloc (aF _) (.cells #[.slice a7 ln c7] 44)));clear D S0
     go_wp2_with(at_builtin;refine fD rfl _ _ _ rfl B 44 ij _ 1 24 underlying84 L1 E0 G0 J0 rfl aR A m P _ rfl LF.row _ 1 1 [.slice a7 ln c7] rfl (qC _ _ _) (by simp;rfl) (by unfold maxLen;omega) aR LF.Bl ?_;intro a8 c8 u7 h8;have LG:=jj (LF.app (l:=⟨a7,ln,c7,v.es⟩) ⟨O8,LN,OE⟩ h8);clear h8 LF)
     go_roundw
     case rel=>exact⟨i+1,m+1,a8,c8,_,aR,aR,aR,by first|rfl|(simp;omega),by go_num,LG⟩
     simp[intOf];omega
    have i1: ¬(i:Int)<3*f+1:=aR;go_wp2_with fail;refine(ajr _ A m P L e LL.len aR (fH LL.row) (fun l hl=>⟨fH (LL.ok l hl).1,(LL.ok l hl).2.1,(LL.ok l hl).2.2⟩)).mono ?_;rintro e' u2 ⟨rfl,R⟩;have LB:=jj (LL.below R);clear R;go_wp2_with fail;refine(UM Tok.UQ _).mono ?_;rintro e' u3 ⟨rfl,H⟩;have LC:=jj (LB.below H);clear H;go_wp2_with fail;go_ret;exact⟨rfl,LC.b⟩
theorem ad1:Vd Tryz.checked 7 Tryz.f7:=by
 intro H E W base args U p h j x;rw[Tryz.params7] at j h;obtain⟨v,I,P,D,Y,Z,e,rfl,rfl,s,R⟩:=trodAll_cons j;obtain⟨V,J,Q,o,p1,q1,rfl,rfl,rfl,t,z⟩:=trodAll_cons R;obtain⟨k,K,S,q,p2,q2,rfl,rfl,rfl,u,B⟩:=trodAll_cons z;obtain⟨l,L,T,r,p3,q3,rfl,rfl,rfl,w,F⟩:=trodAll_cons B;obtain⟨rfl,rfl,rfl⟩:=trodAll_nil F;obtain rfl:args=#[v,V,k,l]:=by cases args;simp_all
 obtain⟨A,rfl,rfl,rfl,M⟩:=open_int underlying3 (h 0 3 v rfl rfl) s;obtain⟨m,N,C,G,rfl,c,a,f⟩:=open_bools underlying66 underlying4 (by kernel_rfl) (h 1 66 V rfl rfl) t;obtain⟨a2,y,n,X,rfl,d,b,g,i⟩:=acS underlying35 underlying3 (by kernel_rfl) (h 2 35 k rfl rfl) u;obtain⟨a3,rfl,rfl,rfl,O⟩:=open_int underlying3 (h 3 3 l rfl rfl) w;exact walk A m N C G a2 y n X a3 W (qX.afK M) f g i (aG c a) (aG d b) (qX.afK O)
theorem lifted(o:Os)(started:o.Started)(H:Type)(enc:TypeId×Value->H):
  ReturnsInHanded {} Tryz.checked o 7 .any (Rows.topSplitSpec.pre6 enc prog Tryz.f7 Rows.topSplitRow.domain false) (Rows.topSplitSpec.post enc prog Tryz.f7 false true false false):=
 aa1 (C:=Tryz.checked) (s:=Rows.topSplitSpec) (tb:=4) (by kernel_rfl) started (by kernel_rfl) func7
  (ChangeSpec.witness6 (enc:=enc) (C:=Tryz.checked) false ⟨#[],#[U 0,(),(),U 0],[]⟩ 8 (by kernel_rfl) (by kernel_rfl) (by kernel_rfl) (by kernel_rfl))
  rfl (fun H d h=>by
   match d,h with
   | [d0,d1,d2,d3],_=>rfl) (by kernel_rfl) (by kernel_rfl) (by kernel_rfl) underlying4 ad1
theorem over:Rows.topSplitRow.holds Tryz.pinned (OpenSpec.ofChange Rows.topSplitSpec):=
 OpenClaim.holds_of_wide 7 Tryz.f7 rfl rfl rfl rfl rfl rfl rfl ⟨rfl,rfl,rfl,rfl,rfl⟩ rfl rfl rfl rfl rfl (by kernel_rfl) func7 joined
  (of_decide_eq_true (by kernel_rfl)) (by unfold Func.isWrapper;first|(rw[if_pos (by decide+kernel)];kernel_rfl)|(rw[if_neg (by decide+kernel)];exact⟨rfl,rfl⟩))
  (fun o started H e _=>lifted o started H e)
theorem proved:Rows.TopSplitSaid:=over
#print axioms proved
end TopSplit
end Go.Proofs.YtgnhecmnlddjhaaGreat
