/- The law TopAlone answers true for every f and every list of operations, and each argument reads afterwards as it read before. Conditions: none. (Part 24 of 24, squeezed by a program.) -/
import Derived.Test.YtgnhecmnlddjhaaGreatZ22
import Derived.Test.YtgnhecmnlddjhaaGreatRows
set_option linter.unusedVariables false
set_option linter.unusedSimpArgs false
set_option linter.defProp false
set_option maxRecDepth 100000
set_option maxHeartbeats 6400000
namespace Go.Proofs.YtgnhecmnlddjhaaGreat
open Go.RowKit Go.Proofs.Tryz
variable{j k m n:Nat}{kd ky vl:Int}{s:Tok.Sl}{v:ql}
section
open Tok (TM)
section
variable{c:Tok.qM}{G H:mF}{N:Nat}{x x':Tok.Cl}{X X':CV}{l l':List (List TM)}{M M':Nat->List LI}{o:Tok.Out}{K':KS}
theorem Gl.grow(h:mF.Le G H){b:LN}(hb:Gl G b):Gl H b:=by
 obtain⟨l,hl⟩:=h.nD;exact⟨fun t ht=>⟨(hb.up t ht).1,by rw[hl,av];have:=(hb.up t ht).2;omega⟩,hb.two,hb.rise⟩
theorem Em(h:mF.Le G H)(kind:Int)(k seq:Nat): ∀(l:List (Option LN)) (i:Nat),(∀(j:Nat) (b:LN),l[j]?=some (some b)->Up G.nD.length b/\G.BO kind (i+j) k seq b∈G.K)->H.zL kind k seq l i=G.zL kind k seq l i
 | [],i,_=>rfl
 |none::l,i,hl=>by
  rw[mF.zL,mF.zL,Em h kind k seq l (i+1) fun j b hj=>by have:=hl (j+1) b (mR hj);rwa [show i+1+j=i+(j+1) by omega]]
 |some b::l,i,hl=>by
  rw[mF.zL,mF.zL,Em h kind k seq l (i+1) fun j b hj=>by have:=hl (j+1) b (mR hj);rwa [show i+1+j=i+(j+1) by omega]];have:=hl 0 b lT;rw[Nat.add_zero] at this;rw[h.BO this.1,(h.num this.2).1,h.qR this.1]
theorem Ci.grow(g:mF.Le G H)(h:Ci c G k j s):Ci c H k j s:=
 ⟨h.b.grow g,h.prl,h.col,fun i b hi=>⟨(h.pr i b hi).1.grow g,by rw[g.BO (h.pr i b hi).1.up];exact(g.num (h.pr i b hi).2).2⟩,fun i b hi=>⟨(h.co i b hi).1.grow g,by rw[g.BO (h.co i b hi).1.up];exact(g.num (h.co i b hi).2).2⟩,fun b v hd=>⟨(h.done b v hd).1.grow g,(h.done b v hd).2.1,fun i hi=>by rw[g.BO (h.done b v hd).1.up];exact(g.num ((h.done b v hd).2.2 i hi)).2⟩⟩
theorem ZF.grow{p:uo}(g:mF.Le G H)(h:ZF G k j s p)(ho:Ci c G k j s):ZF H k j s p:=by
 obtain⟨h1,h2,h3,h4,h5,h6⟩:=h;refine⟨h1,by rw[g.qR ho.b.up];exact h2,?_,?_,h5,?_⟩
 ·rw[Em g 4 k (j+1) s.pr 0 fun i b hi=>by rw[aO];exact⟨(ho.pr i b hi).1.up,(ho.pr i b hi).2⟩];exact h3
 ·rw[Em g 5 k (j+1) s.co 0 fun i b hi=>by rw[aO];exact⟨(ho.co i b hi).1.up,(ho.co i b hi).2⟩];exact h4
 rw[h6]
 cases hd:s.done with
 |none=>rfl
 |some q=>
  obtain⟨b,vs⟩:=q;show some (G.ce k (j+1) b vs)=some (H.ce k (j+1) b vs);rw[g.ce (ho.done b vs hd).1.up (ho.done b vs hd).2.2]
theorem Ac(g:mF.Le G H)(hk:k<=G.nD.length):mX H k=mX G k:=by
 obtain⟨l,hl⟩:=g.nD;unfold mX;rw[hl,jy hk]
theorem tO.grow{s:Tok.Nd}(g:mF.Le G H)(h:tO c G N s v):tO c H N s v:=
 {h with
  at_:=fun k ins hk=>by
   obtain⟨i,h1,h2⟩:=h.at_ k ins hk;exact⟨i,h1,h2.vw,h2.on,h2.l1,h2.l2,fun j s hj=>by
    obtain⟨p,p1,p2,p3⟩:=h2.at_ j s hj;exact⟨p,p1,p2.grow g p3,p3.grow g⟩⟩
  tab:=h.tab.imp fun a b hd=>⟨by rw[g.rq hd.t.1 hd.t.2];exact hd.r,by
   obtain⟨l,hl⟩:=g.nD;exact⟨hd.t.1,by rw[hl,av];have:=hd.t.2;omega⟩,hd.nX,hd.l,hd.ready,hd.since,hd.le⟩
  ES:=by
   obtain⟨l,hl⟩:=g.nD;rw[hl,av];have:=h.ES;omega
  es:=by rw[Ac g h.ES];exact h.es
  st:=by rw[Ac g h.ES];exact h.st
  ct:=by rw[Ac g h.ES];exact h.ct}
theorem vH.grow{m:TM}(g:mF.Le G H)(h:vH c G m):vH c H m/\H.bytes m=G.bytes m:=by
 obtain⟨l,hl⟩:=g.nD;have len:G.nD.length<=H.nD.length:=by rw[hl,av];omega
 refine⟨⟨?_,g.has h.form.upto h.has⟩,(g.bytes h.form.upto h.has).1⟩;have hf:=h.form
 cases m with
 |req t=>exact⟨hf.1,aG hf.2 len⟩
 |prop s t=>exact⟨hf.1,hf.2.1,aG hf.2.2 len⟩
 |pp s k q b=>exact⟨hf.1,hf.2.1,hf.2.2.1.grow g,hf.2.2.2⟩
 |uf s k q b=>exact⟨hf.1,hf.2.1,hf.2.2.grow g⟩
 |com s k q b=>exact⟨hf.1,hf.2.1,hf.2.2.grow g⟩
 |proof s k q b vs=>exact⟨hf.1,hf.2.1,hf.2.2.1.grow g,hf.2.2.2⟩
 |rep s t=>exact⟨hf.1,hf.2.1,aG hf.2.2 len⟩
theorem Xg.grow(g:mF.Le G H)(h:Xg c G l M):Xg c H l M:=
 ⟨h.len,fun k ms hk=>by
  rw[h.val k ms hk];exact dX fun m hm=>((h.ok k ms hk m hm).1.grow g).2.symm,fun k ms hk m hm=>⟨((h.ok k ms hk m hm).1.grow g).1,(h.ok k ms hk m hm).2⟩⟩
end
theorem Ul(G:mF): ∀k,oQ (mX G k).2.1/\(mX G k).2.1.length=64/\(mX G k).2.2.length=2:=by
 have key: ∀(rs:List Rq) (s:Kr),oQ s.2.1/\s.2.1.length=64/\s.2.2.length=2->oQ (qL s rs).2.1/\(qL s rs).2.1.length=64/\(qL s rs).2.2.length=2:=by
  intro rs
  induction rs with
  |nil=>exact fun s h=>h
  |cons r rs ih=>
   intro s h;refine ih (qg s r) ⟨?_,?_,by rw[Ru];exact h.2.2⟩
   ·unfold qg
    split
    ·exact h.1.op _ _ _
    exact h.1
   unfold qg;split
   ·exact(abr _ _ _ _).trans h.2.1
   exact h.2.1
 exact fun k=>key _ _ ⟨oQ.zero,by simp[st0],lT⟩
theorem Ng: ∀st:List (Bool×Int),oQ st-> -2147483648*(st.length:Int)<=uj st/\uj st<=2147483648*(st.length:Int)
 | [],_=>by simp[uj]
 |a::st,h=>by
  have ih:=Ng st fun c hc=>h c (by simp[hc]);have h0:=h a lT;unfold uj at*;simp only[bV,List.sum_cons,List.length_cons];omega
theorem Yu(G:mF)(k:Nat)(r:Rq): -549755813887<=uK (mX G k) r/\uK (mX G k) r<=549755813887:=by
 obtain⟨h1,h2,_⟩:=Ul G k;have hs:=Ng _ h1;rw[h2] at hs;have hv:=h1.get r.2.2.2.1;unfold uK Pw;split
 ·rename_i hb
  split
  ·omega
  split
  ·omega
  split
  ·split
   ·rename_i hsm
    unfold sH at hsm;have:=eU hsm;omega
   omega
  split
  ·omega
  split<;>omega
 omega
theorem abT{z:Int}(hn:n<=1000)(hz:0<=z/\z<=1000000)(h:mq 2 (1,(n:Int)+1,kd,ky,vl,0)=true):xH (1,(n:Int)+1,kd,ky,vl,z)/\mq 2 (1,(n:Int)+1,kd,ky,vl,z)=true:=by
 unfold mq at h|-;simp only[bX,dQ] at h|-;obtain⟨h1,h2,h3⟩:=h;refine⟨⟨⟨by show(0:Int)<=1;decide,by show(1:Int)<_;decide⟩,⟨by show(0:Int)<=(n:Int)+1;omega,by show(n:Int)+1<_;omega⟩,⟨by show 0<=kd;omega,by show kd<_;omega⟩,⟨by show _<=ky;omega,by show ky<_;omega⟩,⟨by show _<=vl;omega,by show vl<_;omega⟩,⟨hz.1,by show z<_;omega⟩⟩,⟨lK,lK,lK,lK,lK,lK⟩,h2,h3⟩
section
variable{c:Tok.qM}{G H:mF}{N:Nat}{x x':Tok.Cl}{X X':CV}{l l':List (List TM)}{M M':Nat->List LI}{o:Tok.Out}{K':KS}
def mF.more(G:mF)(kd ky vl:Int):mF:=
 let n:=G.nD.length
 let q:Int×List Int:=(100+1,pq (1,(n:Int)+1,kd,ky,vl,0))
 let r:Rq:=(1,(n:Int)+1,kd,ky,vl,num (sealed G.K q) q)
 ⟨G.f,G.nD++ [r],G.res++ [uK (mX G n) r],sealed (sealed G.K q) (100+1,lX (mU 1 r))⟩
theorem Ou(hl:G.res.length=G.nD.length)(kd ky vl:Int):mF.Le G (G.more kd ky vl):=by
 refine⟨rfl,⟨_,rfl⟩,⟨_,rfl⟩,hl,?_⟩;obtain⟨a,ha⟩:=CJ G.K (100+1,pq (1,(G.nD.length:Int)+1,kd,ky,vl,0));obtain⟨b,hb⟩:=CJ (sealed G.K (100+1,pq (1,(G.nD.length:Int)+1,kd,ky,vl,0))) (100+1,lX (mU 1 (1,(G.nD.length:Int)+1,kd,ky,vl,num (sealed G.K (100+1,pq (1,(G.nD.length:Int)+1,kd,ky,vl,0))) (100+1,pq (1,(G.nD.length:Int)+1,kd,ky,vl,0)))));exact⟨a++b,by show sealed (sealed G.K _) _=_;rw[hb,ha,bW]⟩
theorem ad9(hG:sS c G)(hK:G.K.length<=900000)(hn:G.nD.length<100)(hv:mq 2 (1,(G.nD.length:Int)+1,kd,ky,vl,0)=true):sS c (G.more kd ky vl):=by
 obtain⟨n,hnn⟩:=ex G.nD.length;obtain⟨q,hq⟩: ∃q:Int×List Int,q=(100+1,pq (1,(n:Int)+1,kd,ky,vl,0)):=⟨_,rfl⟩;obtain⟨r,hr⟩: ∃r:Rq,r=(1,(n:Int)+1,kd,ky,vl,num (sealed G.K q) q):=⟨_,rfl⟩;have hM:G.more kd ky vl=⟨G.f,G.nD++ [r],G.res++ [uK (mX G n) r],sealed (sealed G.K q) (100+1,lX (mU 1 r))⟩:=by
  rw[hr,hq,hnn];rfl
 have le:=Ou hG.len kd ky vl;rw[hM] at le|-;rw[<-hnn] at hv hn;have nr:=yC (sealed G.K q) q;have sl:=ze G.K q;have rk:=abT (z:=num (sealed G.K q) q) lK ⟨nr.1,lK⟩ hv;rw[<-hr] at rk;have k0:=abT (z:=0) lK ⟨lK,lK⟩ hv;have kl:xC G (sealed (sealed G.K q) (100+1,lX (mU 1 r))):=⟨le.K.choose,le.K.choose_spec⟩;have kl2:xC (G.at (sealed G.K q)) (sealed (sealed G.K q) (100+1,lX (mU 1 r))):=xC.sealed _;have hqm:=kl2.mem (q:=q) (zf G.K q);have hrq:r.1=1/\r.2.1=(n:Int)+1:=by rw[hr];exact⟨rfl,rfl⟩
 have body:pq r=pq (1,(n:Int)+1,kd,ky,vl,0):=by rw[hr];rfl
 have key:((100+r.1,pq r):Int×List Int)=q:=by rw[body,hrq.1,hq]
 have akP:sU (sealed (sealed G.K q) (100+1,lX (mU 1 r))) 2 r:=by
  refine⟨rk.2,rk.1,?_,by rw[key];exact hqm.1,by rw[key,hqm.2,hr],by rw[hrq.1];exact⟨lN,lN⟩⟩;rw[key,hq];refine⟨⟨by show _<=(100+1:Int);decide,by show(100+1:Int)<=_;decide⟩,fun x hx=>DX k0.1 x hx,?_⟩;have:=G6 (1,(n:Int)+1,kd,ky,vl,0);show(oK (1,(n:Int)+1,kd,ky,vl,0)).length<=maxLen;unfold maxLen;omega
 have hnew: ∀t,t=n+1->(⟨G.f,G.nD++ [r],G.res++ [uK (mX G n) r],sealed (sealed G.K q) (100+1,lX (mU 1 r))⟩:mF).rq t=r:=fun t ht=>by
  unfold mF.rq;rw[bE,bN lK,ht];show([r][n+1 -1 -G.nD.length]?).getD rq0=r;rw[show n+1 -1 -G.nD.length=0 by omega];rfl
 have len:(⟨G.f,G.nD++ [r],G.res++ [uK (mX G n) r],sealed (sealed G.K q) (100+1,lX (mU 1 r))⟩:mF).nD.length=n+1:=by show(G.nD++ [r]).length=_;rw[av,<-hnn];rfl
 obtain⟨ls,ll,lc⟩:=Ul G n;have hlast:=hG.last n lK;have okn:Yf (mX G n).2.2 r=true:=by
  unfold Yf hasB;rw[hrq.1,hlast,hrq.2,lc];simp;omega
 have ahm: ∀k,k<=n->mX (⟨G.f,G.nD++ [r],G.res++ [uK (mX G n) r],sealed (sealed G.K q) (100+1,lX (mU 1 r))⟩:mF) k=mX G k:=fun k hk=>Ac le lK;refine⟨hG.f,by show(G.res++ [_]).length=(G.nD++ [r]).length;simp[hG.len],by rw[len];omega,fun t h1 h2=> ?_,fun t h1 h2=> ?_,fun t h1 h2=> ?_,fun k hk=> ?_,fun z hz=> ?_⟩
 ·rw[len] at h2
  by_cases e:t=n+1
  ·rw[hnew t e]
   exact⟨hrq.1,by rw[hrq.2,e];omega,akP⟩
  have h2':t<=G.nD.length:=lK;rw[le.rq h1 h2'];have:=hG.rq t h1 h2';exact⟨this.1,this.2.1,this.2.2.le kl⟩
 ·rw[len] at h2
  rw[ahm (t -1) lK];by_cases e:t=n+1
  ·rw[hnew t e,show t -1=n by omega]
   exact okn
  have h2':t<=G.nD.length:=lK;rw[le.rq h1 h2'];exact hG.ok t h1 h2'
 ·rw[len] at h2
  rw[ahm (t -1) lK];by_cases e:t=n+1
  ·rw[hnew t e,show t -1=n by omega]
   show(G.res++ [uK (mX G n) r]).getD n 0=_;rw[bE,bN (by rw[hG.len];omega),hG.len,show n -G.nD.length=0 by omega];rfl
  have h2':t<=G.nD.length:=lK;rw[le.rq h1 h2',<-hG.rs t h1 h2'];show(G.res++ [_]).getD (t -1) 0=_;rw[Iy (by rw[hG.len];omega)]
 ·rw[len] at hk
  by_cases e:k=n+1
  ·subst e
   have hlu:mX (⟨G.f,G.nD++ [r],G.res++ [uK (mX G n) r],sealed (sealed G.K q) (100+1,lX (mU 1 r))⟩:mF) (n+1)=qg (mX G n) r:=by
    unfold mX qL;show((G.nD++ [r]).take (n+1)).foldl qg _=_;rw[show n+1=(G.nD++ [r]).length by rw[<-len],dP,jR,hnn,dP];rfl
   rw[hlu,qg,aV okn];show lastOf (Aw (mX G n).2.2 r.1 r.2.1 _) 1=_;have g1:OE (mX G n).2.2 r.1 r.2.1=true:=by
    have:=hlast;unfold lastOf at this;have hb:hasB (mX G n).2.2 1=true:=by unfold hasB;rw[lc];decide
    rw[aV hb] at this;unfold OE;rw[hrq.1,hb,this,hrq.2];simp;omega
   unfold Aw;rw[aV g1,hrq.1,hrq.2];unfold lastOf hasB;rw[bG,lc];simp[bE,je,lc]
  rw[ahm k lK];exact hG.last k lK
 rcases aQ.1 hz with hz|hz
 ·exact hG.res z hz
 rw[au] at hz;rw[hz];exact Yu G n r
theorem Mk(hc:vD c)(h:Km c G N x X)(hn:G.nD.length<100)(hv:mq 2 (1,(G.nD.length:Int)+1,kd,ky,vl,0)=true)(hp:Tok.issue c x=some x'):
  ∃X',Zp c.n kd ky vl X X'/\Km c (G.more kd ky vl) N x' X':=by
 have hKl:=h.Kl;unfold Tok.issue Tok.aaU at hp;simp only at hp
 cases hw:x.ck.waits with
 |true=>rw[hw] at hp;cases hp
 |false=>
  rw[hw] at hp
  cases hroom:Tok.room x.sent (Tok.sendAll c.n 1000 (.req (x.ck.issued+1)) c.n) with
  |false=>rw[hroom] at hp;cases hp
  |true=>
   rw[hroom] at hp;simp only at hp;obtain⟨r1,r2⟩:=G8 hroom
   cases hq:Tok.wY c.n (c.n+1) (Tok.sendAll c.n 1000 (.req (x.ck.issued+1)) c.n) x.links with
   |none=>rw[hq] at hp;cases hp
   |some lk'=>
    rw[hq] at hp;simp only[aD] at hp;subst hp;have Ke:G.K.length<=900000:=lK;have hG':=ad9 h.g Ke hn hv;have le:=Ou h.g.len kd ky vl;have hc4:=hc.f4;have hcn:=hc.n;have hcf:=hc.f1;have yK:=h.ck.yK;have e:=CO c.n 1000 (.req (x.ck.issued+1)) c.n;have hfil:(List.range c.n).filter (fun i=>decide (i≠1000))=List.range c.n:=by
     rw[List.filter_eq_self];intro a ha;have:=fE.1 ha;exact aZ lK
    rw[hfil] at e;obtain⟨n,hnn⟩:=ex G.nD.length;obtain⟨q,hqq⟩: ∃q:Int×List Int,q=(100+1,pq (1,(n:Int)+1,kd,ky,vl,0)):=⟨_,rfl⟩;obtain⟨r,hr⟩: ∃r:Rq,r=(1,(n:Int)+1,kd,ky,vl,num (sealed G.K q) q):=⟨_,rfl⟩;have hM:G.more kd ky vl=⟨G.f,G.nD++ [r],G.res++ [uK (mX G n) r],sealed (sealed G.K q) (100+1,lX (mU 1 r))⟩:=by
     rw[hr,hqq,hnn];rfl
    rw[hM] at hG' le|-;have afx:(⟨G.f,G.nD++ [r],G.res++ [uK (mX G n) r],sealed (sealed G.K q) (100+1,lX (mU 1 r))⟩:mF).nD.length=n+1:=by show(G.nD++ [r]).length=_;rw[av,<-hnn];rfl
    have hrq:(⟨G.f,G.nD++ [r],G.res++ [uK (mX G n) r],sealed (sealed G.K q) (100+1,lX (mU 1 r))⟩:mF).rq (x.ck.issued+1)=r:=by
     unfold mF.rq;rw[bE,fF,bN lK];show([r][x.ck.issued -G.nD.length]?).getD rq0=r;rw[show x.ck.issued -G.nD.length=0 by omega];rfl
    have hms:(⟨G.f,G.nD++ [r],G.res++ [uK (mX G n) r],sealed (sealed G.K q) (100+1,lX (mU 1 r))⟩:mF).ms (.req (x.ck.issued+1))=mU 1 r:=by
     show(⟨1,101,0,0,0,0,[_],[],[]⟩:Ms)=_;rw[hrq];rfl
    have hkey:(⟨G.f,G.nD++ [r],G.res++ [uK (mX G n) r],sealed (sealed G.K q) (100+1,lX (mU 1 r))⟩:mF).key (.req (x.ck.issued+1))=(100+1,lX (mU 1 r)):=by
     unfold mF.key;rw[hms];rfl
    have aaK:vH c (⟨G.f,G.nD++ [r],G.res++ [uK (mX G n) r],sealed (sealed G.K q) (100+1,lX (mU 1 r))⟩:mF) (.req (x.ck.issued+1)):=⟨⟨lK,by rw[afx];omega⟩,by show _∈_;rw[hkey];exact zf _ _⟩;have sl1:=ze G.K q;have sl2:=ze (sealed G.K q) (100+1,lX (mU 1 r));have lo:(Tok.sendAll c.n 1000 (.req (x.ck.issued+1)) c.n).length=c.n:=by rw[e];simp
    have aj6:(sealed (sealed G.K q) (100+1,lX (mU 1 r))).length<=x.sent+Tok.len (Tok.sendAll c.n 1000 (.req (x.ck.issued+1)) c.n)+1:=by
     rw[pQ,lo];omega
    obtain⟨M',e1,L1⟩:=JA hc hG' (by show(sealed (sealed G.K q) _).length<=_;rw[pQ,lo] at aj6;omega) (src:=c.n+1) lK _ x.links lk' X.M (h.lk.grow le) (fun p hp=>by
     rw[e] at hp;obtain⟨a,_,rfl⟩:=bM.1 hp;exact aaK) hq
    have hbytes:(⟨G.f,G.nD++ [r],G.res++ [uK (mX G n) r],sealed (sealed G.K q) (100+1,lX (mU 1 r))⟩:mF).bytes (.req (x.ck.issued+1))=mD (num (sealed (sealed G.K q) (100+1,lX (mU 1 r))) (100+1,lX (mU 1 r))).toNat++lX (mU 1 r):=by
     unfold mF.bytes;rw[hkey,hms]
    have hout:(⟨G.f,G.nD++ [r],G.res++ [uK (mX G n) r],sealed (sealed G.K q) (100+1,lX (mU 1 r))⟩:mF).yX c.n (Tok.sendAll c.n 1000 (.req (x.ck.issued+1)) c.n)=(List.range c.n).map fun i:Nat=>((i:Int),mD (num (sealed (sealed G.K q) (100+1,lX (mU 1 r))) (100+1,lX (mU 1 r))).toNat++lX (mU 1 r)):=by
     unfold mF.yX;rw[e,gu];refine dX fun i hi=> ?_;show(zI c.n i,mF.bytes _ _)=_;rw[hbytes,zI,aV (fE.1 hi)]
    rw[hout,show zI c.n (c.n+1)=101 by unfold zI;rw[aU lK];omega] at e1;have hil:X.ck.il.length=n:=by rw[h.ck.il,hnn]
    rw[<-hnn] at hv hn;have k0:=abT (z:=0) lK ⟨lK,lK⟩ hv;have hacc:=h.ck.acc;rw[aU (by rw[hw];decide)] at hacc;refine⟨{X with K:=sealed (sealed X.K q) (100+1,lX (mU 1 r)),ck:={X.ck with waits:=true,il:=X.ck.il++ [r],at_:=X.ck.now,al:= []},M:=M'},⟨r,q,(100+1,lX (mU 1 r)),mD (num (sealed (sealed G.K q) (100+1,lX (mU 1 r))) (100+1,lX (mU 1 r))).toNat++lX (mU 1 r),M',?_,e1,rfl⟩,?_⟩
    ·refine⟨by rw[h.ck.waits,hw],by rw[hil];omega,by rw[h.K];omega,by rw[hil];exact hv,by rw[hil];exact k0.1,by rw[hil];exact hqq,?_,by rw[hil,h.K];exact hr,rfl,by rw[h.K]⟩
     rw[hqq];refine⟨⟨by show _<=(100+1:Int);decide,by show(100+1:Int)<=_;decide⟩,fun x hx=>DX k0.1 x hx,?_⟩;have:=G6 (1,(n:Int)+1,kd,ky,vl,0);show(oK (1,(n:Int)+1,kd,ky,vl,0)).length<=maxLen;unfold maxLen;omega
    refine⟨hG',by show sealed (sealed X.K q) _=_;rw[h.K],aj6,by show x.sent+Tok.len _+1<=600000;rw[pQ];omega,h.nl,h.nl',h.no,fun i s hi=> ?_,?_,h.t0,L1⟩
    ·obtain⟨v,h1,h2,h3⟩:=h.nd i s hi
     exact⟨v,h1,h2.grow le,h3⟩
    have Ag:=h.ck.Ag;refine⟨rfl,by show X.ck.il++ [r]=G.nD++ [r];rw[h.ck.il],by rw[afx];show x.ck.issued+1=n+1;omega,h.ck.now,h.ck.now,h.ck.Ag,aF _,fun _=>rfl,fun _=>bF _,?_,by show(if true=true then _ else _);rw[aV rfl];show x.ck.acc+1=x.ck.issued+1;omega,by show 0<=200;omega⟩;show X.ck.el=((G.nD++ [r]).zip (G.res++ [uK (mX G n) r])).take x.ck.acc;rw[h.ck.el,List.zip_append (by rw[h.g.len]),jy (by rw[gW,h.g.len];omega)]
theorem QD{f n:Nat}(hcf:c=Tok.cfg f)(hc:vD c){l:LI}(hI:Hw f c.n l X)(bad:Nat->Bool)(hb: ∀i,i<c.n->(bad i=true↔(i:Int)∈l)):Km c ⟨c.f,[],[],[]⟩ 0 (Tok.cl0 c bad) X:=by
 have ff:c.f=f:=by rw[hcf];rfl
 have IG:(Tok.cl0 c bad).nodes=(List.range c.n).map fun i=>if bad i then none else some (Tok.nd0 c):=rfl;refine⟨⟨rfl,rfl,bF _,fun t h1 h2=> ?_,fun t h1 h2=> ?_,fun t h1 h2=> ?_,fun k hk=> ?_,fun z hz=>by cases hz⟩,hI.K,aF _,by show 0<=600000;omega,by rw[IG];simp,hI.len,fun i hi=> ?_,fun i s hi=> ?_,?_,by rw[hI.t0];rfl,?_⟩
 ·exact absurd (aG h1 h2) (by show ¬1<=0;omega)
 ·exact absurd (aG h1 h2) (by show ¬1<=0;omega)
 ·exact absurd (aG h1 h2) (by show ¬1<=0;omega)
 ·obtain rfl:k=0:=Nat.le_zero.1 hk
  rfl
 ·have hil:i<c.n:=by
   have:=(ah.1 hi).1;rw[IG] at this;simpa using this
  rw[IG,aS,List.getElem?_range hil] at hi;have hbad:bad i=true:=by
   cases hbi:bad i with
   |true=>rfl
   |false=>rw[Option.map_some,hbi] at hi;cases hi
  have:=hI.nodes i hil;rw[aV ((hb i hil).1 hbad)] at this;exact this
 ·have hil:i<c.n:=by
   have:=(ah.1 hi).1;rw[IG] at this;simpa using this
  rw[IG,aS,List.getElem?_range hil] at hi;have hbad: ¬bad i=true:=fun hbi=>by rw[Option.map_some,hbi] at hi;cases hi
  rw[Option.map_some,aU hbad] at hi;injection hi with hi;injection hi with hi;subst hi;have:=hI.nodes i hil;rw[aU (fun e=>hbad ((hb i hil).2 e))] at this;obtain⟨v,hv,I⟩:=this;refine⟨v,hv,?_,I.out⟩;have il:v.is.length=c.f+1:=by have:=I.il;rw[ff];omega
  have hf4:=hc.f4;exact{
   now:=I.now
   Ag:=bF _
   il:=by show(Tok.tH (c.f+1) _).length=_;rw[qH];simp
   vl:=il
   at_:=fun k ins hk=>by
    replace hk:(Tok.tH (c.f+1) (Tok.tH 16 (Tok.sl0 c.n)))[k]?=some ins:=hk;rw[qH,qH,dI] at hk;split at hk
    ·rename_i hkl
     injection hk with hk;subst hk;obtain⟨i1,i2,i3⟩:=I.is _ (bY (show k<v.is.length by omega));refine⟨v.is[k],aj _,i1,i2,lT,by rw[i3];simp,fun j s hj=> ?_⟩;rw[dI] at hj;split at hj
     ·rename_i hjl
      injection hj with hj;subst hj;have vn: ∀(kind:Int) (m i:Nat),mF.zL ⟨c.f,[],[],[]⟩ kind k (j+1) (List.replicate m none) i=List.replicate m none:=fun kind m=>by
       induction m with
       |zero=>intro i;rfl
       |succ m ih=>intro i;rw[List.replicate_succ,mF.zL,ih,<-List.replicate_succ]
      refine⟨QW c.n,by rw[i3,dI,aV hjl],⟨rfl,rfl,?_,?_,rfl,rfl⟩,⟨⟨fun t ht=>(by cases ht),bF _,iE⟩,by show(Tok.tH c.n none).length=_;rw[qH];simp,by show(Tok.tH c.n none).length=_;rw[qH];simp,fun a b ha=> ?_,fun a b ha=> ?_,fun b v hd=>(by cases hd)⟩⟩
      ·show List.replicate c.n none=mF.zL _ 4 k (j+1) (Tok.tH c.n none) 0
       rw[qH,vn]
      ·show List.replicate c.n none=mF.zL _ 5 k (j+1) (Tok.tH c.n none) 0
       rw[qH,vn]
      ·replace ha:(Tok.tH c.n none)[a]?=some (some b):=ha
       rw[qH,dI] at ha;split at ha<;>cases ha
      replace ha:(Tok.tH c.n none)[a]?=some (some b):=ha;rw[qH,dI] at ha;split at ha<;>cases ha
     cases hj
    cases hk
   tab:=by rw[I.T];exact uq.nil
   Fh:=bF _
   ES:=aF _
   es:=I.es
   st:=I.st
   ct:=I.ct
   ga:=by
    show v.ga=(Tok.tH (c.f+1) (0,0)).map _;rw[I.ga,il,qH];simp
   gal:=by show(Tok.tH (c.f+1) _).length=_;rw[qH];simp
   gaB:=fun p hp=>by
    replace hp:p∈Tok.tH (c.f+1) (0,0):=hp;rw[qH] at hp;rw[dO hp];exact⟨bF _,bF _⟩
   run:=I.run
   BN:=bF _
   view:=I.view
   vk:=by rw[I.vk];decide
   since:=by rw[I.since];decide
   start:=I.start
   JM:=aF _
   stop:=I.stop
   cnt:=by rw[I.c0,I.c2];decide
   vZ:=by rw[I.vZ,il]
   nN:=fun k hk=>⟨List.replicate 17 0,by rw[I.nN,il,dI,aV lK],lT⟩
   nG:=fun k hk=>⟨List.replicate 17 0,by rw[I.nG,il,dI,aV lK],lT⟩
   QZ:=by rw[I.nN,il];simp
   Qg:=by rw[I.nG,il];simp
   V13:=by rw[I.V];have:=hc.n;omega
   xU:=⟨c.n,I.xU,by have:=hc.n;omega⟩
   Yj:=I.Yj}
 ·rw[hI.ck]
  exact⟨rfl,rfl,rfl,rfl,rfl,bF _,aF _,fun e=>(by cases e),fun e=>(by cases e),rfl,by show(if false=true then _ else _);rw[aU lN];rfl,by show 0<=200;omega⟩
 refine⟨by show(Tok.tH _ _).length=_;rw[qH];simp,fun k ms hk=> ?_,fun k ms hk m hm=> ?_⟩
 ·replace hk:(Tok.tH ((c.n+2)*(c.n+2)) ([]:List TM))[k]?=some ms:=hk
  rw[qH,dI] at hk;split at hk
  ·injection hk with hk
   subst hk;exact hI.M k
  cases hk
 replace hk:(Tok.tH ((c.n+2)*(c.n+2)) ([]:List TM))[k]?=some ms:=hk;rw[qH,dI] at hk;split at hk
 ·injection hk with hk
  subst hk;cases hm
 cases hk
end
end
section
open Tok (TM)
theorem aae:vD (Tok.cfg 1):=⟨lN,lN,lN,lN⟩
theorem aog:vD (Tok.cfg 2):=⟨lN,lN,lN,lN⟩
section
variable{c:Tok.qM}{G H:mF}{N:Nat}{x x':Tok.Cl}{X X':CV}
theorem Ol(hG:sS c G): ∀k,k<=G.nD.length->(mX G k).1=(G.nD.zip G.res).take k
 |0,_=>rfl
 |k+1,hk=>by
  have hl:=hG.len;have h1:k<G.nD.length:=lK;have h2:k<G.res.length:=lK;rw[Dv hG (t:=k+1) lK hk,fF];show(mX G k).1++_=_;rw[Ol hG k lK,fM,aj (show k<(G.nD.zip G.res).length by rw[gW];omega),List.getElem_zip];unfold mF.rq;rw[bE,bE,fF,aj h1,aj h2];rfl
theorem ZR(m:Nat): ∀x∈agI m,x.oneCell'=true:=by
 intro x hx;obtain⟨l,h1,h2⟩:=List.mem_flatten.1 hx;rw[dO h1] at h2;simp only[ay,aI,bK] at h2;rcases h2 with rfl|rfl|rfl|rfl|rfl|rfl|rfl|rfl|rfl|rfl|rfl<;>rfl
theorem tO.fit(hc:vD c)(hG:sS c G){s:Tok.Nd}(h:tO c G N s v)(ho:v.out= []):Vf v:=by
 have hf:=hc.f4;have hf1:=hc.f1;have few:=hG.few;have vl:=h.vl;refine⟨lK,by rw[h.QZ,vl],by rw[h.Qg,vl],fun l hl=> ?_,fun l hl=> ?_,?_,h.V13,?_,?_,by rw[ho];exact bF _,h.xU,⟨c.f+1,by rw[h.vZ];simp[agI],lK⟩,h.Yj,fun x hx=> ?_⟩
 ·obtain⟨k,hk,rfl⟩:=kX.1 hl
  obtain⟨l',e1,e2⟩:=h.nN k (tL h.QZ);rw[aj hk] at e1;injection e1 with e1;rw[e1,e2]
  decide
 ·obtain⟨k,hk,rfl⟩:=kX.1 hl
  obtain⟨l',e1,e2⟩:=h.nG k (tL h.Qg);rw[aj hk] at e1;injection e1 with e1;rw[e1,e2]
  decide
 ·rw[<-h.tab.len]
  have:=h.Fh;omega
 ·rw[h.es,Ol hG s.led h.ES,cO,gW]
  omega
 ·rw[h.ga,aT,h.gal]
  omega
 rw[h.vZ] at hx;exact ZR _ x hx
theorem MS(hc:vD c)(h:Km c G N x X)(hN:N+1900<=900000)(ha:Tok.uN c m x=true):
  X.ck.waits=false/\X.ck.il=G.nD/\X.ck.el=G.nD.zip G.res/\X.ck.al.length<=200/\ ∃X',zP c.f c.n X X'/\ ∀i,i<c.n-> ∃v,X'.nodes[i]?=some (some v)/\v.es=G.nD.zip G.res/\Vf v:=by
 have hl:=h.g.len;rw[Tok.uN.eq_def] at ha;simp only[bX] at ha;obtain⟨⟨ha,hacc⟩,-⟩:=ha;have hacc:=bO hacc;have yK:=h.ck.yK;have hw:x.ck.waits=false:=by
  cases e:x.ck.waits with
  |false=>rfl
  |true=>
   have:=h.ck.acc;rw[e,aV rfl] at this;omega
 refine⟨by rw[h.ck.waits,hw],h.ck.il,by rw[h.ck.el,dB (by rw[gW];omega)],h.ck.alB,?_⟩
 cases hr:Tok.round c x with
 |none=>rw[hr] at ha;cases ha
 |some y=>
  rw[hr] at ha;simp only[jk] at ha;obtain⟨K',X',h1,h2,h3⟩:=yF hc h hN hr;refine⟨X',h1,fun i hi=> ?_⟩;have hi':i<y.nodes.length:=by rw[h3.nl];exact hi
  have hy:=aj hi';have hb:=ha _ (bY hi')
  cases e:y.nodes[i] with
  |none=>rw[e] at hb;cases hb
  |some nd=>
   rw[e] at hb hy;have hb:=bO hb;obtain⟨v,v1,v2,v3⟩:=h3.nd i nd hy;have hg3:=h3.g;refine⟨v,v1,?_,v2.fit hc hg3 v3⟩;rw[v2.es,Ol hg3 nd.led v2.ES];show(G.nD.zip G.res).take nd.led=_;rw[dB (by rw[gW];omega)]
theorem ab9(hc:vD c)(h:Km c G N x X)(hN:N+3800<=900000)(hn:G.nD.length<100)(ha:Tok.uN c (m+1) x=true)(hv:mq 2 (1,(G.nD.length:Int)+1,kd,ky,vl,0)=true):
  ∃X1 X2 X3 G3 x3,Zp c.n kd ky vl X X1/\zP c.f c.n X1 X2/\zP c.f c.n X2 X3/\Km c G3 (N+3800) x3 X3/\Tok.uN c m x3=true/\G3.nD.length=G.nD.length+1/\G3.res=G.res++ [Pw (mX G G.nD.length).2.1 kd ky vl]/\(mX G3 G3.nD.length).2.1=yD (mX G G.nD.length).2.1 kd ky vl:=by
 have hl:=h.g.len;rw[Tok.uN.eq_def] at ha;simp only[bX] at ha;obtain⟨-,ha⟩:=ha
 cases hi:Tok.issue c x with
 |none=>rw[hi] at ha;cases ha
 |some x1=>
  rw[hi] at ha;simp only at ha
  cases h1:Tok.round c x1 with
  |none=>rw[h1] at ha;cases ha
  |some x2=>
   rw[h1] at ha;simp only at ha
   cases h2:Tok.round c x2 with
   |none=>rw[h2] at ha;cases ha
   |some x3=>
    rw[h2] at ha;simp only at ha;obtain⟨X1,i1,i2⟩:=Mk hc h hn hv hi;obtain⟨K2,X2,r1,r2,r3⟩:=yF hc i2 lK h1;obtain⟨K3,X3,s1,s2,s3⟩:=yF hc r3 lK h2;have akY:(G.more kd ky vl).nD.length=G.nD.length+1:=by
     show(G.nD++ [_]).length=_;rw[av];rfl
    have ape:(G.more kd ky vl).res=G.res++ [Pw (mX G G.nD.length).2.1 kd ky vl]:=rfl;refine⟨X1,X2,X3,_,x3,i1,r1,s1,s3,ha,akY,ape,?_⟩;show(mX (G.more kd ky vl) (G.more kd ky vl).nD.length).2.1=_;rw[Dv i2.g (t:=(G.more kd ky vl).nD.length) lK (aF _),akY,fF,Ac (Ou hl kd ky vl) (aF _)];have hq:(G.more kd ky vl).rq (G.nD.length+1)=(1,(G.nD.length:Int)+1,kd,ky,vl,num (sealed G.K (100+1,pq (1,(G.nD.length:Int)+1,kd,ky,vl,0))) (100+1,pq (1,(G.nD.length:Int)+1,kd,ky,vl,0))):=by
     unfold mF.rq;rw[bE,fF];show((G.nD++ [_])[G.nD.length]?).getD rq0=_;rw[bN (aF _),fJ];rfl
    rw[hq]
theorem YL(hk:Tok.wakes=true)(hI:Hw 1 4 [3] X): ∃X1 X2 X3,Zp 4 1 2 7 X X1/\zP 1 4 X1 X2/\zP 1 4 X2 X3/\X3.ck.il.length<=4096/\X3.ck.al.length<=4096/\X3.ck.el.length=1:=by
 have h0:Km (Tok.cfg 1) ⟨(1:Nat),[],[],[]⟩ 0 (Tok.cl0 (Tok.cfg 1) fun i=>Nat.beq i 3) X:=QD (n:=0) (c:=Tok.cfg 1) rfl aae hI _ fun i hi=>by
  constructor
  ·intro e
   rw[bO e];simp
  intro e;simp only[au] at e;rw[show i=3 by omega];rfl
 unfold Tok.wakes at hk;rw[Tok.play.eq_def] at hk;simp only at hk
 cases hi:Tok.issue (Tok.cfg 1) (Tok.cl0 (Tok.cfg 1) fun i=>Nat.beq i 3) with
 |none=>rw[hi] at hk;cases hk
 |some x1=>
  rw[hi] at hk;simp only at hk
  cases h1:Tok.round (Tok.cfg 1) x1 with
  |none=>rw[h1] at hk;cases hk
  |some x2=>
   rw[h1] at hk;simp only at hk
   cases h2:Tok.round (Tok.cfg 1) x2 with
   |none=>rw[h2] at hk;cases hk
   |some x3=>
    rw[h2] at hk;simp only at hk;split at hk
    rotate_left
    ·cases hk
    rename_i y hy;split at hy
    rotate_left
    ·cases hy
    rw[Tok.play.eq_def] at hy;simp only[aD] at hy;subst hy;have hacc:=bO hk;obtain⟨X1,i1,i2⟩:=Mk aae h0 lN (kd:=1) (ky:=2) (vl:=7) lN hi;obtain⟨K2,X2,r1,r2,r3⟩:=yF aae i2 lK h1;obtain⟨K3,X3,s1,s2,s3⟩:=yF aae r3 lK h2;refine⟨X1,X2,X3,i1,r1,s1,?_,?_,?_⟩
    ·rw[s3.ck.il]
     show 1<=4096;omega
    ·have:=s3.ck.alB
     omega
    rw[s3.ck.el,hacc];rfl
end
end
theorem an7:Zg 1 [3]:=⟨lT,lT,lT⟩
theorem UM(hk:Tok.wakes=true)(w:World):Y 22 #[] w fun e w'=>e= .returned true/\Be w w':=by
 have HK:=jj hk;clear hk;go_enter func22,ntmps22
 go_wp2_with fail
 refine(qM.FV 1 _).mono ?_;rintro e w1 ⟨rfl,hb1⟩;have B1:=jj (hb1.alloc hb1.size (.cells #[U 3] 3));have Z1:=jj hb1.size;clear hb1
 go_wp2_with fail
 refine(aac _ 1 lN lN 4 lN _ 1 1 [3] rfl lN (mo.nR (n:=1) (s:=1) (lQ.new w1 3 #[U 3]) rfl) an7).mono ?_;rintro e w2 ⟨gc,X,F,rfl,hC,hI,hF,hb2⟩;have C2:=jj hC;have I2:=jj hI;have F2:Hid (∀k∈F,w.heap.size<=k):=jj fun k hk=>by have:=hF k hk;have:=B1.size;omega
 have B2:=nO B1 hb2;clear hC hI hF hb2 B1 Z1;obtain⟨X1,X2,X3,i1,i2,i3,i4,i5,i6⟩:=YL HK I2;obtain⟨J1,J2,J3⟩:=j3 i1 i2 i3;have J4:Hid (X3.ck.il.length<=4096/\X3.ck.al.length<=4096/\X3.ck.el.length<=4096):=jj ⟨i4,i5,lK⟩;have J5:=jj i6;clear i1 i2 i3 i4 i5 i6 I2 HK
 go_wp2_with fail
 refine(Qe C2 1 2 7 J1).mono ?_;rintro e w3 ⟨F',rfl,hC,ho,hf⟩;have C3:=jj hC;have B3:=jj (ho.below B2 B2.size F2);have F3:Hid (∀k∈F',w.heap.size<=k):=jj fun k hk=>(hf k hk).elim (F2.out k) fun h=>aG B2.size h;clear hC ho hf C2 F2 B2 J1
 go_wp2_with fail
 refine(zS C3 J2 2000 lN).mono ?_;rintro e w4 ⟨z,F4',rfl,hC,ho,hf⟩;have C4:=jj hC;have B4:=jj (ho.below B3 B3.size F3);have F4:Hid (∀k∈F4',w.heap.size<=k):=jj fun k hk=>(hf k hk).elim (F3.out k) fun h=>aG B3.size h;clear hC ho hf C3 F3 B3 J2
 go_wp2_with fail
 refine(zS C4 J3 2000 lN).mono ?_;rintro e w5 ⟨z,F5',rfl,hC,ho,hf⟩;have C5:=jj hC;have B5:=jj (ho.below B4 B4.size F4);clear hC ho hf C4 F4 B4 J3
 go_wp2_with fail
 refine(Lm C5 J4).mono ?_;rintro e w6 ⟨q,rfl,⟨cs,ia,ic,ea,ec,h1,h2,h3,h4,h5⟩,hb⟩;have B6:=nO B5 hb;obtain⟨H1,H4,H5⟩:=j3 h1 h4 h5;have E5:=J5.out;clear h1 h2 h3 h4 h5 hb B5 C5
 go_wp2_with fail
 refine(Aa _ _ _ H1 _ _ _ _ H4 H5 J4.2.2).mono ?_;rintro e w7 ⟨⟨a',c',rfl,ho⟩,hb⟩;rw[E5];have B7:=nO B6 hb;clear ho hb
 go_wp2_with fail
 go_ret;exact⟨rfl,B7⟩
namespace TopAlone
open Go
theorem Ri:(Rows.topAloneRow.inPlace==Tryz.pinned.checked.prog.inPlace 3)=true:=by kernel_rfl
theorem Yp:(Rows.topAloneRow.unfollowed==Tryz.pinned.checked.prog.unfollowed 3)=true:=by kernel_rfl
theorem Yo:(Rows.topAloneRow.recurses==Tryz.pinned.checked.prog.recurses 3)=true:=by kernel_rfl
theorem UA:(Rows.topAloneRow.named==Tryz.pinned.checked.prog.varsNamed 3)=true:=by kernel_rfl
theorem joined:joinedFacts Tryz.pinned.checked.prog 3 Tryz.f3 Rows.topAloneSpec Rows.topAloneRow=true:=by
 unfold joinedFacts
 iterate 19 (refine iq.2 ⟨?_,by kernel_rfl⟩)
 refine iq.2 ⟨?_,UA⟩;refine iq.2 ⟨?_,Yo⟩;refine iq.2 ⟨?_,Yp⟩;refine iq.2 ⟨?_,Ri⟩
 kernel_rfl
end TopAlone
namespace Tok
theorem UQ:wakes=true:=by decide+kernel
theorem aj2:uN (cfg 1) 8 (cl0 (cfg 1) fun _=>false)=true:=by decide+kernel
end Tok
namespace Tok
theorem aj3:uN (cfg 2) 8 (cl0 (cfg 2) fun _=>false)=true:=by decide+kernel
end Tok
def wZ(st:List (Bool×Int)):List Value:=(st.map fun c=> U c.2)++(st.map fun c=> .bool c.1)
theorem Uz(st:List (Bool×Int))(hl:st.length=64)(k:Nat)(hk:k<64)(b:Bool)(v:Int):((wZ st).set k (U v)).set (64+k) b=wZ (st.set k (b,v)):=by
 unfold wZ;rw[jw _ _ (by rw[aT,hl];exact hk),iD _ _ (by rw[bG,aT,hl];omega),bG,aT,hl,fG,eT,eT]
structure oN(w:World)(gr:Nat)(st:List (Bool×Int)):Prop where
 b:lQ w gr 34 (wZ st).toArray
 n:st.length=64
section
variable{w w':World}{gr:Nat}{st:List (Bool×Int)}{S:LN}
theorem oN.lt(h:oN w gr st):gr<w.heap.size:=h.b.lt
theorem oN.only(h:oN w gr st)(ho:Only S w w')(hn:gr∉S):oN w' gr st:=⟨h.b.only ho hn,h.n⟩
theorem oN.below(h:oN w gr st)(hb:Be w w'):oN w' gr st:=⟨h.b.below hb h.b.lt,h.n⟩
theorem oN.drew(h:oN w gr st):oN w.drew gr st:=⟨h.b,h.n⟩
theorem oN.drewN(h:oN w gr st)(n:Nat):oN (w.drewN n) gr st:=⟨h.b,h.n⟩
theorem oN.val(h:oN w gr st)(k:Nat)(hk:k<st.length):J w gr k (.int .i64 st[k].2):=
 (h.b.cell k).trans (by rw[cZ,wZ,bC (mR hk),aS,aj hk];rfl)
theorem oN.has(h:oN w gr st)(k:Nat)(hk:k<st.length):J w gr (64+k) (.bool st[k].1):=
 (h.b.cell (64+k)).trans (by rw[cZ,wZ,bN (by rw[aT,h.n];omega),aT,h.n,fG,aS,aj hk];rfl)
theorem oN.set(h:oN w gr st)(hk:k<64)(b:Bool)(v:Int):oN ((w.setCell ⟨gr,k,none⟩ (U v)).setCell ⟨gr,64+k,none⟩ b) gr (st.set k (b,v)):=by
 refine⟨?_,by rw[bG];exact h.n⟩;have e:=(h.b.mg k (U v)).mg (64+k) b;rw[<-Uz st h.n k hk b v];simpa only[jJ] using e
end
theorem alb(w:World):(zeroValue 34).run prog w= .ok (.agg (wZ st0).toArray) w:=by kernel_rfl
theorem Ym(gr:Nat)(st:List (Bool×Int))(kind key val:Int)(w:World)(h:oN w gr st)(hk:qX kind)(h2:qX key)(h3:qX val)(hb:Pv key val=false):
  Y 12 #[gr,.agg #[U kind,U key,U val]] w fun e w'=>e= .returned (U 0)/\Be w w':=by
 have hcase:key<0\/(¬key<0/\64<=key)\/(¬key<0/\ ¬64<=key/\val<= -2147483648)\/(¬key<0/\ ¬64<=key/\ ¬val<= -2147483648/\2147483648<=val):=by
  unfold Pv at hb;by_cases hk:0<=key/\key<64
  ·rw[aZ hk,iw] at hb
   have:=iR hb;omega
  omega
 clear hb h;rcases hcase with h1|⟨h1,h2⟩|⟨h1,h2,h4⟩|⟨h1,h2,h4,h5⟩
 all_goals
  go_enter func12,ntmps12
  go_wp2
  go_ret;exact⟨rfl,nC⟩
theorem Uy(gr:Nat)(st:List (Bool×Int))(kind val:Int)(n:Nat)(w:World)(h:oN w gr st)(hsm:oQ st)(hk:qX kind)(h3:qX val)(hn:n<64)(hv:sH val=true):
  Y 12 #[gr,.agg #[U kind,U n,U val]] w fun e w'=>e= .returned (U (Pw st kind n val))/\oN w' gr (yD st kind n val)/\Only [gr] w w':=by
 have H:=jj h;have hlt:n<st.length:=by rw[h.n];exact hn
 have hval:valOf st n=st[n].2:=by simp[valOf,List.getD,hlt]
 have hbd:=hsm.get n;have hvb:=eU hv;have hgs:=h.lt;have Dm:Pv n val=true:=by
  unfold Pv;rw[hv,jU];exact aZ ⟨lK,lK⟩
 obtain⟨T,hT⟩:=ex (valOf st n);rw[<-hT] at hbd hval;have hR:Pw st kind n val=if kind=1 then T else if kind=2 then T else if kind=3 then(if sH (T+val) then T+val else T) else if kind=4 then T else if kind=5 then uj st else 0:=by
  unfold Pw;rw[aV Dm,hT]
 have hS:yD st kind n val=if kind=1 then st.set n (true,val) else if kind=3 then(if sH (T+val) then st.set n (true,T+val) else st) else if kind=4 then st.set n (false,0) else st:=by
  unfold yD;rw[aV Dm,hT];rfl
 obtain⟨HR,HS,HT,Ko⟩:=j4 hR hS hT hval;have i0:(0:Int)<=n:=lK;have i1:(n:Int)<64:=lK;have g1: ¬val<= -2147483648:=lK;have g2: ¬2147483648<=val:=lK;have HSM:=jj hsm;clear h hv hT hval Dm hR hS hsm;go_enter func12,ntmps12
 go_wp2_with fail
 generalize hw1:w.alloc _=w1;generalize hga:w.heap.size=ga;replace hw1:=hw1.symm;replace hga:=hga.symm;have hA:lQ w1 ga 38 #[U kind,U n,U val]:=by rw[hw1,hga];exact lQ.new _ _ _
 have hb1:=(tQ hw1).out;have H1:=jj (H.below hb1);obtain⟨a0,a1,a2⟩:=hA.a3;have o1:=jj (Only.of_below (S:= [gr]) hb1);have t0:=H1.val n hlt;rw[<-Ko.out] at t0;have hgg:ga≠gr:=by rw[hga];omega
 clear hw1 hga hA hb1
 go_quiet(fail)
 have H2:=jj (H1.drewN nq);have o2:=jj (o1.drewN nq);have b0:(w1.drewN nq).cell? ⟨ga,0,none⟩=_:=a0;have b1:(w1.drewN nq).cell? ⟨ga,1,none⟩=_:=a1;have b2:(w1.drewN nq).cell? ⟨ga,2,none⟩=_:=a2;clear a0 a1 a2 H1 o1 t0;generalize w1.drewN nq=w2 at H2 o2 b0 b1 b2|-;have t1:=H2.val n hlt;rw[<-Ko.out] at t1;have t2:=H2.has n hlt;have f0:=H2.b.frozen n;have f1:=H2.b.frozen (64+n);rcases(show kind=1\/kind=2\/kind=3\/kind=4\/kind=5\/(kind≠1/\kind≠2/\kind≠3/\kind≠4/\kind≠5) by omega) with rfl|rfl|rfl|rfl|rfl|⟨k1,k2,k3,k4,k5⟩
 ·have HR':=jj (HR.trans (aV rfl))
  have Fx:=jj (HS.trans (aV rfl));clear HR HS
  go_wp2_with fail
  go_region_held3 (fun w'=>J w' ga 1 (U n)/\J w' ga 2 (U val)) (first|exact⟨nL b1 hgg,nL b2 hgg⟩|exact⟨nL (nL b1 hgg) hgg,nL (nL b2 hgg) hgg⟩|go_keep) (fail)
  go_wp2
  go_ret;exact⟨by rw[HR'.out];rfl,by rw[Fx.out];exact(H2.set hn true val).drew,((o2.setCell (.inl lT) _).setCell (.inl lT) _).drew⟩
 ·have HR':=jj (HR.trans ((aU lN).trans (aV rfl)))
  have Fx:=jj (HS.trans ((aU lN).trans ((aU lN).trans (aU lN))));clear HR HS
  go_wp2
  go_ret;exact⟨by rw[HR'.out];rfl,by rw[Fx.out];exact H2.out,o2⟩
 ·have hR':=HR.trans ((aU lN).trans ((aU lN).trans (aV rfl)))
  have hS':=HS.trans ((aU lN).trans (aV rfl));clear HR HS;by_cases hs:sH (T+val)=true
  ·rw[aV hs] at hR' hS'
   have HR':=jj hR';have Fx:=jj hS';have hsb:=eU hs;have q1: ¬T+val<= -2147483648:=lK;have q2: ¬2147483648<=T+val:=lK;clear hR' hS' hs hsb
   go_wp2_with fail
   go_region_held3 (fun w'=>J w' ga 1 (U n)/\J w' ga 2 (U val)) (first|exact⟨nL b1 hgg,nL b2 hgg⟩|exact⟨nL (nL b1 hgg) hgg,nL (nL b2 hgg) hgg⟩|go_keep) (fail)
   go_wp2
   go_ret;exact⟨by rw[HR'.out];rfl,by rw[Fx.out];exact(H2.set hn true (T+val)).drew,((o2.setCell (.inl lT) _).setCell (.inl lT) _).drew⟩
  rw[aU hs] at hR' hS';have HR':=jj hR';have Fx:=jj hS';have hsb:=iR (show sH (T+val)=false by simpa using hs);have q:T+val<= -2147483648\/(¬T+val<= -2147483648/\2147483648<=T+val):=lK;clear hR' hS' hs hsb;rcases q with q1|⟨q1,q2⟩
  all_goals
   go_wp2
   go_ret;exact⟨by rw[HR'.out];rfl,by rw[Fx.out];exact H2.out,o2⟩
 ·have HR':=jj (HR.trans ((aU lN).trans ((aU lN).trans ((aU lN).trans (aV rfl)))))
  have Fx:=jj (HS.trans ((aU lN).trans ((aU lN).trans (aV rfl))));clear HR HS
  go_wp2_with fail
  go_region_held3 (fun w'=>J w' ga 1 (U n)/\J w' ga 2 (U val)) (first|exact⟨nL b1 hgg,nL b2 hgg⟩|exact⟨nL (nL b1 hgg) hgg,nL (nL b2 hgg) hgg⟩|go_keep) (fail)
  go_wp2
  go_ret;exact⟨by rw[HR'.out];rfl,by rw[Fx.out];exact(H2.set hn false 0).drew,((o2.setCell (.inl lT) _).setCell (.inl lT) _).drew⟩
 ·have HR':=jj (HR.trans ((aU lN).trans ((aU lN).trans ((aU lN).trans ((aU lN).trans (aV rfl))))))
  have Fx:=jj (HS.trans ((aU lN).trans ((aU lN).trans (aU lN))));clear t2 f0 f1 HR HS
  go_wp2_with fail
  go_loop [7,8] (fun s i=> ∃k:Nat,k<=64/\i= U k/\s= U (uj (st.take k))) (fun _ i=>64 -(intOf i).toNat)
  case atStart=>exact⟨0,lK,rfl,rfl⟩
  case round=>
   obtain⟨k,aoJ,rfl,rfl⟩:=hrel;by_cases hlt':k<64
   ·have hkl:k<st.length:=by rw[H2.n];exact hlt'
    have hsn:=jj (JO st k hkl);have agX:=AJ HSM k;have NY:=HSM.out st[k] (bY hkl);have ck:=H2.val k hkl;obtain⟨c,hc⟩:=ex st[k].2;rw[<-hc] at ck NY;have HC:=jj hc;have u0: -2147483648*64<=uj (st.take k):=lK;have u1:uj (st.take k)<=2147483648*64:=lK;have v0: -2147483648<c:=NY.1;have v1:c<2147483648:=NY.2;have i2:(0:Int)<=k:=lK;have i3:(k:Int)<64:=lK;clear agX NY hc
    go_wp2
    go_round
    case rel=>exact⟨k+1,lK,by go_num,by rw[hsn.out,<-HC.out]⟩
    simp[intOf];omega
   have hk':k=64:=lK;subst hk';have ht:st.take 64=st:=dB (by rw[H2.n];omega);rw[ht];clear ht
   go_wp2
   go_ret;exact⟨by rw[HR'.out];rfl,by rw[Fx.out];exact H2.out,o2⟩
 have HR':=jj (HR.trans ((aU k1).trans ((aU k2).trans ((aU k3).trans ((aU k4).trans (aU k5))))));have Fx:=jj (HS.trans ((aU k1).trans ((aU k3).trans (aU k4))));have e1:(kind==1)=false:=bJ.2 k1;have e2:(kind==2)=false:=bJ.2 k2;have e3:(kind==3)=false:=bJ.2 k3;have e4:(kind==4)=false:=bJ.2 k4;have e5:(kind==5)=false:=bJ.2 k5
 go_wp2
 go_ret;exact⟨by rw[HR'.out];rfl,by rw[Fx.out];exact H2.out,o2⟩
theorem abK(gr:Nat)(st:List (Bool×Int))(kind key val:Int)(w:World)(h:oN w gr st)(hsm:oQ st)(hk:qX kind)(h2:qX key)(h3:qX val)(r:Int)(hr:Pw st kind key val=r)(st':List (Bool×Int))(hs:yD st kind key val=st'):
  Y 12 #[gr,.agg #[U kind,U key,U val]] w fun e w'=>e= .returned (U r)/\oN w' gr st'/\Only [gr] w w':=by
 subst hr;subst hs;by_cases hb:Pv key val=true
 ·have hb':=hb
  unfold Pv at hb';simp only[bX,dQ] at hb';obtain⟨⟨k0,k1⟩,hv⟩:=hb';obtain⟨n,rfl⟩:=bB k0;exact Uy gr st kind val n w h hsm hk h3 lK hv
 have hb':Pv key val=false:=by simpa using hb
 have e1:Pw st kind key val=0:=by unfold Pw;rw[hb'];rfl
 have e2:yD st kind key val=st:=by unfold yD;rw[hb'];rfl
 rw[e1,e2];exact(Ym gr st kind key val w h hk h2 h3 hb').mono fun e w' ⟨he,hb⟩=>⟨he,h.below hb,Only.of_below hb⟩
namespace TopAlone
open Go.RowKit Go.Proofs.Tryz Go.ChangeShapes Go.WideShapes Go.ChangeAt
theorem plays(q:Int)(h0:0<=q)(h1:q<2): ∃k:Nat,1+q=k/\vD (Tok.cfg k)/\Tok.uN (Tok.cfg k) 8 (Tok.cl0 (Tok.cfg k) fun _=>false)=true:=by
 rcases(show q=0\/q=1 by omega) with rfl|rfl
 ·exact⟨1,rfl,aae,Tok.aj2⟩
 exact⟨2,rfl,aog,Tok.aj3⟩
structure Mem(k:Nat)(w wr:World)(g5 gs gc B:Nat)(s:List (Bool×Int))(L:LI)(X:CV)(F:LN)(A:OA)(n cap:Nat):Prop where
 cl:Nl wr (k:Nat) (Tok.cfg k).n gc X F
 Ky:lQ wr g5 24 (sW k)
 st:oN wr gs s
 row:wr.ownsRow B 3 1 (.slice A n cap) n (L.map fun z=>Value.int .i64 z)
 f5:g5∉F
 fs:gs∉F
 fr: ∀g,A.map (·.block)=some g->g∉F
 ge: ∀j∈F,w.heap.size<=j
 gs0:w.heap.size<=gs
 B0:w.heap.size<=B
 Bl:B<=wr.heap.size
 b:Be w wr
section
variable{k:Nat}{w wr w':World}{g5 gs gc B:Nat}{s s':List (Bool×Int)}{L:LI}{X X':CV}{F F':LN}{A A':OA}{n cap cap':Nat}
theorem Mem.turn(h:Mem k w wr g5 gs gc B s L X F A n cap)(hC:Nl w' (k:Nat) (Tok.cfg k).n gc X' F')(ho:Only F wr w')(hf:Fro wr F F'):Mem k w w' g5 gs gc B s L X' F' A n cap where
 cl:=hC
 Ky:=h.Ky.only ho h.f5
 st:=h.st.only ho h.fs
 row:=mK h.row ho fun g hg=>h.fr g (by rw[lV] at hg;exact hg)
 f5:=fun hm=>(hf _ hm).elim h.f5 fun e=>by have:=h.Ky.lt;omega
 fs:=fun hm=>(hf _ hm).elim h.fs fun e=>by have:=h.st.lt;omega
 fr:=fun g hg hm=>(hf _ hm).elim (h.fr g hg) fun e=>by have:=(dG h.row g (by rw[lV];exact hg)).2;omega
 ge:=fun j hj=>(hf j hj).elim (h.ge j) fun e=>aG h.b.size e
 gs0:=h.gs0
 B0:=h.B0
 Bl:=aG h.Bl ho.size
 b:=ho.below h.b h.b.size h.ge
theorem Mem.below(h:Mem k w wr g5 gs gc B s L X F A n cap)(hb:Be wr w'):Mem k w w' g5 gs gc B s L X F A n cap:=
 h.turn (h.cl.below hb) (Only.of_below hb) fun j hj=> .inl hj
theorem Mem.apply(h:Mem k w wr g5 gs gc B s L X F A n cap)(hS:oN w' gs s')(ho:Only [gs] wr w'):Mem k w w' g5 gs gc B s' L X F A n cap where
 cl:=h.cl.only ho (fun g hg=>by
  rw[au] at hg;subst hg;exact⟨_,_,h.st.b,lN,lN⟩) fun j hj hm=>by
   rw[au] at hm;exact h.fs (hm▸hj)
 Ky:=h.Ky.only ho (mR (h.Ky.nY h.st.b lN))
 st:=hS
 row:=mh h.row ho h.st.b lN
 f5:=h.f5
 fs:=h.fs
 fr:=h.fr
 ge:=h.ge
 gs0:=h.gs0
 B0:=h.B0
 Bl:=aG h.Bl ho.size
 b:=ho.below h.b h.b.size (mR h.gs0)
theorem Mem.app(h:Mem k w wr g5 gs gc B s L X F A n cap){r:Int}(ha:qQ wr w' B 3 1 A A' (n+1) cap' (L.map (fun z=>Value.int .i64 z)++ [U r])):Mem k w w' g5 gs gc B s (L++ [r]) X F A' (n+1) cap' where
 cl:=h.cl.only ha.only (fun g hg=>by
  obtain⟨_,cs,hc⟩:=lW h.row g hg;exact⟨_,cs,hc,lN,lN⟩) fun j hj hm=>h.fr j (aJ.1 hm) hj
 Ky:=ha.ZT h.row h.Ky lN
 st:=⟨ha.ZT h.row h.st.b lN,h.st.n⟩
 row:=by rw[bR];exact ha.own
 f5:=h.f5
 fs:=h.fs
 fr:=fun g hg hm=>by
  rcases ha.at_ g hg with e|e
  ·exact h.fr g e hm
  have:=h.cl.lt g hm;omega
 ge:=h.ge
 gs0:=h.gs0
 B0:=h.B0
 Bl:=aG h.Bl ha.only.size
 b:=ha.below h.row h.b h.B0 h.b.size
end
structure St(k:Nat)(w wr:World)(g5 gs gc B:Nat)(V:Value)(G:mF)(N:Nat)(x:Tok.Cl)(X:CV)(F:LN)(A:OA)(cap:Nat):Prop where
 m:Mem k w wr g5 gs gc B (mX G G.nD.length).2.1 G.res X F A G.nD.length cap
 r:Km (Tok.cfg k) G N x X
 good:Tok.uN (Tok.cfg k) (8 -G.nD.length) x=true
 Nb:N<=3800*G.nD.length
 few:G.nD.length<=8
 val:V= .slice A G.nD.length cap
theorem abS{w:World}{a:OA}{rs:List Rq}(h:mo w a n 6 (rs.flatMap rA))(hn:rs.length=n)(k:Nat)(hk:k<n): ∃b off,a=some ⟨b,off,none⟩/\ ∃e,rs[k]?=some e/\J w b (off+k*6) (U e.1)/\J w b (off+k*6+1) (U e.2.1)/\J w b (off+k*6+2) (U e.2.2.1)/\
  J w b (off+k*6+3) (U e.2.2.2.1)/\J w b (off+k*6+4) (U e.2.2.2.2.1)/\J w b (off+k*6+5) (U e.2.2.2.2.2):=by
 obtain⟨b,off,rfl,hlt,hc⟩:=h.2 lK;have hk':k<rs.length:=lK;have key: ∀j v,j<6->(rA rs[k])[j]?=some v->J w b (off+k*6+j) v:=fun j v hj hv=>by
  rw[dL];exact hc _ _ (nT rA 6 OJ rs k j hj hk' v hv)
 exact⟨b,off,rfl,rs[k],aj hk',key 0 _ lK rfl,key 1 _ lK rfl,key 2 _ lK rfl,key 3 _ lK rfl,key 4 _ lK rfl,key 5 _ lK rfl⟩
theorem walk(f:Int)(a1:OA)(n1 c1:Nat)(g:Nat->Int)(w:World)(hf:qX f)(hr:Flat w a1 n1 3 g)(hm:n1<=maxLen):
  Y 3 #[U f,.slice a1 n1 c1] w fun e w'=>e= .returned true/\Be w w':=by
 unfold maxLen at hm;obtain⟨ii,hii,hi0,hi1,hi2⟩:=bq Bh;have HR:=jj hr;have hz:=alb;obtain⟨Z,hZ⟩:=ex ((wZ st0).toArray);rw[<-hZ] at hz;have HZ:=jj hZ;have HF:=jj hf;clear hr hZ hf;go_enter func3,ntmps3
 go_wp2_with fail
 refine(acF f 2 _ HF lN lN).mono ?_;rintro e w' ⟨q,rfl,-,q0,q1,rfl⟩;obtain⟨k,hk,hc,hg⟩:=plays q q0 q1;have HC:=jj hc;have HG:=jj hg;have k1:1<=k:=lK;have k2:k<=2:=lK;have HK:=jj hk;clear hc hg hk
 go_wp2_with fail
 rw[HK.out];refine(qM.FV _ _).mono ?_;rintro e w1 ⟨rfl,hb1⟩;have B1:=jj hb1;clear hb1
 go_upto_region 2 with(first|(refine jo rfl 24 (.tmp 5) (.tmp 22) rfl w1.heap.size (sW k) rfl rfl 24 _ (lQ.new _ _ _) (by kernel_rfl) (by kernel_rfl) (by kernel_rfl) ?_;rw[World.setRow_alloc_new];try simp only[Act.put]))
 obtain⟨w2,hw2⟩:=ex (w1.alloc (.cells (sW k) 24));obtain⟨g5,hg5⟩:=ex w1.heap.size;rw[<-hw2,<-hg5];have K2:=xNew hw2 hg5;have B2:=GN B1 hw2;have G5:Hid (w.heap.size<=g5):=jj (by rw[hg5];exact B1.size);clear hw2 hg5 B1;obtain⟨c0,c1,c2,c3,c4,c5,c6,c7,c8,c9,c10,c11,c12,c13,c14⟩:=sZ K2
 go_wp2_with fail
 refine(aac _ (k:Nat) lK lK (Tok.cfg k).n (by have:=HC.n;show((3*k+1:Nat):Int)=_;omega) none 0 0 [] rfl lN (mo.nil _ _ _) ⟨lT,lT,lT⟩).mono ?_;rintro e w3 ⟨gc,X,F,rfl,hC,hI,hF,hb3⟩;have R3:Hid (Km (Tok.cfg k) ⟨(Tok.cfg k).f,[],[],[]⟩ 0 (Tok.cl0 (Tok.cfg k) fun _=>false) X):=jj (QD (n:=0) rfl HC hI _ fun i hi=>⟨fun e=>(by cases e),fun e=>(by cases e)⟩);have C3:=jj hC;have F3:=jj hF;have K3:=jj (K2.below hb3 K2.lt);have B3:=nO B2 hb3;have L3:=jj (show g5<w2.heap.size from K2.lt);have Z3:=jj hb3.size;have Z2:=jj B2.size;clear hC hI hF hb3 K2 B2 c0 c1 c2 c3 c4 c5 c6 c7 c8 c9 c10 c11 c12 c13 c14
 go_upto_block 0 with fail
 obtain⟨w4,hw4⟩:=ex (w3.alloc (.cells Z 34));obtain⟨gs,hgs⟩:=ex w3.heap.size;rw[<-hw4,<-hgs];have b34:=(tQ hw4).out;have S4:=jj (show oN w4 gs st0 from⟨by rw[hw4,hgs,HZ.out];exact lQ.new _ _ _,rfl⟩);have L4:Hid (gs<w4.heap.size):=jj S4.lt;have GS:Hid (gs=w3.heap.size):=jj hgs;have START:Hid (St k w w4 g5 gs gc w4.heap.size () ⟨(Tok.cfg k).f,[],[],[]⟩ 0 (Tok.cl0 (Tok.cfg k) fun _=>false) X F none 0):=jj {
  m:={
   cl:=C3.below b34
   Ky:=K3.below b34 K3.lt
   st:=S4.out
   row:=World.ownsRow_nil _ _ _ _
   f5:=fun h=>by have:=F3.out g5 h;have:=L3.out;omega
   fs:=fun h=>by have:=C3.lt gs h;have:=GS.out;omega
   fr:=fun g h=>by simp at h
   ge:=fun j h=>by have:=F3.out j h;have:=Z2.out;omega
   gs0:=by have:=GS.out;have:=Z2.out;have:=Z3.out;omega
   B0:=aG B3.size b34.size
   Bl:=aF _
   b:=B3.trans (b34.mono B3.size)}
  r:=R3.out
  good:=HG.out
  Nb:=bF _
  few:=bF _
  val:=rfl}
 clear hw4 hgs b34 hz HZ C3 R3 F3 K3 B3 S4 HG;obtain⟨B,hB⟩:=ex w4.heap.size;rw[<-hB] at START;clear hB Z3 Z2 L3 L4 GS
 go_cut [9] (fun V wx=> ∃G N x X F A cap,St k w wx g5 gs gc B V G N x X F A cap)
 case first=>
  go_wp2_with fail
  go_loopw [9,10] (fun V z wr=> ∃i:Nat,i<=n1/\i<=30/\z= U i/\ ∃G N x X F A cap,St k w wr g5 gs gc B V G N x X F A cap) (fun _ z _=>n1 -(intOf z).toNat)
  case atStart=>exact⟨0,lK,lK,by first|rfl|simp,_,_,_,_,_,_,_,START⟩
  case round=>
   obtain⟨i,hi,avp,rfl,G,N,x,X1,F1,A,cap,hS⟩:=hrel;obtain rfl:=hS.val;have SS:=jj hS;have few:=hS.few;clear hS;rcases(show(i<n1/\i<30/\G.nD.length<8)\/(¬i<n1)\/(i<n1/\ ¬i<30)\/(i<n1/\i<30/\ ¬G.nD.length<8) by omega) with⟨hlt,h30,h8⟩|hlt|⟨hlt,h30⟩|⟨hlt,h30,h8⟩
   ·obtain⟨ag4,hrow⟩:=HR.out
    obtain⟨b,off,rfl,hbl,hcell⟩:=hrow lK;have CW:Hid (∀u,Be w u->J u b (off+i*3) (U (g (i*3)))/\J u b (off+i*3+1) (U (g (i*3+1)))/\J u b (off+i*3+2) (U (g (i*3+2)))):=jj fun u hu=>by
     have key: ∀j,j<3->J u b (off+i*3+j) (U (g (i*3+j))):=fun j hj=>by
      rw[hu.cell (p:=⟨b,off+i*3+j,none⟩) hbl,dL];exact hcell _ lK
     exact⟨key 0 lK,key 1 lK,key 2 lK⟩
    obtain⟨c0,c1,c2⟩:=CW.out _ SS.m.b;have x0:=ag4 (i*3);have x1:=ag4 (i*3+1);have x2:=ag4 (i*3+2);obtain⟨u0,hu0⟩:=ex (g (i*3));obtain⟨u1,hu1⟩:=ex (g (i*3+1));obtain⟨u2,hu2⟩:=ex (g (i*3+2));rw[<-hu0] at c0 x0 CW;rw[<-hu1] at c1 x1 CW;rw[<-hu2] at c2 x2 CW;have i0:(0:Int)<=i:=lK;have i1:(i:Int)<n1:=lK;have RS:=jj (MS HC SS.r (tL SS.Nb) SS.good);clear hcell hrow hu0 hu1 hu2;by_cases hv:mq 2 (1,(G.nD.length:Int)+1,u0,u1,u2,0)=true
    ·have e8:8 -G.nD.length=(8 -(G.nD.length+1))+1:=lK
     obtain⟨Y1,Y2,Y3,G3,x3,i1',i2',i3',i4',i5',i6',i7',i8'⟩:=ab9 HC SS.r (tL SS.Nb) lK (by rw[<-e8];exact SS.good) hv;obtain⟨I1,I2,I3,I4,I5,I6⟩:=j6 i1' i2' i3' i4' i5' i6';obtain⟨I7,I8,NB⟩:=j3 i7' i8' SS.Nb;obtain⟨ln,hln⟩:=ex G.nD.length;have M0:=SS.m;rw[<-hln] at M0|-I6 I7 I8 I5 h8 NB e8;obtain⟨st,hst⟩:=ex ((mX G ln).2.1);have SM:=jj (show oQ st from hst▸(Ul G ln).1);rw[<-hst] at M0 I7 I8;have M0:=jj M0;have l8:(ln:Int)<8:=lK;have i30:(i:Int)<30:=lK;clear i1' i2' i3' i4' i5' i6' i7' i8' hv RS SS hln hst few HR
     go_wp2_with fail
     refine(Qe M0.out.cl u0 u1 u2 I1).mono ?_;rintro e v1 ⟨F2,rfl,hC,ho,hf⟩;have M1:=jj (M0.out.turn hC ho hf);clear hC ho hf c0 c1 c2 I1 M0;obtain⟨c0,c1,c2⟩:=CW.out _ M1.b
     go_wp2_with fail
     refine(abK gs st u0 u1 u2 _ M1.st SM x0 x1 x2 _ rfl _ rfl).mono ?_;rintro e v2 ⟨rfl,hR,ho⟩;have M2:=M1.apply hR ho;obtain⟨r,hr⟩:=ex (Pw st u0 u1 u2);rw[<-hr] at I7|-;have M2:=jj (M2.below ((aC _ _).alloc (aF _) (.cells #[U r] 3)));clear hr hR ho c0 c1 c2 M1
     go_wp2_with(at_builtin;refine lZ rfl _ _ _ rfl B 3 ii _ 1 8 underlying35 hii hi0 hi1 hi2 rfl lK A ln cap _ rfl M2.out.row _ 1 1 [U r] rfl (qC _ _ _) (by simp;rfl) (by unfold maxLen;omega) lK M2.out.Bl ?_;intro a5 c5 v3 h5;have M3:=jj (M2.out.app h5);clear h5 M2)
     refine(zS M3.cl I2 6000 lN).mono ?_;rintro e v4 ⟨z1,F4,rfl,hC,ho,hf⟩;have M4:=jj (M3.turn hC ho hf);clear hC ho hf I2 M3
     go_wp2_with fail
     refine(zS M4.cl I3 6000 lN).mono ?_;rintro e v5 ⟨z2,F5,rfl,hC,ho,hf⟩;have M5:=jj (M4.turn hC ho hf);clear hC ho hf I3 M4
     go_wp2_with fail
     go_roundw
     case rel=>
      refine⟨i+1,lK,lK,by go_num,G3,N+3800,x3,Y3,F5,a5,c5,?_⟩;have n3:=I6.out;exact{m:=by rw[I8.out,I7.out,n3];exact M5.out,r:=I4.out,good:=by rw[n3];exact I5.out,Nb:=by have:=NB.out;omega,few:=by omega,val:=by rw[n3]}
     case measure=>simp[intOf];omega
    have hv':mq 2 (1,(G.nD.length:Int)+1,u0,u1,u2,0)=false:=by simpa using hv
    have HV:=jj hv';have l8:(G.nD.length:Int)<8:=lK;have i30:(i:Int)<30:=lK;clear hv hv' HR
    go_wp2_with fail
    obtain⟨wt,il,el,al,Xz,rz,nz⟩:=RS.out;refine(Qf SS.m.cl u0 u1 u2 wt (by rw[il];omega) (by rw[il];exact HV.out)).mono ?_;rintro e v1 ⟨F2,rfl,hC,ho,hf⟩;have M1:=jj (SS.m.turn hC ho hf);clear hC ho hf c0 c1 c2 wt il el al Xz rz nz RS
    go_wp2_with fail
    go_roundw
    case rel=>exact⟨i+1,lK,lK,by go_num,G,N,x,X1,F2,A,cap,{SS.out with m:=M1.out}⟩
    simp[intOf];omega
   all_goals
    go_wp2_with fail
    go_meet;exact⟨G,N,x,X1,F1,A,cap,SS⟩
 case rest=>
  obtain⟨G,N,x,X1,F1,A,cap,hS⟩:=hcut;obtain rfl:=hS.val;obtain⟨wt,il,el,al,Xz,rz,nz⟩:=MS HC hS.r (VZ hS.Nb hS.few) hS.good;have lr:=hS.r.g.len;have few:=hS.few;have M0:=hS.m;obtain⟨ln,hln⟩:=ex G.nD.length;rw[<-hln] at M0 few lr|-;obtain⟨Q,hQ⟩:=ex G.nD;obtain⟨R,hR⟩:=ex G.res;rw[<-hQ] at il el nz hln;rw[<-hR] at el nz lr M0;obtain⟨E,hE⟩:=ex (Q.zip R);rw[<-hE] at el nz;have LE:Hid (E.length=ln):=jj (by rw[hE,gW];omega);have LQ:Hid (Q.length=ln):=jj hln.symm;have EQ:Hid (∀(i:Nat) (e:Rq×Int),E[i]?=some e->Q[i]?=some e.1/\R[i]?=some e.2):=jj fun i e h=>by
   rw[hE] at h;exact jP.1 h
  have CL:=Lm M0.cl (by rw[il,el];have:=LE.out;have:=LQ.out;omega);rw[il,el,LE.out,LQ.out] at CL;obtain⟨M0,CL,RZ,NZ⟩:=j4 M0 CL rz nz;clear hS wt il el al rz nz lr hln hQ hR hE
  go_wp2_with fail
  refine CL.out.mono ?_;rintro e v1 ⟨q1,rfl,⟨cs,ia,ic,ea,ec,h1,h2,h3,h4,h5⟩,hb⟩;have M1:=jj (M0.out.below hb);obtain⟨H1,H2,H3,H4,H5⟩:=j5 h1 h2 h3 h4 h5;clear h1 h2 h3 h4 h5 hb CL M0
  go_wp2_with fail
  refine(Aa _ _ _ H1 _ _ _ _ H4 H5 lK).mono ?_;rintro e v2 ⟨⟨ea2,ec2,rfl,ho⟩,hb⟩;have M2:=jj (M1.below hb);have W2:Hid (mo v2 ea2 ln 7 (E.flatMap pF)):=jj (l9 ho);have EA:Hid (∀b,ea2.map (·.block)=some b->b∉F1):=jj fun b hb' hm=>by
   have h1:=(dG ho b (by rw[lV];exact hb')).1;have h2:=M1.cl.lt b hm;omega
  have H1':=jj (H1.below hb H1.lt);have H3':=jj (H3.below hb);clear ho hb M1 H1 H3 H4 H5
  go_wp2_with fail
  refine(Ml _ _ _ H1' _ _ _ _ H2 H3' lK).mono ?_;rintro e v3 ⟨⟨ia2,ic2,rfl,ho⟩,hb⟩;have M3:=jj (M2.out.below hb);have W3:Hid (mo v3 ea2 ln 7 (E.flatMap pF)):=jj (W2.below hb);have I3:Hid (mo v3 ia2 ln 6 (Q.flatMap rA)):=jj (l9 ho);clear ho hb M2 W2 H1' H2 H3';have bt:(ln !=ln)=false:=by simp
  have bt':((ln:Int) !=(ln:Int))=false:=by simp
  go_wp2_with fail
  go_loopw [93] (fun z wr=> ∃i:Nat,i<=ln/\z= U i/\Be v3 wr) (fun z _=>ln -(intOf z).toNat)
  case atStart=>exact⟨0,lK,by first|rfl|simp,aC _ _⟩
  case round=>
   obtain⟨i,hi,rfl,hb⟩:=hrel;have B:=jj hb;by_cases hlt:i<ln
   ·obtain⟨b1,o1,rfl,hb1,⟨⟨x0,x1,x2,x3,x4,x5⟩,x6⟩,he1,p0,p1,p2,p3,p4,p5,p6⟩:=EN (W3.below B) LE i hlt
    obtain⟨b2,o2,rfl,e2,he2,q0,q1,q2,q3,q4,q5⟩:=abS (I3.below B) LQ i hlt;obtain⟨f1,f2⟩:=EQ.out i _ he1;rw[f1] at he2;cases he2;obtain⟨b3,o3,rfl,hb3,hc3⟩:=((l9 M3.row).below B).2 lK;have r0:J wr b3 (o3+i) (U x6):=hc3 i _ (by rw[aS,f2];rfl);simp only at p0 p1 p2 p3 p4 p5 p6 q0 q1 q2 q3 q4 q5;have i0:(0:Int)<=i:=lK;have i1:(i:Int)<ln:=lK;clear he1 hb1 hb3 hc3 hb f1 f2
    go_wp2_with fail
    go_quiet(fail)
    go_wp2_with fail
    refine⟨⟨i+1,lK,by go_num,below_drewN B nq⟩,by simp[intOf];omega⟩
   clear hb
   go_wp2_with fail
   have M4:=jj (M3.below B);have W4:=jj (W3.below B);clear M3 W3 I3 B EQ LQ bt bt';refine(zS M4.cl RZ 6000 lN).mono ?_;rintro e v5 ⟨z5,F5,rfl,hC,ho,hf⟩;have M5:=jj (M4.turn hC ho hf);have W5:=jj (W4.only ho EA);clear hC ho hf M4 W4 EA RZ
   go_wp2_with fail
   go_loopw [16] (fun z wr=> ∃i:Nat,i<=3*k+1/\z= U i/\Be v5 wr) (fun z _=>3*k+1 -(intOf z).toNat)
   case atStart=>exact⟨0,lK,by first|rfl|simp,aC _ _⟩
   case round=>
    obtain⟨i,hi,rfl,hb⟩:=hrel;have B:=jj hb;have M6:=jj (M5.below hb);have W6:=jj (W5.below hb);have c0:=M6.Ky.at_ 0;clear hb
    go_wp2_with fail
    refine(abQ (k:Nat) _ lK lK).mono ?_;rintro e u1 ⟨rfl,rfl⟩;by_cases hlt:i<3*k+1
    ·have i1:(i:Int)<3*k+1:=lK
     obtain⟨v,n1',n2',n3'⟩:=NZ.out i (by show i<3*k+1;exact hlt);obtain⟨N1,N2,N3⟩:=j3 n1' n2' n3';clear n1' n2' n3' c0
     go_wp2_with fail
     refine(ads M6.cl i v N1 N3).mono ?_;rintro e u2 ⟨qn,rfl,⟨c,S',Md,h1,h2,h3⟩,hb2⟩;rw[N2.out] at h3;obtain⟨H1,H2,H3⟩:=j3 h1 h2 h3;have B2:=nO B hb2;have W7:=jj (W6.below hb2);clear h1 h2 h3 hb2 M6 W6 B
     go_wp2_with fail
     refine(Un _ qn Md c S' _ _ _ H1 H2 H3 (by rw[LE.out];omega)).mono ?_;rintro e u3 ⟨S2,gd2,rfl,hL,-,hb3⟩;have L3:=jj hL;have B3:=nO B2 hb3;have W8:=jj (W7.below hb3);clear hL hb3 H1 H2 H3 W7 B2
     go_wp2_with fail
     refine(aaY S2 gd2 2 _ _ _ _ L3 _ LE lK).mono ?_;rintro e u4 ⟨a7,c7,rfl,ho,hb4⟩;have O4:=jj (l9 ho);have B4:=nO B3 hb4;have W9:=jj (W8.below hb4);clear ho hb4 L3 W8 B3
     go_wp2_with fail
     refine(UF a7 ln c7 ea2 ln ec2 E _ O4 W9 LE LE lK).mono ?_;rintro e u5 ⟨rfl,hb5⟩;have B5:=nO B4 hb5;clear hb5 O4 W9 B4
     go_wp2_with fail
     go_roundw
     case rel=>exact⟨i+1,lK,by go_num,B5⟩
     simp[intOf];omega
    have i1: ¬(i:Int)<3*k+1:=lK;clear c0
    go_wp2_with fail
    refine(UM Tok.UQ _).mono ?_;rintro e u2 ⟨rfl,hb2⟩;have B2:=jj (M6.b.trans (hb2.mono M6.b.size));clear hb2
    go_wp2_with fail
    go_ret;exact⟨rfl,B2⟩
theorem ad1:Vd Tryz.checked 3 Tryz.f3:=by
 intro H enc W base args ds p hval hA hsz;rw[Tryz.params3] at hA hval;obtain⟨v0,vs0,d0,ds0,p0,q0,hargs,rfl,rfl,h0,r0⟩:=trodAll_cons hA;obtain⟨v1,vs1,d1,ds1,p1,q1,rfl,rfl,rfl,h1,r1⟩:=trodAll_cons r0;obtain⟨rfl,rfl,rfl⟩:=trodAll_nil r1;obtain rfl:args=#[v0,v1]:=by cases args;simp_all
 obtain⟨a0,rfl,rfl,rfl,w0⟩:=open_int underlying3 (hval 0 3 v0 rfl rfl) h0;obtain⟨a1,n1,c1,g1,rfl,aoO,hcm1,hr1⟩:=Yg underlying22 underlying38 (by kernel_rfl) (by kernel_rfl) lN (by kernel_rfl) (hval 1 22 v1 rfl rfl) h1;exact walk a0 a1 n1 c1 g1 W (qX.afK w0) hr1 (aG aoO hcm1)
theorem lifted(os:Os)(started:os.Started)(H:Type)(enc:TypeId×Value->H):
  ReturnsInHanded {} Tryz.checked os 3 .any (Rows.topAloneSpec.pre6 enc prog Tryz.f3 Rows.topAloneRow.domain false) (Rows.topAloneSpec.post enc prog Tryz.f3 false true false false):=
 aa1 (C:=Tryz.checked) (s:=Rows.topAloneSpec) (tb:=4) (by kernel_rfl) started (by kernel_rfl) func3
  (ChangeSpec.witness6 (enc:=enc) (C:=Tryz.checked) false ⟨#[],#[U 0,()],[]⟩ 8 (by kernel_rfl) (by kernel_rfl) (by kernel_rfl) (by kernel_rfl))
  rfl (fun H ds h=>by
   match ds,h with
   | [d0,d1],_=>rfl) (by kernel_rfl) (by kernel_rfl) (by kernel_rfl) underlying4 ad1
theorem over:Rows.topAloneRow.holds Tryz.pinned (OpenSpec.ofChange Rows.topAloneSpec):=
 OpenClaim.holds_of_wide 3 Tryz.f3 rfl rfl rfl rfl rfl rfl rfl ⟨rfl,rfl,rfl,rfl,rfl⟩ rfl rfl rfl rfl rfl (by kernel_rfl) func3 joined
  (eU (by kernel_rfl)) (by unfold Func.isWrapper;first|(rw[aV (by decide+kernel)];kernel_rfl)|(rw[aU (by decide+kernel)];exact⟨rfl,rfl⟩))
  (fun os started H enc _=>lifted os started H enc)
theorem proved:Rows.TopAloneSaid:=over
#print axioms proved
end TopAlone
end Go.Proofs.YtgnhecmnlddjhaaGreat
