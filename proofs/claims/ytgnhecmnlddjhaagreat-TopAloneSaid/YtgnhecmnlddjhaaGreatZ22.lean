/- TopAlone, part 23 of 24: a proof squeezed by a program. -/
import Derived.Test.YtgnhecmnlddjhaaGreatZ21
set_option linter.unusedVariables false
set_option linter.unusedSimpArgs false
set_option linter.defProp false
set_option maxRecDepth 100000
set_option maxHeartbeats 6400000
namespace Go.Proofs.YtgnhecmnlddjhaaGreat
open Go.RowKit Go.Proofs.Tryz
variable{N' a k n src:Nat}{s:Tok.Ck}{v:ql}{vs:LN}
section
open Tok (TM)
section
variable{c:Tok.qM}{G:mF}{N:Nat}{s s' s1 s2:Tok.Nd}{v v' v1 v2:ql}{o o1 o2:Tok.Out}{K1 K2:KS}{k j seq id now node:Nat}{ins:List Tok.Sl}{sl sl':Tok.Sl}{i:Ba}{p p':uo}{t:Nat}{b:LN}{m:TM}
theorem ZP(hG:sS c G)(hb:Gl G b): ∀(i:Nat) (r q:Rq),(G.qR b)[i]?=some r->(G.qR b)[i+1]?=some q->zT r q= -1:=fun i r q h1 h2=>by
 unfold mF.qR at h1 h2;rw[aS] at h1 h2
 cases e1:b[i]? with
 |none=>rw[e1] at h1;cases h1
 |some x=>
  cases e2:b[i+1]? with
  |none=>rw[e2] at h2;cases h2
  |some y=>
   rw[e1] at h1;rw[e2] at h2;injection h1 with h1;injection h2 with h2;subst h1;subst h2;obtain⟨l1,g1⟩:=ah.1 e1;obtain⟨l2,g2⟩:=ah.1 e2;have lt:=eO.1 hb.rise i (i+1) l1 l2 lK;rw[g1,g2] at lt;have x1:=hb.up x (ak e1);have y1:=hb.up y (ak e2);have rx:=hG.rq x x1.1 x1.2;have ry:=hG.rq y y1.1 y1.2;exact EJ (by rw[rx.1,ry.1]) (by rw[rx.2.1,ry.2.1];omega)
theorem Ny(hG:sS c G)(hb:Gl G b):Es G.K (G.qR b):=⟨fun r hr=>mF.yZ hG hb r hr,ZP hG hb,by unfold mF.qR;rw[aT];exact hb.two⟩
theorem Wp(hG:sS c G)(h:tO c G N s v)(hb:Gl G b)(hp:Tok.pre k (j+1) b s=some s'): ∃v',Oz k j (G.qR b) (G.K,v)=some (G.K,v')/\tO c G N s' v'/\v'.out=v.out:=by
 unfold Tok.pre at hp;rw[oV] at hp
 cases hk:s.insts[k]? with
 |none=>rw[hk] at hp;cases hp
 |some ins=>
  rw[hk] at hp
  cases hs:Tok.tV s k (j+1) with
  |none=>rw[hs] at hp;cases hp
  |some sl=>
   rw[hs] at hp;simp only at hp;obtain⟨j',ins',hjj,hk',hj⟩:=Cq hs;obtain rfl:j'=j:=lK;rw[hk] at hk';injection hk' with hk';subst hk';split at hp
   ·rename_i hcond
    injection hp with hp;subst hp;rw[bX] at hcond;obtain⟨i,p,hpl,hon,hvw,h1,h2,xM,Qv⟩:=zW h hk hj;have hdone:oh i.ps=Tok.doneN ins:=by
     obtain⟨i',hi',hI⟩:=h.at_ k ins hk;unfold ql.pl at hpl;rw[hi'] at hpl;simp only[Option.bind_some,aK,aM] at hpl;obtain⟨_,_,rfl,_⟩:=hpl;exact hI.done
    have hle:=eD hcond.1;have hhas:sl.has=false:=by simpa using hcond.2
    refine⟨v.put k j' {p with has:=true,b:=G.qR b},?_,Bq h hk hj ⟨rfl,rfl,h1.2.2.1,h1.2.2.2.1,h1.2.2.2.2.1,h1.2.2.2.2.2⟩ ⟨hb,h2.prl,h2.col,h2.pr,h2.co,h2.done⟩,rfl⟩;unfold Oz;rw[show((G.K,v):KN).2.pl k j'=some (i,p) from hpl];simp only[Option.bind_some];rw[nQ ⟨hon,by rw[h1.1];exact hhas,xM,by rw[hdone];omega⟩];rfl
   cases hp
theorem ahE(hc:vD c)(hG:sS c G)(h:tO c G N s v)(hid:id<c.n)(hb:Gl G b)(hk:k<=c.f)(hp:Tok.takeN c id (.pp k k (j+1) b) s=some (s',o))(hr:Room G v o):
  ∃K' v',ppV (who c id) (G.ms (.pp k k (j+1) b)) k j (G.K,v)=some ((K',v'),.used)/\uF c G N v s' o K' v':=by
 rw[show Tok.takeN c id (.pp k k (j+1) b) s=(match Tok.pre k (j+1) b s with
  |some s1=>Tok.accepted c id k (j+1) b s1
  |none=>none) from rfl] at hp
 cases h1:Tok.pre k (j+1) b s with
 |none=>rw[h1] at hp;cases hp
 |some s1=>
  rw[h1] at hp;simp only at hp;obtain⟨v1,e1,R1,ho⟩:=Wp hG h hb h1;obtain⟨K2,v2,e2,S2⟩:=Vk hc hG R1 hid hp ⟨hr.K,by rw[ho];exact hr.out⟩;refine⟨K2,v2,?_,⟨S2.le,S2.nd,by rw[S2.out,ho],S2.msg,S2.len⟩⟩;unfold ppV;rw[nQ (show Es G.K (G.ms (.pp k k (j+1) b)).batch/\(G.ms (.pp k k (j+1) b)).view=v.view/\(G.ms (.pp k k (j+1) b)).inst=k/\(G.ms (.pp k k (j+1) b)).seq=(j:Int)+1 from⟨Ny hG hb,h.view.symm,rfl,rfl⟩)];simp only[Option.bind_some];rw[show(G.ms (.pp k k (j+1) b)).batch=G.qR b from rfl,e1];simp only[Option.bind_some];rw[e2];rfl
theorem YI(hc:vD c)(hG:sS c G)(h:tO c G N s v)(hid:id<c.n)(hm:vH c G (.uf src k (j+1) b))(hp:Tok.takeN c id (.uf src k (j+1) b) s=some (s',o))(hr:Room G v o):
  ∃K' v',AU (who c id) (G.ms (.uf src k (j+1) b)) (num G.K (G.key (.uf src k (j+1) b))) src k j (G.K,v)=some ((K',v'),.used)/\uF c G N v s' o K' v':=by
 have hb:=hm.form.2.2;rw[show Tok.takeN c id (.uf src k (j+1) b) s=(match Tok.tV s k (j+1) with
  |none=>none
  |some sl=>match Tok.uw sl.pr src with
   |some none=>Tok.looked c id k (j+1) (Tok.su s k (j+1) {sl with pr:=Tok.vG sl.pr src (some b)})
   |_=>none) from rfl] at hp
 cases hs:Tok.tV s k (j+1) with
 |none=>rw[hs] at hp;cases hp
 |some sl=>
  rw[hs] at hp;simp only[oV,qD] at hp;obtain⟨j',ins,hjj,hk,hj⟩:=Cq hs;obtain rfl:j'=j:=lK;obtain⟨i,p,hpl,hon,hvw,h1,h2,xM,Qv⟩:=zW h hk hj
  cases hpr:sl.pr[src]? with
  |none=>rw[hpr] at hp;cases hp
  |some ov=>
   cases ov with
   |some x=>rw[hpr] at hp;cases hp
   |none=>
    rw[hpr] at hp;simp only at hp;have hsl:src<sl.pr.length:=(ah.1 hpr).1;have hkey:G.BO 4 src k (j'+1) b∈G.K:=hm.has;have hpn:p.pr[src]?=some none:=by
     rw[h1.2.2.1];have:=El G 4 k (j'+1) sl.pr 0 src none (by rw[oV];exact hpr);simpa using this
    have R1:tO c G N (Tok.su s k (j'+1) {sl with pr:=sl.pr.set src (some b)}) (v.put k j' {p with pr:=p.pr.set src (some (num G.K (G.key (.uf src k (j'+1) b)),G.qR b))}):=
     Bq h hk hj ⟨h1.1,h1.2.1,by
      have:=En G 4 k (j'+1) b sl.pr 0 src hsl;rw[qD,aO] at this;rw[this,<-h1.2.2.1];rfl,h1.2.2.2.1,h1.2.2.2.2.1,h1.2.2.2.2.2⟩ ⟨h2.b,by show(sl.pr.set src _).length=_;rw[bG];exact h2.prl,h2.col,fun a bb ha=>by
      replace ha:(sl.pr.set src (some b))[a]?=some (some bb):=ha;by_cases e:src=a
      ·subst e
       rw[aL hsl] at ha;injection ha with ha;injection ha with ha;rw[<-ha];exact⟨hb,hkey⟩
      rw[aX e] at ha;exact h2.pr a bb ha,h2.co,h2.done⟩
    obtain⟨K2,v2,e2,S2⟩:=Jj hc hG R1 hid hp ⟨hr.K,hr.out⟩;refine⟨K2,v2,?_,⟨S2.le,S2.nd,S2.out,S2.msg,S2.len⟩⟩;unfold AU;rw[nQ (show Es G.K (G.ms (.uf src k (j'+1) b)).batch/\(G.ms (.uf src k (j'+1) b)).view=v.view/\(G.ms (.uf src k (j'+1) b)).inst=k/\(G.ms (.uf src k (j'+1) b)).seq=(j':Int)+1/\(G.ms (.uf src k (j'+1) b)).sender=src/\j'<16 from⟨Ny hG hb,h.view.symm,rfl,rfl,rfl,xM⟩)];simp only[Option.bind_some];rw[show((G.K,v):KN).2.pl k j'=some (i,p) from hpl];simp only[Option.bind_some];rw[aV (show(G.ms (.uf src k (j'+1) b)).kind=4 from rfl),nQ ⟨hon,hpn⟩];simp only[Option.bind_some];rw[show(G.ms (.uf src k (j'+1) b)).batch=G.qR b from rfl,e2];rfl
theorem YJ(hc:vD c)(hG:sS c G)(h:tO c G N s v)(hid:id<c.n)(hm:vH c G (.com src k (j+1) b))(hp:Tok.takeN c id (.com src k (j+1) b) s=some (s',o))(hr:Room G v o):
  ∃K' v',AU (who c id) (G.ms (.com src k (j+1) b)) (num G.K (G.key (.com src k (j+1) b))) src k j (G.K,v)=some ((K',v'),.used)/\uF c G N v s' o K' v':=by
 have hb:=hm.form.2.2;rw[show Tok.takeN c id (.com src k (j+1) b) s=(match Tok.tV s k (j+1) with
  |none=>none
  |some sl=>match Tok.uw sl.co src with
   |some none=>Tok.looked c id k (j+1) (Tok.su s k (j+1) {sl with co:=Tok.vG sl.co src (some b)})
   |_=>none) from rfl] at hp
 cases hs:Tok.tV s k (j+1) with
 |none=>rw[hs] at hp;cases hp
 |some sl=>
  rw[hs] at hp;simp only[oV,qD] at hp;obtain⟨j',ins,hjj,hk,hj⟩:=Cq hs;obtain rfl:j'=j:=lK;obtain⟨i,p,hpl,hon,hvw,h1,h2,xM,Qv⟩:=zW h hk hj
  cases hpr:sl.co[src]? with
  |none=>rw[hpr] at hp;cases hp
  |some ov=>
   cases ov with
   |some x=>rw[hpr] at hp;cases hp
   |none=>
    rw[hpr] at hp;simp only at hp;have hsl:src<sl.co.length:=(ah.1 hpr).1;have hkey:G.BO 5 src k (j'+1) b∈G.K:=hm.has;have hpn:p.co[src]?=some none:=by
     rw[h1.2.2.2.1];have:=El G 5 k (j'+1) sl.co 0 src none (by rw[oV];exact hpr);simpa using this
    have R1:tO c G N (Tok.su s k (j'+1) {sl with co:=sl.co.set src (some b)}) (v.put k j' {p with co:=p.co.set src (some (num G.K (G.key (.com src k (j'+1) b)),G.qR b))}):=
     Bq h hk hj ⟨h1.1,h1.2.1,h1.2.2.1,by
      have:=En G 5 k (j'+1) b sl.co 0 src hsl;rw[qD,aO] at this;rw[this,<-h1.2.2.2.1];rfl,h1.2.2.2.2.1,h1.2.2.2.2.2⟩ ⟨h2.b,h2.prl,by show(sl.co.set src _).length=_;rw[bG];exact h2.col,h2.pr,fun a bb ha=>by
      replace ha:(sl.co.set src (some b))[a]?=some (some bb):=ha;by_cases e:src=a
      ·subst e
       rw[aL hsl] at ha;injection ha with ha;injection ha with ha;rw[<-ha];exact⟨hb,hkey⟩
      rw[aX e] at ha;exact h2.co a bb ha,h2.done⟩
    obtain⟨K2,v2,e2,S2⟩:=Jj hc hG R1 hid hp ⟨hr.K,hr.out⟩;refine⟨K2,v2,?_,⟨S2.le,S2.nd,S2.out,S2.msg,S2.len⟩⟩;unfold AU;rw[nQ (show Es G.K (G.ms (.com src k (j'+1) b)).batch/\(G.ms (.com src k (j'+1) b)).view=v.view/\(G.ms (.com src k (j'+1) b)).inst=k/\(G.ms (.com src k (j'+1) b)).seq=(j':Int)+1/\(G.ms (.com src k (j'+1) b)).sender=src/\j'<16 from⟨Ny hG hb,h.view.symm,rfl,rfl,rfl,xM⟩)];simp only[Option.bind_some];rw[show((G.K,v):KN).2.pl k j'=some (i,p) from hpl];simp only[Option.bind_some];rw[aU (show ¬(G.ms (.com src k (j'+1) b)).kind=4 by show ¬(5:Int)=4;decide),nQ ⟨rfl,hon,hpn⟩];simp only[Option.bind_some];rw[show(G.ms (.com src k (j'+1) b)).batch=G.qR b from rfl,e2];rfl
theorem Ww(hc:vD c)(hv:Vs c.n c.q vs)(z:Nat->Int):Ih (c.f:Int) (vs.map fun i:Nat=>((i:Int),z i)):=by
 have hn:=hc.n;have hq:=hc.q;refine⟨by rw[aT,hv.len,hq];omega,fun i hi=> ?_,fun v hv'=> ?_⟩
 ·rw[aT] at hi
  have:=eO.1 hv.rise i (i+1) lK hi lK;simp only[bE,aS,aj hi,aj (show i<vs.length by omega),Option.map_some,Option.getD_some];omega
 obtain⟨i,hi,rfl⟩:=bM.1 hv';have:=hv.lt i hi;exact⟨by show(0:Int)<=i;omega,by show(i:Int)<_;omega⟩
theorem pK{a l h:Int}(h1:l<=a)(h2:a<=h):qU a l h=true:=aZ ⟨h1,h2⟩
theorem Yk(hc:vD c)(hG:sS c G)(hK:G.K.length<=900000)(h:tO c G N s v)(hm:vH c G (.proof src k (j+1) b vs))(hp:Tok.takeN c id (.proof src k (j+1) b vs) s=some (s',o)):
  Cw (who c id) (G.ce k (j+1) b vs) (G.K,v)=some ((G.K,v),.stale)/\s'=s/\o= []:=by
 obtain⟨hs,hpl,hb,hv⟩:=hm.form;rw[show Tok.takeN c id (.proof src k (j+1) b vs) s=(match Tok.tV s k (j+1) with
  |some sl=>match sl.done with
   |some _=>some (s,[])
   |none=>none
  |none=>none) from rfl] at hp
 cases hsl:Tok.tV s k (j+1) with
 |none=>rw[hsl] at hp;cases hp
 |some sl=>
  rw[hsl] at hp;simp only at hp;obtain⟨j',ins,hjj,hk,hj⟩:=Cq hsl;obtain rfl:j'=j:=lK;obtain⟨i,p,hpl',hon,hvw,h1,h2,xM,Qv⟩:=zW h hk hj
  cases hd:sl.done with
  |none=>rw[hd] at hp;cases hp
  |some q=>
   rw[hd] at hp;simp only[aD,aM] at hp;obtain⟨rfl,rfl⟩:=hp;refine⟨?_,rfl,rfl⟩;have hf4:=hc.f4;have two:=hb.two;have pm:=hpl.most;unfold Cw;rw[nQ (show U1 G.K (who c id).f (G.ce k (j'+1) b vs)/\ ∃(k' j'':Nat) (i:Ba) (p:uo),(G.ce k (j'+1) b vs).inst=k'/\(G.ce k (j'+1) b vs).seq=(j'':Int)+1/\v.pl k' j''=some (i,p)/\p.done.isSome=true from ?_)]
   ·rfl
   refine⟨⟨pK (by show(0:Int)<=0;decide) (by show(0:Int)<=12;decide),pK (by show(0:Int)<=k;omega) (by show(k:Int)<=c.f;omega),pK (by show(1:Int)<=((j'+1:Nat):Int);omega) (by show((j'+1:Nat):Int)<=16;omega),fun r hr=>mF.yZ hG hb r hr,ZP hG hb,by show(b.map _).length<=4;rw[aT];omega,Ww hc hv _,fun x hx=> ?_⟩,k,j',i,p,rfl,rfl,hpl',by rw[h1.2.2.2.2.2,hd];rfl⟩;obtain⟨a,ha,rfl⟩:=bM.1 hx;have hlt:=hv.lt a ha;have ok:=MB (m:= .com a k (j'+1) b) hc hG hK ⟨hlt,hpl,hb⟩;exact⟨ok.1,by show(lX (G.ms (.com a k (j'+1) b))).length<=_;have:=ok.2;omega,hm.has.2 a ha,rfl⟩
theorem acg(hc:vD c)(hG:sS c G)(h:tO c G N s v)(hid:id<c.n)(hm:vH c G m)(hp:Tok.takeN c id m s=some (s',o))(hr:Room G v o):
  ∃K' v' a,sP (who c id) (G.ms m) (num G.K (G.key m)) (G.K,v)=some ((K',v'),a)/\uF c G N v s' o K' v':=by
 have hK:G.K.length<=900000:=by have:=hr.K;omega
 cases m with
 |req t=>
  obtain⟨K',v',a,e,S⟩:=aeD hc hG h hid hm.form.1 hm.form.2 101 hp hr;exact⟨K',v',a,e,S⟩
 |prop src t=>
  obtain⟨K',v',a,e,S⟩:=OY hc hG h hid src hm.form.1 hm.form.2.1 hm.form.2.2 hp hr;exact⟨K',v',a,e,S⟩
 |pp src k seq b=>
  obtain⟨rfl,hpl,hb,hne⟩:=hm.form;obtain⟨j,rfl⟩: ∃j,seq=j+1:=⟨seq -1,by have:=hpl.one;omega⟩;obtain⟨K',v',e,S⟩:=ahE hc hG h hid hb hpl.k hp hr;refine⟨K',v',.used,?_,S⟩;show ppV (who c id) (G.ms (.pp src src (j+1) b)) ((src:Int).toNat) ((((j+1:Nat):Int) -1).toNat) (G.K,v)=_;rw[show(src:Int).toNat=src from rfl,show(((j+1:Nat):Int) -1).toNat=j by omega];exact e
 |uf src k seq b=>
  have hpl:=hm.form.2.1;obtain⟨j,rfl⟩: ∃j,seq=j+1:=⟨seq -1,by have:=hpl.one;omega⟩;obtain⟨K',v',e,S⟩:=YI hc hG h hid hm hp hr;refine⟨K',v',.used,?_,S⟩;show AU (who c id) (G.ms (.uf src k (j+1) b)) (num G.K (G.key (.uf src k (j+1) b))) ((src:Int).toNat) ((k:Int).toNat) ((((j+1:Nat):Int) -1).toNat) (G.K,v)=_;rw[show(src:Int).toNat=src from rfl,show(k:Int).toNat=k from rfl,show(((j+1:Nat):Int) -1).toNat=j by omega];exact e
 |com src k seq b=>
  have hpl:=hm.form.2.1;obtain⟨j,rfl⟩: ∃j,seq=j+1:=⟨seq -1,by have:=hpl.one;omega⟩;obtain⟨K',v',e,S⟩:=YJ hc hG h hid hm hp hr;refine⟨K',v',.used,?_,S⟩;show AU (who c id) (G.ms (.com src k (j+1) b)) (num G.K (G.key (.com src k (j+1) b))) ((src:Int).toNat) ((k:Int).toNat) ((((j+1:Nat):Int) -1).toNat) (G.K,v)=_;rw[show(src:Int).toNat=src from rfl,show(k:Int).toNat=k from rfl,show(((j+1:Nat):Int) -1).toNat=j by omega];exact e
 |proof src k seq b vs=>
  have hpl:=hm.form.2.1;obtain⟨j,rfl⟩: ∃j,seq=j+1:=⟨seq -1,by have:=hpl.one;omega⟩;obtain⟨e,rfl,rfl⟩:=Yk (id:=id) hc hG hK h hm hp;exact⟨G.K,v,.stale,e,uF.refl h⟩
 |rep src t=>cases hp
end
end
section
open Tok (TM)
section
variable{c:Tok.qM}{G:mF}{N:Nat}{s s' s1 s2:Tok.Nd}{v v' v1 v2:ql}{o o1 o2:Tok.Out}{K1 K2:KS}{k j seq id now node:Nat}{ins:List Tok.Sl}{sl sl':Tok.Sl}{i:Ba}{p p':uo}{t:Nat}{b:LN}{m:TM}
theorem ady(hc:vD c)(hG:sS c G)(hK:G.K.length<=900000)(hm:Ew c G m)(hne: ∀a t,m≠ .rep a t):nU (c.f:Int) (G.ms m):=by
 have hn:=hc.n
 cases m with
 |req t=>
  have rt:=hG.rq t hm.1 hm.2;have:=nU.req (f:=c.f) (G.rq t) rt.2.2.valid (by rw[rt.1];decide) (by rw[rt.1];decide);rw[rt.1] at this;exact this
 |prop src t=>
  have rt:=hG.rq t hm.2.1 hm.2.2;have:=hm.1;exact nU.prop src (G.rq t) (pK lK lK) rt.2.2.valid
 |pp src k seq b=>
  obtain⟨rfl,hp,hb,h0⟩:=hm;have p1:=hp.k;have p2:=hp.one;have p3:=hp.most;have two:=hb.two;have l1:1<=b.length:=by cases b with
   |nil=>exact absurd rfl h0
   |cons=>simp
  exact nU.pp src seq (G.qR b) (pK lK lK) (pK lK lK) (pK lK lK) (fun r hr=>(mF.yZ hG hb r hr).valid) (by unfold mF.qR;rw[aT];exact pK lK lK)
 |uf src k seq b=>
  obtain⟨h0,hp,hb⟩:=hm;have p1:=hp.k;have p2:=hp.one;have p3:=hp.most;have two:=hb.two;exact nU.v4 src k seq (G.qR b) (pK lK lK) (pK lK lK) (pK lK lK) (fun r hr=>(mF.yZ hG hb r hr).valid) (by unfold mF.qR;rw[aT];exact pK lK lK)
 |com src k seq b=>
  obtain⟨h0,hp,hb⟩:=hm;have p1:=hp.k;have p2:=hp.one;have p3:=hp.most;have two:=hb.two;exact nU.v5 src k seq (G.qR b) (pK lK lK) (pK lK lK) (pK lK lK) (fun r hr=>(mF.yZ hG hb r hr).valid) (by unfold mF.qR;rw[aT];exact pK lK lK)
 |proof src k seq b vs=>
  obtain⟨h0,hp,hb,hv⟩:=hm;have p1:=hp.k;have p2:=hp.one;have p3:=hp.most;have two:=hb.two;refine nU.proof src _ (pK lK lK) ⟨pK (by show(0:Int)<=0;decide) (by show(0:Int)<=12;decide),pK (by show(0:Int)<=k;omega) (by show(k:Int)<=c.f;omega),pK (by show(1:Int)<=seq;omega) (by show(seq:Int)<=16;omega),fun r hr=>(mF.yZ hG hb r hr).valid,by show qU ((b.map _).length:Int) 0 4=true;rw[aT];exact pK lK lK,Ww hc hv _,fun x hx=> ?_⟩;obtain⟨a,ha,rfl⟩:=bM.1 hx;have:=yC G.K (G.BO 5 a k seq b);exact pK (by show 0<=num _ _;omega) (by show num _ _<=_;omega)
 |rep src t=>exact absurd rfl (hne src t)
theorem abM(hc:vD c)(hG:sS c G)(h:tO c G N s v)(hN:N<=900000)(hid:id<c.n)(hm:vH c G m)(hp:Tok.takeN c id m s=some (s',o))(hr:Room G v o):
  ∃K' v',JD (who c id) (G.ms m) (num G.K (G.key m)) (G.bytes m) (G.K,v)=some (K',v')/\uF c G (N+1) v s' o K' v':=by
 have hK:G.K.length<=900000:=by have:=hr.K;omega
 obtain⟨K',v',a,e,S⟩:=acg hc hG h hid hm hp hr;have ok:=MB hc hG hK hm.form;have nr:=yC G.K (G.key m);have hne: ∀a t,m≠ .rep a t:=fun a t hh=>by subst hh;cases hp
 have hb:(G.bytes m).length<=65536:=by
  unfold mF.bytes;rw[av];have:=(qz (num G.K (G.key m)).toNat).2;have:=ok.2;omega
 have fit:Vh G.K v (who c id).f (G.ms m) (num G.K (G.key m)) (G.bytes m):=
  ⟨qJ nr.1 lK,⟨ok.1,by have:=ok.2;omega,mF.NU hm.has,rfl⟩,rfl,hb,ady hc hG hK hm.form hne,h.stop,by have:=h.cnt;omega⟩
 have mk: ∀v2:ql,(v2={v' with c0:=v'.c0+1}\/v2={v' with c2:=v'.c2+1})->uF c G (N+1) v s' o K' v2:=fun v2 h2=>by
  have hn:=S.nd;have cn:=hn.cnt;rcases h2 with rfl|rfl
  ·exact⟨S.le,{hn with cnt:=by show 0<=v'.c0+1/\v'.c0+1<=((N+1:Nat):Int)/\0<=v'.c2/\v'.c2<=((N+1:Nat):Int);omega},S.out,S.msg,S.len⟩
  exact⟨S.le,{hn with cnt:=by show 0<=v'.c0/\v'.c0<=((N+1:Nat):Int)/\0<=v'.c2+1/\v'.c2+1<=((N+1:Nat):Int);omega},S.out,S.msg,S.len⟩
 unfold JD;rw[nQ fit];simp only[Option.bind_some];rw[e];simp only[Option.map_some]
 cases a with
 |used=>exact⟨K',_,rfl,mk _ (.inl rfl)⟩
 |stale=>exact⟨K',_,rfl,mk _ (.inr rfl)⟩
theorem MG: ∀(l:List Tok.Sl) (m:List uo) (q top:Nat),1<=q->l.length=m.length->(∀(j:Nat) (s:Tok.Sl) (p:uo),l[j]?=some s->m[j]?=some p->p.has=s.has)->Tok.Dz l q top=(if nP m=0 then top else q -1+nP m)+1
 | [],[],q,top,_,_,_=>rfl
 | [],_::_,q,top,_,h,_=>by simp at h
 |_::_,[],q,top,_,h,_=>by simp at h
 |s::l,p::m,q,top,hq,h,hd=>by
  have ih:=fun top=>MG l m (q+1) top lK (mR h) fun j s p h1 h2=>hd (j+1) s p (mR h1) (mR h2);have h0:=hd 0 s p rfl rfl;rw[Tok.Dz,ih,nP,h0];by_cases hn:nP m=0
  ·rw[aV hn]
   simp only[hn,fH];cases s.has
   ·simp
   simp;omega
  rw[aU hn,aU hn,aU lK];omega
theorem VT(hG:sS c G)(h1:1<=t/\t<=G.nD.length)(hb:Up G.nD.length b):decide (G.rq t∈G.qR b)=b.any (Nat.beq t):=by
 rw[kG,dQ,List.any_eq_true];constructor
 ·intro h
  obtain⟨a,ha,e⟩:=bM.1 h;have:=hG.inj a t (hb a ha).1 (hb a ha).2 h1.1 h1.2 e;exact⟨a,ha,by rw[this];exact gB t⟩
 rintro⟨a,ha,e⟩;have:=bO e;rw[this];exact bM.2 ⟨a,ha,rfl⟩
theorem RX(hG:sS c G)(h1:1<=t/\t<=G.nD.length): ∀(l:List Tok.Sl) (m:List uo) (j0:Nat),l.length=m.length->(∀(j:Nat) (s:Tok.Sl),l[j]?=some s-> ∃p,m[j]?=some p/\ZF G k (j0+j) s p/\Ci c G k (j0+j) s)->Ej (G.rq t) m=Tok.AQ t l
 | [],[],_,_,_=>rfl
 | [],_::_,_,h,_=>by simp at h
 |_::_,[],_,h,_=>by simp at h
 |s::l,p::m,j0,h,hd=>by
  have ih:=RX hG h1 l m (j0+1) (mR h) fun j s hs=>by
   obtain⟨p,h1,h2,h3⟩:=hd (j+1) s (mR hs);rw[show j0+1+j=j0+(j+1) by omega];exact⟨p,by simpa using h1,h2,h3⟩
  obtain⟨p',e,r,ok⟩:=hd 0 s rfl;simp only[List.getElem?_cons_zero,aD] at e;subst e;rw[Ej,ih,r.1,r.2.1,r.2.2.2.2.2,VT hG h1 ok.b.up];show _=((s.has&&s.b.any (Nat.beq t))||(match s.done with|some (b,_)=>b.any (Nat.beq t)|none=>false)||Tok.AQ t l)
  congr 2
  cases hdn:s.done with
  |none=>rfl
  |some q=>
   obtain⟨b,vs⟩:=q;exact VT hG h1 (ok.done b vs hdn).1.up
theorem Ar(hG:sS c G)(hI:InR c G k ins i): ∀{tab:List Tok.Td} {T:List oO} (acc:List Rq),acc.length<=2->uq (Li G now) tab T->FT i.ps (oZ T) acc=acc++G.qR (Tok.pick ins tab (2 -acc.length))
 |_,_,acc,_,.nil=>by simp[oZ,FT,Tok.pick,mF.qR]
 |_,_,acc,ha,.cons (a:=a) (b:=b) (l:=l) (m:=m) hd tl=>by
  have hu:Ej (G.rq a.t) i.ps=Tok.AQ a.t ins:=RX hG hd.t ins i.ps 0 (by rw[hI.l1,hI.l2]) fun j s hs=>by
   rw[aO];exact hI.at_ j s hs
  unfold oZ;rw[kg];have hrd:=hd.ready;by_cases hr:a.ready=true
  ·rw[aV (by rw[hrd];exact hr),bV,FT,hd.r,hu]
   by_cases h2:acc.length<2
   ·obtain⟨r,hr2⟩: ∃r,2 -acc.length=r+1:=⟨2 -acc.length -1,lK⟩
    rw[hr2,show Tok.pick ins (a::l) (r+1)=if a.ready&&!Tok.AQ a.t ins then a.t::Tok.pick ins l r else Tok.pick ins l (r+1) from rfl,hr];by_cases hus:Tok.AQ a.t ins=true
    ·rw[hus]
     simp only[lq,kR,dz,gH];have:=Ar hG hI acc ha tl;rw[hr2] at this;exact this
    have hus:Tok.AQ a.t ins=false:=by simpa using hus
    rw[hus];simp only[Bool.not_false,jU,fH,dQ,h2];have:=Ar hG hI (acc++ [G.rq a.t]) (by simp;omega) tl;rw[show 2 -(acc++ [G.rq a.t]).length=r by simp;omega] at this;unfold oZ at this;rw[this,bW];rfl
   have e2:acc.length=2:=lK;rw[aU (by simp[e2])];have:=Ar hG hI acc ha tl;rw[e2] at this|-;unfold oZ at this;rw[this];cases l<;>rfl
  rw[aU (by rw[hrd];exact hr)];have:=Ar hG hI acc ha tl;unfold oZ at this;rw[this]
  congr 1
  cases h2:2 -acc.length with
  |zero=>cases l<;>rfl
  |succ r=>
   rw[show Tok.pick ins (a::l) (r+1)=if a.ready&&!Tok.AQ a.t ins then a.t::Tok.pick ins l r else Tok.pick ins l (r+1) from rfl];have hr:a.ready=false:=by simpa using hr
   rw[hr];simp
end
end
section
open Tok (TM)
section
variable{c:Tok.qM}{G:mF}{N:Nat}{s s' s1 s2:Tok.Nd}{v v' v1 v2:ql}{o o1 o2:Tok.Out}{K1 K2:KS}{k j seq id now node:Nat}{ins:List Tok.Sl}{sl sl':Tok.Sl}{i:Ba}{p p':uo}{t:Nat}{b:LN}{m:TM}
theorem JF: ∀(l:LN),Tok.rises l=true->l.Pairwise (· < ·)
 | [],_=> .nil
 | [x],_=>by simp
 |x::y::l,h=>by
  rw[show Tok.rises (x::y::l)=(Nat.blt x y&&Tok.rises (y::l)) from rfl,bX] at h;have ih:=JF (y::l) h.2;have hlt:x<y:=by have:=h.1;rw[iA] at this;exact this
  refine eu.2 ⟨fun a ha=> ?_,ih⟩;rcases ay.1 ha with rfl|ha
  ·exact hlt
  have:=(eu.1 ih).1 a ha;omega
theorem Jt(ins:List Tok.Sl): ∀(tab:List Tok.Td) (r:Nat),(Tok.pick ins tab r).length<=r
 | [],r=>by simp[Tok.pick]
 |d::l,0=>by simp[Tok.pick]
 |d::l,r+1=>by
  rw[show Tok.pick ins (d::l) (r+1)=if d.ready&&!Tok.AQ d.t ins then d.t::Tok.pick ins l r else Tok.pick ins l (r+1) from rfl];split
  ·have:=Jt ins l r
   simp only[List.length_cons];omega
  exact Jt ins l (r+1)
theorem Ju(ins:List Tok.Sl): ∀(tab:List Tok.Td) (r t:Nat),t∈Tok.pick ins tab r-> ∃d∈tab,d.t=t
 | [],r,t,h=>by simp[Tok.pick] at h
 |d::l,0,t,h=>by simp[Tok.pick] at h
 |d::l,r+1,t,h=>by
  rw[show Tok.pick ins (d::l) (r+1)=if d.ready&&!Tok.AQ d.t ins then d.t::Tok.pick ins l r else Tok.pick ins l (r+1) from rfl] at h;split at h
  ·rcases ay.1 h with rfl|h
   ·exact⟨d,lT,rfl⟩
   obtain⟨e,he,h'⟩:=Ju ins l r t h;exact⟨e,by simp[he],h'⟩
  obtain⟨e,he,h'⟩:=Ju ins l (r+1) t h;exact⟨e,by simp[he],h'⟩
theorem uq.left{α β:Type}{R:α->β->Prop}: ∀{l:List α} {m:List β},uq R l m-> ∀a∈l,∃b∈m,R a b
 |_,_,.nil,a,h=>by simp at h
 |_,_,.cons h t,a,ha=>by
  rcases ay.1 ha with rfl|ha
  ·exact⟨_,lT,h⟩
  obtain⟨b,hb,hr⟩:=t.left a ha;exact⟨b,by simp[hb],hr⟩
theorem Rb(hc:vD c)(hG:sS c G)(h:tO c G N s v)(hid:id<c.n)(hp:Tok.propose c id k s=some (s',o))(hr:Room G v o):
  ∃K' v',Au (who c id) k (G.K,v)=some (K',v')/\uF c G N v s' o K' v':=by
 unfold Tok.propose at hp;rw[oV] at hp
 cases hk:s.insts[k]? with
 |none=>rw[hk] at hp;cases hp
 |some ins=>
  rw[hk] at hp;simp only at hp;obtain⟨i,hv,hI⟩:=h.at_ k ins hk;have Qv:k<=c.f:=by have:=(ah.1 hk).1;rw[h.il] at this;omega
  have tl:=h.tab.len;have tb:=h.Fh;obtain⟨pl,pl1,pl2⟩:=h.nN k Qv;have fit:Vg (who c id) v i k:=⟨hI.on,h.view,by show(k:Int)<=c.f;omega,lK,hI.l2,⟨pl,pl1,pl2⟩⟩;have hseq:Tok.Dz ins 1 0=nP i.ps+1:=by
   rw[MG ins i.ps 1 0 (aF 1) (by rw[hI.l1,hI.l2]) fun j s p h1 h2=>by
    obtain⟨p',h3,h4,_⟩:=hI.at_ j s h1;rw[h2] at h3;injection h3 with h3;subst h3;exact h4.1]
   split<;>omega
  unfold Au;rw[show((G.K,v):KN).2.is[k]?=some i from hv];simp only[Option.bind_some];rw[nQ fit];simp only[Option.bind_some];rw[hseq] at hp;have hdone:=hI.done;by_cases hcond:k≠id\/16<=nP i.ps\/oh i.ps+4<=nP i.ps
  ·have hc1:(!Nat.beq k id||Nat.blt 16 (nP i.ps+1)||Nat.blt (Tok.doneN ins+4) (nP i.ps+1))=true:=by
    rw[eZ,eZ];rcases hcond with h|h|h
    ·left;left
     have:Nat.beq k id=false:=by rw[jT];exact fun e=>h (bO e)
     rw[this];rfl
    ·left;right
     rw[iA];omega
    right;rw[iA,<-hdone];omega
   rw[aV hc1] at hp;rw[aV (show k≠(who c id).id\/16<=nP i.ps\/oh i.ps+4<=nP i.ps from hcond)];simp only[aD,aM] at hp;obtain⟨rfl,rfl⟩:=hp;exact⟨G.K,v,rfl,uF.refl h⟩
  have aky:k=id:=Classical.byContradiction fun e=>hcond (.inl e);have h16:nP i.ps<16:=jq fun e=>hcond (.inr (.inl e));have aox:nP i.ps<oh i.ps+4:=jq fun e=>hcond (.inr (.inr e));have hc1: ¬(!Nat.beq k id||Nat.blt 16 (nP i.ps+1)||Nat.blt (Tok.doneN ins+4) (nP i.ps+1))=true:=by
   rw[eZ,eZ,aky,gB,iA,iA,<-hdone];rintro((h|h)|h)
   ·cases h
   ·omega
   omega
  rw[aU hc1] at hp;rw[aU (show ¬(k≠(who c id).id\/16<=nP i.ps\/oh i.ps+4<=nP i.ps) from hcond)];have hpk:=Ar hG hI [] lT h.tab;rw[List.nil_append,List.length_nil,Nat.sub_zero] at hpk;rw[hpk];obtain⟨b,hbp⟩:=ex (Tok.pick ins s.tab 2);rw[<-hbp] at hp|-
  cases b with
  |nil=>
   simp only[aD,aM] at hp;obtain⟨rfl,rfl⟩:=hp;exact⟨G.K,v,by rw[aV (show G.qR []= [] from rfl)],uF.refl h⟩
  |cons x b=>
   simp only at hp;rw[aU (show ¬G.qR (x::b)= [] by simp[mF.qR])];split at hp
   ·rename_i hrise
    have hb:Gl G (x::b):=⟨fun t ht=>by
     rw[hbp] at ht;obtain⟨d,hd,rfl⟩:=Ju ins s.tab 2 t ht;obtain⟨e,_,hr⟩:=h.tab.left d hd;exact hr.t,by rw[hbp];exact Jt _ _ _,JF _ hrise⟩
    cases hpre:Tok.pre k (nP i.ps+1) (x::b) s with
    |none=>rw[hpre] at hp;cases hp
    |some s1=>
     rw[hpre] at hp;simp only at hp
     cases hac:Tok.accepted c id k (nP i.ps+1) (x::b) s1 with
     |none=>rw[hac] at hp;cases hp
     |some q=>
      obtain⟨s2,o2⟩:=q;rw[hac] at hp;simp only[aD,aM] at hp;obtain⟨rfl,rfl⟩:=hp;obtain⟨v1,e1,R1,ho⟩:=Wp hG h hb hpre;have R2:=abG R1 Qv (nP i.ps+1) (v.view+1);have hM:({(⟨3,0,v.view,k,(nP i.ps:Int)+1,0,G.qR (x::b),[],[]⟩:Ms) with sender:=(id:Int)}:Ms)=G.ms (.pp k k (nP i.ps+1) (x::b)):=by
       rw[h.view,aky];rfl
      obtain⟨v3,e3,_,S3⟩:=Ed hc hG R2 hid _ (.pp k k (nP i.ps+1) (x::b)) hM ⟨rfl,⟨Qv,lK,lK⟩,hb,lT⟩ trivial ⟨hr.left.K,by show v1.out.length+_<=_;rw[ho];exact hr.left.out⟩;have S3':uF c G N v s1 (Tok.sendAll c.n id (.pp k k (nP i.ps+1) (x::b)) c.n) _ v3:=⟨S3.le,S3.nd,by rw[S3.out];show v1.out++_=_;rw[ho],S3.msg,S3.len⟩;obtain⟨K4,v4,e4,S4⟩:=Vk hc (hG.le S3'.le) S3'.nd hid hac (hr.right S3');refine⟨K4,v4,?_,S3'.then hG S4⟩;rw[e1];simp only[Option.bind_some];rw[e3];simp only[Option.bind_some];exact e4
   cases hp
theorem DL(hc:vD c)(hid:id<c.n): ∀(m k:Nat) (G:mF) (s s':Tok.Nd) (v:ql) (o:Tok.Out),sS c G->tO c G N s v->Tok.tF c id m k s=some (s',o)->Room G v o-> ∃K' v',tN (who c id) m k (G.K,v)=some (K',v')/\uF c G N v s' o K' v'
 |0,k,G,s,s',v,o,hG,h,hp,hr=>by
  simp only[Tok.tF,aD,aM] at hp;obtain⟨rfl,rfl⟩:=hp;exact⟨G.K,v,rfl,uF.refl h⟩
 |m+1,k,G,s,s',v,o,hG,h,hp,hr=>by
  rw[Tok.tF] at hp
  cases h1:Tok.propose c id k s with
  |none=>rw[h1] at hp;cases hp
  |some q=>
   obtain⟨s1,o1⟩:=q;rw[h1] at hp;simp only at hp
   cases h2:Tok.tF c id m (k+1) s1 with
   |none=>rw[h2] at hp;cases hp
   |some q=>
    obtain⟨s2,o2⟩:=q;rw[h2] at hp;simp only[aD,aM] at hp;obtain⟨rfl,rfl⟩:=hp;obtain⟨K1,v1,e1,S1⟩:=Rb hc hG h hid h1 hr.left;obtain⟨K2,v2,e2,S2⟩:=DL hc hid m (k+1) (G.at K1) s1 s2 v1 o2 (hG.le S1.le) S1.nd h2 (hr.right S1);refine⟨K2,v2,?_,S1.then hG S2⟩;rw[tN,e1];exact e2
theorem Cx(hc:vD c)(hid:id<c.n): ∀(rest:List (List Tok.Sl)) (k:Nat) (G:mF) (s:Tok.Nd) (v:ql) (o:Tok.Out),sS c G->tO c G N s v->s.insts.drop k=rest->Tok.proofs c id s.now rest k=some o->Room G v o-> ∃K' v',wX (who c id) rest.length k (G.K,v)=some (K',v')/\(∃O0,v'={v with out:=O0})/\uF c G N v s o K' v'
 | [],k,G,s,v,o,hG,h,hd,hp,hr=>by
  simp only[Tok.proofs,aD] at hp;subst hp;exact⟨G.K,v,rfl,⟨v.out,rfl⟩,uF.refl h⟩
 |ins::rest,k,G,s,v,o,hG,h,hd,hp,hr=>by
  have hk:s.insts[k]?=some ins:=by
   have:=congrArg (fun l=>l[0]?) hd;simpa using this
  have hd':s.insts.drop (k+1)=rest:=by rw[<-List.drop_drop,hd];rfl
  have Qv:k<=c.f:=by have:=(ah.1 hk).1;rw[h.il] at this;omega
  obtain⟨i,hv,hI⟩:=h.at_ k ins hk;rw[Tok.proofs] at hp
  cases h1:Tok.proofs c id s.now rest (k+1) with
  |none=>rw[h1] at hp;cases hp
  |some o2=>
   rw[h1] at hp;simp only at hp;rw[List.length_cons,wX,show((G.K,v):KN).2.is[k]?=some i from hv];simp only[Option.bind_some];rw[hI.done];by_cases h0:Tok.doneN ins=0
   ·rw[aV (by rw[h0];rfl)] at hp
    injection hp with hp;subst hp;rw[aV h0];simp only[Option.bind_some];exact Cx hc hid rest (k+1) G s v o2 hG h hd' h1 hr
   rw[aU (fun e=>h0 (bO e)),oV,fG] at hp;rw[aU h0,show((G.K,v):KN).2.now.toNat=s.now by show v.now.toNat=_;rw[h.now];rfl]
   cases hsl:ins[s.now/2%Tok.doneN ins]? with
   |none=>rw[hsl] at hp;cases hp
   |some sl=>
    rw[hsl] at hp;simp only at hp;obtain⟨p,hp1,r1,r2⟩:=hI.at_ _ sl hsl
    cases hdn:sl.done with
    |none=>rw[hdn] at hp;cases hp
    |some q=>
     obtain⟨b,vs⟩:=q;rw[hdn] at hp;simp only[aD] at hp;subst hp;have xM:s.now/2%Tok.doneN ins<16:=by
      have:=(ah.1 hsl).1;rw[hI.l1] at this;exact this
     obtain⟨d1,d2,d3⟩:=r2.done b vs hdn;rw[hp1,Option.bind_some,r1.2.2.2.2.2,hdn];simp only[Option.map_some,Option.bind_some];have e1':1+s.now/2%Tok.doneN ins=s.now/2%Tok.doneN ins+1:=lK;rw[e1'] at hr|-;obtain⟨v1,e1,⟨O1,hO1⟩,S1⟩:=Ed hc hG h hid ⟨9,0,0,0,0,0,[],[],[G.ce k (s.now/2%Tok.doneN ins+1) b vs]⟩ (.proof id k (s.now/2%Tok.doneN ins+1) b vs) rfl ⟨hid,⟨Qv,lK,lK⟩,d1,d2⟩ d3 hr.left;obtain⟨K2,v2,e2,⟨O2,hO2⟩,S2⟩:=Cx hc hid rest (k+1) (G.at _) s v1 o2 (hG.le S1.le) S1.nd hd' h1 (hr.right S1);refine⟨K2,v2,?_,⟨O2,by rw[hO2,hO1]⟩,S1.then hG S2⟩;rw[e1];simp only[Option.map_some,Option.bind_some];exact e2
theorem Qa: ∀(l:List Tok.Sl) (m:List uo),l.length=m.length->(∀(j:Nat) (s:Tok.Sl) (p:uo),l[j]?=some s->m[j]?=some p->p.has=s.has/\p.done.isSome=s.done.isSome)->Tok.calm l=true->Vq m
 | [],[],_,_,_=>fun p hp=>by simp at hp
 | [],_::_,h,_,_=>by simp at h
 |_::_,[],h,_,_=>by simp at h
 |s::l,p::m,h,hd,hcm=>by
  rw[show Tok.calm (s::l)=((!s.has||s.done.isSome)&&Tok.calm l) from rfl,bX] at hcm;have ih:=Qa l m (mR h) (fun j s p h1 h2=>hd (j+1) s p (mR h1) (mR h2)) hcm.2;have h0:=hd 0 s p rfl rfl;intro q hq hh;rcases ay.1 hq with rfl|hq
  ·rw[h0.1] at hh
   have:=hcm.1;rw[hh] at this;rw[h0.2];simpa using this
  exact ih q hq hh
theorem Xn(hc:vD c)(hG:sS c G)(h:tO c G N s v)(hid:id<c.n)(hp:Tok.Nv c id s=some o)(hr:Room G v o):
  ∃K' v',EB (who c id) (G.K,v)=some (K',v')/\(∃O0,v'={v with out:=O0})/\uF c G N v s o K' v':=by
 unfold Tok.Nv at hp;split at hp
 ·rename_i hcond
  rw[bX] at hcond;have ht:s.tab= []:=List.isEmpty_iff.1 hcond.2;have hT:v.T= []:=by
   have:=h.tab.len;rw[ht] at this;exact dA this.symm
  have nb:=h.Ag;have fit:Px (who c id) v:=by
   refine⟨fun i hi=> ?_,h.view,h.vk,by rw[hT];simp,by rw[h.now];omega,by rw[h.vl];show((c.f+1:Nat):Int)=c.f+1;omega,by rw[h.vZ,h.vl]⟩;obtain⟨k,hk⟩:=bT.1 hi;have hkl:k<s.insts.length:=by rw[h.il,<-h.vl];exact(ah.1 hk).1
   obtain⟨i',hi',hI⟩:=h.at_ k s.insts[k] (aj hkl);rw[hk] at hi';injection hi' with hi';subst hi';refine⟨hI.on,Qa s.insts[k] i.ps (by rw[hI.l1,hI.l2]) (fun j s p h1 h2=> ?_) ?_,hI.l2⟩
   ·obtain⟨p',h3,h4,_⟩:=hI.at_ j s h1
    rw[h2] at h3;injection h3 with h3;subst h3;exact⟨h4.1,by rw[h4.2.2.2.2.2];simp⟩
   exact jk.1 hcond.1 _ (bY hkl)
  obtain⟨K',v',e,⟨O0,hO⟩,S⟩:=Cx hc hid s.insts 0 G s v o hG h rfl hp hr;refine⟨K',v',?_,⟨O0,hO⟩,S⟩;unfold EB;rw[nQ fit];simp only[Option.bind_some];rw[show v.is.length=s.insts.length by rw[h.vl,h.il],e];simp only[Option.bind_some];rw[show v'.T= [] by rw[hO];exact hT];rfl
 cases hp
theorem Rw: ∀g:List (Nat×Nat),uh (g.map fun p=>((p.1:Int),(p.2:Int)))=((Tok.vN g).1:Int)/\zK (g.map fun p=>((p.1:Int),(p.2:Int)))=((Tok.vN g).2:Int)
 | []=>⟨rfl,rfl⟩
 |(a,b)::l=>by
  obtain⟨h1,h2⟩:=Rw l;unfold uh zK at*;simp only[bV,List.sum_cons,h1,h2];show(a:Int)+_=((a+(Tok.vN l).1:Nat):Int)/\(b:Int)+_=((b+(Tok.vN l).2:Nat):Int);omega
theorem aam{t:Nat}{l:List (Nat×Nat)}(h:Tok.fine ((n,t)::l)=true):rH 1 2 8 (n:Int) (t:Int) (l.map fun p=>((p.1:Int),(p.2:Int)))=false:=by
 obtain⟨h1,h2⟩:=Rw l;have h':(!Nat.blt (n*2*Tok.len l) (1*(Tok.vN l).1)&&(Nat.beq n 0||Nat.beq (Tok.vN l).1 0||!Nat.blt ((Tok.vN l).2*n+8*n*(Tok.vN l).1) (t*(Tok.vN l).1)))=true:=h;rw[bX] at h';unfold rH Rt zC;rw[h1,h2,aT,kU];refine⟨?_,?_⟩
 ·have h3:=h'.1
  have: ¬n*2*l.length<1*(Tok.vN l).1:=fun e=>by
   rw[<-pQ l] at e;have:Nat.blt (n*2*Tok.len l) (1*(Tok.vN l).1)=true:=by rw[iA];exact e
   rw[this] at h3;cases h3
  rw[kK];right;refine aR fun e=>this ?_;have e2:((n*2*l.length:Nat):Int)<((1*(Tok.vN l).1:Nat):Int):=by push_cast;exact e
  exact Int.ofNat_lt.1 e2
 have h3:=h'.2;rw[eZ,eZ] at h3;rcases h3 with(h3|h3)|h3
 ·have:=bO h3
  rw[aR (by omega: ¬(0:Int)<n)];rfl
 ·have:=bO h3
  rw[aR (by omega: ¬(0:Int)<((Tok.vN l).1:Int))];simp
 have: ¬(Tok.vN l).2*n+8*n*(Tok.vN l).1<t*(Tok.vN l).1:=fun e=>by
  have:Nat.blt ((Tok.vN l).2*n+8*n*(Tok.vN l).1) (t*(Tok.vN l).1)=true:=by rw[iA];exact e
  rw[this] at h3;cases h3
 rw[kK];right;refine aR fun e=>this ?_;have e2:(((Tok.vN l).2*n+8*n*(Tok.vN l).1:Nat):Int)<((t*(Tok.vN l).1:Nat):Int):=by push_cast;exact e
 exact Int.ofNat_lt.1 e2
theorem uq.right{α β:Type}{R:α->β->Prop}: ∀{l:List α} {m:List β},uq R l m-> ∀b∈m,∃a∈l,R a b
 |_,_,.nil,a,h=>by simp at h
 |_,_,.cons h t,b,hb=>by
  rcases ay.1 hb with rfl|hb
  ·exact⟨_,lT,h⟩
  obtain⟨a,ha,hr⟩:=t.right b hb;exact⟨a,by simp[ha],hr⟩
theorem ahC(hG:sS c G)(h:tO c G N s v)(ho:Tok.abq s.now s.tab=true):SH v.T/\Uv v.now v.since v.T (oZ v.T)=false:=by
 have nb:=h.Ag;have key: ∀r∈oZ v.T,∃e:oO,AA v.T r=some (some e.since)/\0<=e.since/\e.since<=s.now/\(s.now:Int) -e.since<=12:=fun r hr=>by
  unfold oZ at hr;obtain⟨e0,he0,rfl⟩:=bM.1 hr;rw[kI] at he0;obtain⟨d,hd,hde⟩:=h.tab.right e0 he0.1;have hall:=jk.1 ho d hd;have hrd:d.ready=true:=by rw[<-hde.ready];exact he0.2
  rw[hrd] at hall;simp only[lq,jV] at hall
  cases ha:Tok.Pn s.tab d.t with
  |none=>rw[ha] at hall;cases hall
  |some od=>
   cases od with
   |none=>rw[ha] at hall;cases hall
   |some d'=>
    rw[ha] at hall;simp only[bX] at hall;obtain⟨i,e,e1,e2,e3,e4,e5⟩:=(ED hG hde.t.1 hde.t.2 0 h.tab).2 d' ha;have hle:=eD hall.2;have hdl:=e4.le;refine⟨e,?_,by rw[e4.since];omega,by rw[e4.since];omega,by rw[e4.since];omega⟩;unfold AA;rw[hde.r,e1];simp only[Option.map_some,fH,aO,e3];rw[e4.ready,hall.1];rfl
 refine⟨fun r hr=> ?_,?_⟩
 ·obtain⟨e,h1,h2,h3,_⟩:=key r hr
  exact⟨e.since,h1,h2,lK⟩
 unfold Uv;rw[List.any_eq_false];intro r hr;obtain⟨e,h1,h2,h3,h4⟩:=key r hr;have:abL v.T r=e.since:=by unfold abL;rw[h1]
 rw[this,h.now,dQ];have:e.since<=max e.since v.since:=Int.le_max_left _ _;omega
theorem aco(hc:vD c)(hG:sS c G)(h:tO c G N s v)(hid:id<c.n)(hp:Tok.WJ c id s=some (s',o))(hr:Room G v o):
  ∃K' v',Ni (who c id) (G.K,v)=some (K',v')/\uF c G N v s' o K' v':=by
 unfold Tok.WJ at hp;split at hp
 ·cases hp
 rename_i aj5;have hlt: ¬900<=s.now:=fun e=>aj5 (dS e);have fit:Vj (who c id) v:=⟨h.stop,by rw[h.now];omega,by rw[h.vl];show((c.f+1:Nat):Int)=c.f+1;omega⟩;have R1:tO c G N {s with now:=s.now+1} {v with now:=v.now+1}:={h with
  now:=by show v.now+1=((s.now+1:Nat):Int);rw[h.now];omega
  Ag:=by show s.now+1<=1000;omega
  tab:=h.tab.imp fun a b hd=>⟨hd.r,hd.t,hd.nX,hd.l,hd.ready,hd.since,Nat.le_succ_of_le hd.le⟩
  JM:=Nat.le_succ_of_le h.JM}
 cases h1:Tok.tF c id (c.f+1) 0 {s with now:=s.now+1} with
 |none=>rw[h1] at hp;cases hp
 |some q=>
  obtain⟨s1,o1⟩:=q;rw[h1] at hp;simp only at hp
  cases h2:(if Nat.beq (s1.now%2) 0 then Tok.Nv c id s1 else some []) with
  |none=>rw[h2] at hp;cases hp
  |some o2=>
   rw[h2] at hp;simp only at hp;split at hp
   ·cases hp
   rename_i hok;have hok:Tok.abq s1.now s1.tab=true:=by simpa using hok
   have fin: ∃s3,s'=s3/\o=o1++o2:=⟨s',rfl,by
    split at hp
    ·split at hp
     ·simp only[aD,aM] at hp
      exact hp.2.symm
     cases hp
    simp only[aD,aM] at hp;exact hp.2.symm⟩
   obtain⟨_,_,ho⟩:=fin;have hr':Room G {v with now:=v.now+1} (o1++o2):=by rw[<-ho];exact⟨hr.K,hr.out⟩
   obtain⟨K1,v1,e1,S1⟩:=DL hc hid (c.f+1) 0 G _ s1 _ o1 hG R1 h1 hr'.left;have hG1:=hG.le S1.le;have hag: ∃K2 v2,(if v1.now%2=0 then EB (who c id) (K1,v1) else some (K1,v1))=some (K2,v2)/\uF c (G.at K1) N v1 s1 o2 K2 v2:=by
    have hn:v1.now%2=((s1.now%2:Nat):Int):=by rw[S1.nd.now];omega
    by_cases h0:s1.now%2=0
    ·rw[aV (by rw[h0];rfl)] at h2
     rw[aV (by rw[hn,h0];rfl)];obtain⟨K2,v2,e2,_,S2⟩:=Xn hc hG1 S1.nd hid h2 (hr'.right S1);exact⟨K2,v2,e2,S2⟩
    rw[aU (fun e=>h0 (bO e))] at h2;injection h2 with h2;subst h2;rw[aU (by rw[hn];omega)];exact⟨K1,v1,rfl,uF.refl S1.nd⟩
   obtain⟨K2,v2,e2,S2⟩:=hag;have S:=S1.then hG S2;have hG2:=hG.le S.le;have R:=S.nd;have okk:=ahC hG2 R hok;have rb:=R.Ag;have sb:=R.JM;have tl:=R.tab.len;have tb:=R.Fh;have hgl:v2.ga.length=c.f+1:=by rw[R.ga,aT,R.gal]
   obtain⟨i0,hi0,hI0⟩:=R.at_ 0 (s1.insts[0]'(by rw[R.il];omega)) (aj _);have f1:=hc.f1;have f4:=hc.f4;have akm: ∀p∈v2.ga,0<=p.1/\p.1<1048576/\0<=p.2/\p.2<1048576:=fun p hp'=>by
    rw[R.ga] at hp';obtain⟨q,hq,rfl⟩:=bM.1 hp';have:=R.gaB q hq;exact⟨by show(0:Int)<=q.1;omega,by show(q.1:Int)<_;omega,by show(0:Int)<=q.2;omega,by show(q.2:Int)<_;omega⟩
   have late:(v2.start+8<=v2.now->Tok.fine s1.wT=true)->GJ v2:=fun hf=>by
    refine⟨⟨i0,hi0,hI0.on⟩,by rw[R.now];omega,lK,R.since,by rw[R.start];omega,okk.1,okk.2,⟨lK,lK,akm⟩,fun hst m l hml=> ?_⟩;have hf:=hf hst;rw[R.ga] at hml
    cases hg:s1.wT with
    |nil=>rw[hg] at hml;cases hml
    |cons q g=>
     obtain⟨a,b⟩:=q;rw[hg] at hml hf;simp only[bV,gT] at hml;obtain⟨rfl,rfl⟩:=hml;exact aam hf
   have pre: ∀L:GJ v2,Ni (who c id) (G.K,v)=some (if v2.start+8<=v2.now then(K2,{v2 with ga:=List.replicate v2.ga.length (0,0),start:=v2.now}) else(K2,v2)):=fun L=>by
    unfold Ni;rw[nQ fit];simp only[Option.bind_some];rw[show v.is.length=c.f+1 from h.vl,e1];simp only[Option.bind_some];have n1:=S1.nd.Ag;rw[nQ (show 0<=v1.now/\v1.now<=1000000 by rw[S1.nd.now];omega)];simp only[Option.bind_some];rw[e2];simp only[Option.bind_some];rw[nQ L];rfl
   rw[ho];by_cases hst:s1.start+8<=s1.now
   ·rw[aV (dS hst)] at hp
    split at hp
    ·rename_i hf
     simp only[aD,aM] at hp;obtain⟨rfl,_⟩:=hp;have hst':v2.start+8<=v2.now:=by rw[R.start,R.now];omega
     refine⟨K2,{v2 with ga:=List.replicate v2.ga.length (0,0),start:=v2.now},by rw[pre (late fun _=>hf),aV hst'],⟨S.le,?_,S.out,S.msg,S.len⟩⟩;exact{R with
      ga:=by
       show List.replicate v2.ga.length (0,0)=(Tok.tH (c.f+1) (0,0)).map _;rw[qH,hgl];simp
      gal:=by show(Tok.tH (c.f+1) (0,0)).length=_;rw[qH];simp
      gaB:=fun p hp'=>by
       replace hp':p∈Tok.tH (c.f+1) (0,0):=hp';rw[qH] at hp';rw[dO hp'];exact⟨bF _,bF _⟩
      start:=R.now
      JM:=aF _}
    cases hp
   rw[aU (fun e=>hst (eD e))] at hp;simp only[aD,aM] at hp;obtain⟨rfl,_⟩:=hp;have hst': ¬v2.start+8<=v2.now:=by rw[R.start,R.now];omega
   exact⟨K2,v2,by rw[pre (late fun e=>absurd e hst'),aU hst'],⟨S.le,S.nd,S.out,S.msg,S.len⟩⟩
end
end
section
open Tok (TM)
structure CkR(G:mF)(s:Tok.Ck)(X:U2):Prop where
 waits:X.waits=s.waits
 il:X.il=G.nD
 yK:s.issued=G.nD.length
 at_:X.at_=s.at_
 now:X.now=s.now
 Ag:s.now<=1000
 atB:s.at_<=s.now
 al:s.waits=true->X.al=s.ans.map fun src:Nat=>((src:Int),G.res.getD (s.issued -1) 0)
 agE:s.waits=true->s.ans.length<=100
 el:X.el=(G.nD.zip G.res).take s.acc
 acc:if s.waits then s.acc+1=s.issued else s.acc=s.issued
 alB:X.al.length<=200
structure Xg(c:Tok.qM)(G:mF)(l:List (List TM))(M:Nat->List LI):Prop where
 len:l.length=(c.n+2)*(c.n+2)
 val: ∀(k:Nat) (ms:List TM),l[k]?=some ms->M k=ms.map G.bytes
 ok: ∀(k:Nat) (ms:List TM),l[k]?=some ms-> ∀m∈ms,vH c G m/\k/(c.n+2)≠k%(c.n+2)/\k%(c.n+2)≠c.n
structure Km(c:Tok.qM)(G:mF)(N:Nat)(x:Tok.Cl)(X:CV):Prop where
 g:sS c G
 K:X.K=G.K
 Kl:G.K.length<=x.sent
 Ks:x.sent<=600000
 nl:x.nodes.length=c.n
 nl':X.nodes.length=c.n
 no: ∀i:Nat,x.nodes[i]?=some none->X.nodes[i]?=some none
 nd: ∀(i:Nat) (s:Tok.Nd),x.nodes[i]?=some (some s)-> ∃v,X.nodes[i]?=some (some v)/\tO c G N s v/\v.out= []
 ck:CkR G x.ck X.ck
 t0:X.t0=x.ck.now
 lk:Xg c G x.links X.M
section
variable{c:Tok.qM}{G:mF}{N:Nat}{x x':Tok.Cl}{X X':CV}{l l':List (List TM)}{M M':Nat->List LI}{o:Tok.Out}{K':KS}
theorem CkR.MW{X:U2}(h:CkR G s X):CkR (G.at K') s X:=⟨h.waits,h.il,h.yK,h.at_,h.now,h.Ag,h.atB,h.al,h.agE,h.el,h.acc,h.alB⟩
theorem Xg.MW(h:Xg c G l M)(hK:xC G K')(hl:G.res.length=G.nD.length):Xg c (G.at K') l M:=
 ⟨h.len,fun k ms hk=>by
  rw[h.val k ms hk];exact dX fun m hm=>(((h.ok k ms hk m hm).1.le hK hl).2).symm,fun k ms hk m hm=>⟨((h.ok k ms hk m hm).1.le hK hl).1,(h.ok k ms hk m hm).2⟩⟩
theorem tO.more{s:Tok.Nd}(h:tO c G N s v)(hN:N<=N'):tO c G N' s v:={h with cnt:=by have:=h.cnt;omega}
theorem MQ: ∀(l:List (List TM)) (k:Nat) (m:TM) (l':List (List TM)),Tok.Av l k m=some l'-> ∃ms,l[k]?=some ms/\ms.length<64/\l'=l.set k (ms++ [m])
 | [],k,m,l',h=>by cases h
 |ms::l,0,m,l',h=>by
  rw[show Tok.Av (ms::l) 0 m=if Nat.ble 64 (Tok.len ms) then none else some ((ms++ [m])::l) from rfl] at h;split at h
  ·cases h
  rename_i hb;injection h with h;subst h;refine⟨ms,rfl,?_,rfl⟩;rw[pQ] at hb;exact jq fun e=>hb (dS e)
 |ms::l,k+1,m,l',h=>by
  rw[show Tok.Av (ms::l) (k+1) m=match Tok.Av l k m with|some r'=>some (ms::r')|none=>none from rfl] at h
  cases hr:Tok.Av l k m with
  |none=>rw[hr] at h;cases h
  |some r=>
   rw[hr] at h;injection h with h;subst h;obtain⟨ms',h1,h2,h3⟩:=MQ l k m r hr;exact⟨ms',by simpa using h1,h2,by rw[h3];rfl⟩
theorem DK(hn:n<=100)(ha:a<n+2):QX (zI n a) (pE n)=some a:=by
 have key: ∀(l:LI) (x:Int) (a:Nat),l[a]?=some x->(∀j,j<a->l[j]?≠some x)->QX x l=some a:=by
  intro l
  induction l with
  |nil=>intro x a h;simp at h
  |cons p l ih=>
   intro x a h h0;rw[QX]
   cases a with
   |zero=>
    simp only[List.getElem?_cons_zero,aD] at h;rw[aV h]
   |succ a=>
    rw[aU (fun e=>h0 0 lK (by simp[e])),ih x a (mR h) (fun j hj=>by simpa using h0 (j+1) lK)];rfl
 refine key _ _ _ (uZ ha) fun j hj e=> ?_;rw[uZ lK] at e;have:=Ws hn lK ha (dh e);omega
theorem Om{b:Nat}(hn:n<=100)(ha:a<n+2)(hb:b<n+2)(h:a≠b):XT (pE n) (zI n a) (zI n b)=some (a*(n+2)+b):=by
 unfold XT;rw[DK hn ha,DK hn hb];simp only[Option.bind_some];rw[aU h,QV]
theorem Ll(hc:vD c)(hG:sS c G)(hK:G.K.length<=900000){m:TM}(hm:Ew c G m):(G.bytes m).length<=65536:=by
 have ok:=MB hc hG hK hm;unfold mF.bytes;rw[av];have:=(qz (num G.K (G.key m)).toNat).2;have:=ok.2;omega
theorem JA(hc:vD c)(hG:sS c G)(hK:G.K.length<=900000)(hs:src<c.n+2): ∀(o:Tok.Out) (l l':List (List TM)) (M:Nat->List LI),Xg c G l M->(∀p∈o,vH c G p.2)->Tok.wY c.n src o l=some l'-> ∃M',zD (pE c.n) (zI c.n src) (G.yX c.n o) M=some M'/\Xg c G l' M'
 | [],l,l',M,h,_,hp=>by
  simp only[Tok.wY,aD] at hp;subst hp;exact⟨M,rfl,h⟩
 |(d,m)::o,l,l',M,h,hm,hp=>by
  have hn:c.n<=100:=by have:=hc.n;have:=hc.f4;omega
  rw[Tok.wY] at hp;split at hp
  ·cases hp
  rename_i hcond;rw[eZ,eZ] at hcond;have hds:d≠src:=fun e=>hcond (.inl (.inl (by rw[e];exact gB src)));have hdn:d≠c.n:=fun e=>hcond (.inl (.inr (by rw[e];exact gB c.n)));have hd2:d<c.n+2:=jq fun e=>hcond (.inr (dS e))
  cases hq:Tok.Av l (src*(c.n+2)+d) m with
  |none=>rw[hq] at hp;cases hp
  |some l1=>
   rw[hq] at hp;simp only at hp;obtain⟨ms,h1,h2,h3⟩:=MQ _ _ _ _ hq;have hm0:=hm (d,m) lT;have hkl:=(ah.1 h1).1;have div:(src*(c.n+2)+d)/(c.n+2)=src:=by rw[gX,Nat.mul_add_div lK,iJ hd2,Nat.add_zero]
   have mod:(src*(c.n+2)+d)%(c.n+2)=d:=by rw[gX,Nat.mul_add_mod,dJ hd2]
   have R1:Xg c G l1 (ru M (src*(c.n+2)+d) (M (src*(c.n+2)+d)++ [G.bytes m])):=by
    subst h3;refine⟨by rw[bG];exact h.len,fun k ms' hk=> ?_,fun k ms' hk m' hm'=> ?_⟩
    ·by_cases e:src*(c.n+2)+d=k
     ·subst e
      rw[aL hkl] at hk;injection hk with hk;subst hk;rw[ou,h.val _ _ h1,bR];rfl
     rw[aX e] at hk;rw[oP _ _ (dR e)];exact h.val k ms' hk
    by_cases e:src*(c.n+2)+d=k
    ·subst e
     rw[aL hkl] at hk;injection hk with hk;subst hk;rcases aQ.1 hm' with hm'|hm'
     ·exact h.ok _ _ h1 m' hm'
     rw[au] at hm';subst hm';rw[div,mod];exact⟨hm0,dR hds,hdn⟩
    rw[aX e] at hk;exact h.ok k ms' hk m' hm'
   obtain⟨M',e1,R2⟩:=JA hc hG hK hs o l1 l' _ R1 (fun p hp=>hm p (by simp[hp])) hp;refine⟨M',?_,R2⟩;show zD (pE c.n) (zI c.n src) ((zI c.n d,G.bytes m)::G.yX c.n o) M=_;rw[zD,Om hn hs hd2 (dR hds)];simp only[Option.bind_some];rw[aV ⟨by rw[h.val _ _ h1,aT];exact h2,Ll hc hG hK hm0.form⟩];exact e1
theorem Lx: ∀(l:List (List TM)) (k:Nat),Tok.tq l k=l.modify k (List.drop 1)
 | [],k=>by simp[Tok.tq]
 |ms::l,0=>by simp[Tok.tq]
 |ms::l,k+1=>by simp[Tok.tq,Lx l k]
theorem LX: ∀(l:List (List TM)) (q k:Nat) (m:TM),Tok.Co l q=some (k,m)->q<=k/\ ∃rest,l[k -q]?=some (m::rest)/\ ∀j,j<k -q->l[j]?=some []
 | [],q,k,m,h=>by cases h
 | []::l,q,k,m,h=>by
  obtain⟨h1,rest,h2,h3⟩:=LX l (q+1) k m h;refine⟨lK,rest,?_,fun j hj=> ?_⟩
  ·rw[show k -q=(k -(q+1))+1 by omega,List.getElem?_cons_succ]
   exact h2
  cases j with
  |zero=>rfl
  |succ j=>
   rw[List.getElem?_cons_succ];exact h3 j lK
 |(m'::ms)::l,q,k,m,h=>by
  simp only[Tok.Co,aD,aM] at h;obtain⟨rfl,rfl⟩:=h;exact⟨aF _,ms,by rw[fJ];rfl,fun j hj=>absurd hj lK⟩
theorem FC: ∀(l:List (List TM)) (q:Nat),Tok.Co l q=none-> ∀ms∈l,ms= []
 | [],q,h=>by simp
 | []::l,q,h=>fun ms hm=>by
  rcases ay.1 hm with rfl|hm
  ·rfl
  exact FC l (q+1) h ms hm
 |(m'::ms)::l,q,h=>by cases h
theorem Xg.drop(h:Xg c G l M){m:TM}{rest:List TM}(hk:l[k]?=some (m::rest)):Xg c G (Tok.tq l k) (ru M k (rest.map G.bytes)):=by
 rw[Lx];refine⟨by rw[iV];exact h.len,fun q ms hq=> ?_,fun q ms hq m' hm'=> ?_⟩
 ·rw[eY] at hq
  by_cases e:k=q
  ·subst e
   rw[hk] at hq;simp at hq;subst hq;rw[ou]
  rw[oP _ _ (dR e)]
  cases hl:l[q]? with
  |none=>rw[hl] at hq;cases hq
  |some ms'=>
   rw[hl] at hq;simp[e] at hq;subst hq;exact h.val q ms' hl
 rw[eY] at hq;by_cases e:k=q
 ·subst e
  rw[hk] at hq;simp at hq;subst hq;exact h.ok k _ hk m' (by simp[hm'])
 cases hl:l[q]? with
 |none=>rw[hl] at hq;cases hq
 |some ms'=>
  rw[hl] at hq;simp[e] at hq;subst hq;exact h.ok q ms' hl m' hm'
theorem G8{sent:Nat}{o:Tok.Out}(h:Tok.room sent o=true):o.length<=2000/\sent+o.length<=500000:=by
 unfold Tok.room at h;rw[bX,pQ] at h;exact⟨eD h.1,eD h.2⟩
theorem abI(hc:vD c)(h:Km c G N x X){i:Nat}{s s':Tok.Nd}{v':ql}(hi:x.nodes[i]?=some (some s))(hv:X.nodes[i]?=some (some v))(hvo:v.out= [])(hN:N<=N')(S:uF c G N' v s' o K' v')(hp:Tok.Ux c x i s' o=some x'):
  ∃X',DF c.n i (K',v') X=some X'/\Km c (G.at K') N' x' X'/\v'.out.length<=4096:=by
 unfold Tok.Ux at hp
 cases hr:Tok.room x.sent o with
 |false=>rw[hr] at hp;cases hp
 |true=>
  rw[hr] at hp;simp only at hp;obtain⟨r1,r2⟩:=G8 hr
  cases hq:Tok.wY c.n i o x.links with
  |none=>rw[hq] at hp;cases hp
  |some l=>
   rw[hq] at hp;simp only[aD] at hp;subst hp;have hil:i<c.n:=by rw[<-h.nl];exact(ah.1 hi).1
   have hG':=h.g.le S.le;have hKl:K'.length<=x.sent+o.length:=by have:=S.len;have:=h.Kl;omega
   obtain⟨M',e1,L1⟩:=JA hc hG' (by show K'.length<=_;omega) (src:=i) lK o x.links l X.M (h.lk.MW S.le h.g.len) (fun p hp=>(S.msg p hp).1) hq;have hout:v'.out=(G.at K').yX c.n o:=by rw[S.out,hvo];rfl
   refine⟨{X with K:=K',nodes:=X.nodes.set i (some {v' with out:= []}),M:=M'},?_,?_,?_⟩
   ·unfold DF
    rw[show zI c.n i=(i:Int) by unfold zI;rw[aV hil]] at e1;rw[show((K',v'):KN).2.out=(G.at K').yX c.n o from hout,e1];rfl
   ·refine⟨hG',rfl,by show K'.length<=x.sent+Tok.len o;rw[pQ];exact hKl,by show x.sent+Tok.len o<=_;rw[pQ];omega,by show(Tok.vG x.nodes i _).length=_;rw[qD,bG];exact h.nl,by show(X.nodes.set i _).length=_;rw[bG];exact h.nl',fun j hj=> ?_,fun j sj hj=> ?_,h.ck.MW,h.t0,L1⟩
    ·replace hj:(Tok.vG x.nodes i (some s'))[j]?=some none:=hj
     rw[qD] at hj;show(X.nodes.set i _)[j]?=some none;by_cases e:i=j
     ·subst e
      rw[aL (ah.1 hi).1] at hj;cases hj
     rw[aX e] at hj|-;exact h.no j hj
    replace hj:(Tok.vG x.nodes i (some s'))[j]?=some (some sj):=hj;rw[qD] at hj;show∃v,(X.nodes.set i _)[j]?=some (some v)/\_;by_cases e:i=j
    ·subst e
     rw[aL (ah.1 hi).1] at hj;injection hj with hj;injection hj with hj;subst hj;exact⟨{v' with out:= []},by rw[aL (ah.1 hv).1],{S.nd with},rfl⟩
    rw[aX e] at hj|-;obtain⟨vj,h1,h2,h3⟩:=h.nd j sj hj;exact⟨vj,h1,(h2.more hN).le S.le,h3⟩
   rw[hout];unfold mF.yX;rw[aT];omega
end
end
section
open Tok (TM)
section
variable{c:Tok.qM}{G:mF}{N:Nat}{x x':Tok.Cl}{X X':CV}{l l':List (List TM)}{M M':Nat->List LI}{o:Tok.Out}{K':KS}
theorem adZ(hl:1<=G.nD.length):G.nD.getLast?=some (G.rq G.nD.length):=by
 rw[jO];unfold mF.rq;rw[bE,aj lK];rfl
theorem Tg(hc:vD c)(hG:sS c G)(hK:G.K.length<=900000){s':Tok.Ck}{Y0:U2}(h:CkR G s Y0){m:TM}(hm:vH c G m)(hp:Tok.takeC c m s=some s'):
  ∃(sr res z:Int) (Y':U2),yN c.f G.K sr res z (G.bytes m) Y0=some Y'/\CkR G s' Y':=by
 cases m with
 |rep src t=>
  rw[show Tok.takeC c (.rep src t) s=(if !s.waits then some s else if !Nat.beq t s.issued then none else if s.ans.any (Nat.beq src) then none else
   if Nat.ble (c.f+1) (Tok.len (s.ans++ [src])) then some {s with ans:=s.ans++ [src],acc:=s.acc+1,waits:=false} else some {s with ans:=s.ans++ [src]}) from rfl] at hp
  by_cases hw:s.waits=true
  ·rw[aU (by rw[hw];decide)] at hp
   split at hp
   ·cases hp
   rename_i ht;have ht:t=s.issued:=by
    have:Nat.beq t s.issued=true:=by simpa using ht
    exact bO this
   split at hp
   ·cases hp
   rename_i hany;have aoI:=h.yK;have few:=hG.few;obtain⟨f0,f1,f2⟩:=hm.form;have ac:=h.acc;rw[aV hw] at ac;have rt:=hG.rq t f1 f2;have hlast:=adZ (G:=G) lK;have el1:(G.rq G.nD.length)=G.rq t:=by rw[ht,aoI]
   have ok:=MB hc hG hK hm.form;have nr:=yC G.K (G.key (.rep src t));have ri:=abP hG (t -1);have hal:=h.al hw;have hn:=hc.n;have hlen:Y0.al.length=s.ans.length:=by rw[hal,aT]
   have hel:Y0.el.length<=1000:=by rw[h.el,cO,gW];omega
   have agE:=h.agE hw;have fit:afb c.f G.K Y0 (G.rq t).2.1 src (G.res.getD (t -1) 0) (num G.K (G.key (.rep src t))) (G.bytes (.rep src t)):=by
    refine⟨by rw[h.il];omega,by rw[hlen];omega,hel,fun p hp'=> ?_,qJ nr.1 lK,?_,?_,pK lK lK,?_,pK lK lK⟩
    ·rw[hal] at hp'
     obtain⟨a,ha,rfl⟩:=bM.1 hp';refine⟨fun e=>hany ?_,by show G.res.getD (s.issued -1) 0=_;rw[ht]⟩;have e:a=src:=by have:(a:Int)=src:=e;omega
     rw[List.any_eq_true];exact⟨a,ha,by rw[e];exact gB src⟩
    ·rw[rt.2.1]
     exact⟨ok.1,by have:=ok.2;show(lX (G.ms (.rep src t))).length<=_;omega,hm.has,rfl⟩
    ·rw[rt.2.1]
     rfl
    rw[rt.2.1];exact pK lK lK
   refine⟨src,G.res.getD (t -1) 0,num G.K (G.key (.rep src t)),{Y0 with waits:=decide ((Y0.al.length:Int)<c.f),al:=Y0.al++ [((src:Int),G.res.getD (t -1) 0)],el:=if(Y0.al.length:Int)<c.f then Y0.el else Y0.el++ [(G.rq t,G.res.getD (t -1) 0)]},?_,?_⟩
   ·unfold yN
    rw[aU (by rw[h.waits,hw];decide),h.il,hlast,el1];simp only[Option.bind_some];rw[nQ fit];rw[Option.map_some]
   have hll:Tok.len (s.ans++ [src])=s.ans.length+1:=by rw[pQ];simp
   rw[hll] at hp;by_cases hq:c.f+1<=s.ans.length+1
   ·rw[aV (dS hq)] at hp
    injection hp with hp;subst hp;have hlt: ¬(Y0.al.length:Int)<c.f:=by rw[hlen];omega
    refine⟨aR hlt,h.il,h.yK,h.at_,h.now,h.Ag,h.atB,fun e=>(by cases e),fun e=>(by cases e),?_,by show(if false=true then _ else _);rw[aU lN];exact ac,by show(Y0.al++ [((src:Int),G.res.getD (t -1) 0)]).length<=200;rw[av,hlen];simp;omega⟩;show(if(Y0.al.length:Int)<c.f then Y0.el else Y0.el++ [(G.rq t,G.res.getD (t -1) 0)])=(G.nD.zip G.res).take (s.acc+1);rw[aU hlt,h.el,fM]
    congr 1
    have hacc:s.acc=t -1:=lK;have hr1:G.nD[t -1]?=some (G.rq t):=by
     unfold mF.rq;rw[bE,aj lK];rfl
    have hr2:G.res[t -1]?=some (G.res.getD (t -1) 0):=by
     rw[bE,aj (by rw[hG.len];omega)];rfl
    rw[hacc,(jP (z:=(G.rq t,G.res.getD (t -1) 0))).2 ⟨hr1,hr2⟩];rfl
   rw[aU (fun e=>hq (eD e))] at hp;injection hp with hp;subst hp;have hf4:=hc.f4;have hlt:(Y0.al.length:Int)<c.f:=by rw[hlen];omega
   refine⟨by show decide _=s.waits;rw[aZ hlt,hw],h.il,h.yK,h.at_,h.now,h.Ag,h.atB,fun _=> ?_,fun _=>by show(s.ans++ [src]).length<=100;rw[av];simp;omega,by show(if(Y0.al.length:Int)<c.f then Y0.el else _)=_;rw[aV hlt];exact h.el,h.acc,by show(Y0.al++ [((src:Int),G.res.getD (t -1) 0)]).length<=200;rw[av,hlen];simp;omega⟩;show Y0.al++ [((src:Int),G.res.getD (t -1) 0)]=(s.ans++ [src]).map _;rw[hal,bR,ht];rfl
  have hw:s.waits=false:=by simpa using hw
  rw[aV (by rw[hw];rfl)] at hp;injection hp with hp;subst hp;exact⟨0,0,0,Y0,by unfold yN;rw[aV (by rw[h.waits,hw])],h⟩
 |_=>cases hp
theorem Qi(hc:vD c)(h:Km c G N x X)(hN:N<=900000){m:TM}(hf:Tok.Co x.links 0=some (k,m))(hp:Tok.deliver c {x with links:=Tok.tq x.links k} (k/(c.n+2)) (k%(c.n+2)) m=some x'):
  Hz c.n X.M k/\ ∃K' X',Gm c.f c.n (k/(c.n+2)) (k%(c.n+2)) X X'/\xC G K'/\Km c (G.at K') (N+1) x' X':=by
 obtain⟨_,rest,h1,h2⟩:=LX x.links 0 k m hf;rw[Nat.sub_zero] at h1 h2;have hkl:k<(c.n+2)*(c.n+2):=by rw[<-h.lk.len];exact(ah.1 h1).1
 have hM:X.M k=G.bytes m::rest.map G.bytes:=by rw[h.lk.val k _ h1];rfl
 have Tz:Hz c.n X.M k:=⟨hkl,by rw[hM];simp,fun j hj=>by rw[h.lk.val j [] (h2 j hj)];rfl⟩;refine⟨Tz,?_⟩;obtain⟨aaK,hab,hbn⟩:=h.lk.ok k _ h1 m lT;have ha:k/(c.n+2)<c.n+2:=(eB lK).2 hkl;have hb:k%(c.n+2)<c.n+2:=ji _ lK;obtain⟨a,haa⟩:=ex (k/(c.n+2));obtain⟨b,hbb⟩:=ex (k%(c.n+2));have hk:k=a*(c.n+2)+b:=by rw[haa,hbb,gX];exact(Nat.div_add_mod k (c.n+2)).symm
 rw[<-haa,<-hbb] at hp hab|-;rw[<-haa] at ha;rw[<-hbb] at hb hbn;have hMk:X.M (a*(c.n+2)+b)=G.bytes m::rest.map G.bytes:=by rw[<-hk];exact hM
 have Ke:G.K.length<=900000:=by have:=h.Kl;have:=h.Ks;omega
 have R1:Km c G N {x with links:=Tok.tq x.links k} {X with M:=ru X.M (a*(c.n+2)+b) (rest.map G.bytes)}:={h with lk:=by rw[<-hk];exact h.lk.drop h1};unfold Tok.deliver at hp;by_cases hbc:b=c.n+1
 ·rw[aV (by rw[hbc];exact gB _)] at hp
  cases hq:Tok.takeC c m x.ck with
  |none=>rw[show({x with links:=Tok.tq x.links k}:Tok.Cl).ck=x.ck from rfl,hq] at hp;cases hp
  |some ck'=>
   rw[show({x with links:=Tok.tq x.links k}:Tok.Cl).ck=x.ck from rfl,hq] at hp;injection hp with hp;subst hp;obtain⟨sr,res,z,Y',e1,e2⟩:=Tg hc h.g Ke h.ck aaK hq;subst hbc;have Oc:ck'.now=x.ck.now:=by
    cases m with
    |rep src t=>
     rw[show Tok.takeC c (.rep src t) x.ck=(if !x.ck.waits then some x.ck else if !Nat.beq t x.ck.issued then none else if x.ck.ans.any (Nat.beq src) then none else
      if Nat.ble (c.f+1) (Tok.len (x.ck.ans++ [src])) then some {x.ck with ans:=x.ck.ans++ [src],acc:=x.ck.acc+1,waits:=false} else some {x.ck with ans:=x.ck.ans++ [src]}) from rfl] at hq
     split at hq
     ·injection hq with hq
      rw[<-hq]
     split at hq
     ·cases hq
     split at hq
     ·cases hq
     split at hq
     ·injection hq with hq
      rw[<-hq]
     injection hq with hq;rw[<-hq]
    |_=>cases hq
   refine⟨G.K,_,Gm.ck a (G.bytes m) (rest.map G.bytes) sr res z Y' X lK hMk (by rw[h.K];exact e1) (Ll hc h.g Ke aaK.form),xC.refl G,?_⟩;exact⟨h.g,h.K,h.Kl,h.Ks,h.nl,h.nl',h.no,fun i s hi=>by
    obtain⟨v,h1,h2,h3⟩:=h.nd i s hi;exact⟨v,h1,h2.more lK,h3⟩,e2,by show X.t0=ck'.now;rw[h.t0,Oc],R1.lk⟩
 rw[aU (fun e=>hbc (bO e)),oV] at hp;have agY:b<c.n:=lK
 cases hnd:x.nodes[b]? with
 |none=>rw[show({x with links:=Tok.tq x.links k}:Tok.Cl).nodes=x.nodes from rfl,hnd] at hp;cases hp
 |some on=>
  rw[show({x with links:=Tok.tq x.links k}:Tok.Cl).nodes=x.nodes from rfl,hnd] at hp
  cases on with
  |none=>
   simp only[aD] at hp;subst hp;refine⟨G.K,_,Gm.dead a b (G.bytes m) (rest.map G.bytes) X ha agY hab hMk (h.no b hnd),xC.refl G,?_⟩;exact{R1 with
    nd:=fun i s hi=>by
     obtain⟨v,h1,h2,h3⟩:=h.nd i s hi;exact⟨v,h1,h2.more lK,h3⟩}
  |some s=>
   simp only at hp
   cases htk:Tok.takeN c b m s with
   |none=>rw[htk] at hp;cases hp
   |some q=>
    obtain⟨s',o⟩:=q;rw[htk] at hp;simp only at hp;obtain⟨v,v1,v2,v3⟩:=h.nd b s hnd;have hroom:Tok.room x.sent o=true:=by
     unfold Tok.Ux at hp
     cases hr:Tok.room x.sent o with
     |true=>rfl
     |false=>rw[show({x with links:=Tok.tq x.links k}:Tok.Cl).sent=x.sent from rfl,hr] at hp;cases hp
    obtain⟨r1,r2⟩:=G8 hroom;have hkl':=h.Kl;obtain⟨K',v',e1,S⟩:=abM hc h.g v2 hN agY aaK htk ⟨lK,by rw[v3];simp;omega⟩;obtain⟨X',e2,R2,e3⟩:=abI hc R1 hnd v1 v3 (Nat.le_succ N) S hp;exact⟨K',X',Gm.node a b (G.bytes m) (rest.map G.bytes) v (G.ms m) (num G.K (G.key m)) (K',v') X X' ha agY hab hMk v1 (by rw[h.K];exact e1) e3 e2,S.le,R2⟩
theorem Lv(hc:vD c): ∀(fuel:Nat) (G:mF) (N:Nat) (x x':Tok.Cl) (X:CV),Km c G N x X->N+fuel<=900000->Tok.drain c fuel x=some x'-> ∃m K' X',m<fuel/\Ch c.f c.n m X X'/\xC G K'/\Km c (G.at K') (N+m) x' X'
 |0,G,N,x,x',X,h,hN,hp=>by cases hp
 |fuel+1,G,N,x,x',X,h,hN,hp=>by
  rw[Tok.drain] at hp
  cases hf:Tok.Co x.links 0 with
  |none=>
   rw[hf] at hp;injection hp with hp;subst hp;refine⟨0,G.K,X,lK,.done X fun k hk=> ?_,xC.refl G,h⟩;have hk':k<x.links.length:=by rw[h.lk.len];exact hk
   rw[h.lk.val k _ (aj hk'),FC x.links 0 hf _ (bY hk')];rfl
  |some q=>
   obtain⟨k,m⟩:=q;rw[hf] at hp;simp only at hp
   cases hd:Tok.deliver c {x with links:=Tok.tq x.links k} (k/(c.n+2)) (k%(c.n+2)) m with
   |none=>rw[hd] at hp;cases hp
   |some x1=>
    rw[hd] at hp;simp only at hp;obtain⟨Tz,K1,X1,d1,k1,R1⟩:=Qi hc h lK hf hd;obtain⟨mm,K2,X2,hlt,d2,k2,R2⟩:=Lv hc fuel (G.at K1) (N+1) x1 x' X1 R1 lK hp;refine⟨mm+1,K2,X2,lK,.step mm k X X1 X2 Tz d1 d2,k1.trans k2,?_⟩;rw[show N+(mm+1)=N+1+mm by omega];exact R2
theorem AO(hc:vD c): ∀(fuel i:Nat) (G:mF) (x x':Tok.Cl) (X:CV),Km c G N x X->i+fuel=c.n->Tok.BG c fuel i x=some x'-> ∃K' X1 X',zm c.f c.n fuel i X=some X1/\NJ X1=some X'/\xC G K'/\Km c (G.at K') N x' X'
 |0,i,G,x,x',X,h,hi,hp=>by
  rw[Tok.BG] at hp
  cases hq:Tok.acn x.ck with
  |none=>rw[hq] at hp;cases hp
  |some ck'=>
   rw[hq] at hp;injection hp with hp;subst hp;unfold Tok.acn at hq;split at hq
   ·cases hq
   rename_i hcond;injection hq with hq;subst hq;rw[eZ] at hcond;have aj5: ¬900<=x.ck.now:=fun e=>hcond (.inr (dS e));have hmod:x.ck.waits=false\/(x.ck.now+1 -x.ck.at_)%6≠0:=by
    cases hw:x.ck.waits with
    |false=>exact .inl rfl
    |true=>
     refine .inr fun e=>hcond (.inl ?_);rw[hw,e];rfl
   have hb:=h.ck.atB;refine⟨G.K,X,{X with t0:=X.t0+1,ck:={X.ck with now:=X.ck.now+1}},rfl,?_,xC.refl G,?_⟩
   ·unfold NJ
    rw[nQ (show 0<=X.t0/\X.t0<1048000/\(X.ck.waits=false\/(X.ck.now+1 -X.ck.at_)%6≠0)/\0<=X.ck.at_/\X.ck.at_<=X.ck.now/\X.ck.now<1048000 from by
     rw[h.t0,h.ck.waits,h.ck.now,h.ck.at_];refine⟨lK,lK,?_,lK,lK,lK⟩;rcases hmod with e|e
     ·exact .inl e
     refine .inr ?_;omega)]
    rfl
   exact{h with
    ck:={h.ck with now:=by show X.ck.now+1=((x.ck.now+1:Nat):Int);rw[h.ck.now];omega,Ag:=by show x.ck.now+1<=1000;omega,atB:=by show x.ck.at_<=x.ck.now+1;omega}
    t0:=by show X.t0+1=((x.ck.now+1:Nat):Int);rw[h.t0];omega}
 |fuel+1,i,G,x,x',X,h,hi,hp=>by
  rw[Tok.BG,oV] at hp
  cases hnd:x.nodes[i]? with
  |none=>rw[hnd] at hp;cases hp
  |some on=>
   rw[hnd] at hp
   cases on with
   |none=>
    simp only at hp;obtain⟨K',X1,X',e1,e2,e3,e4⟩:=AO hc fuel (i+1) G x x' X h lK hp;refine⟨K',X1,X',?_,e2,e3,e4⟩;rw[zm,h.no i hnd];exact e1
   |some s=>
    simp only at hp
    cases htk:Tok.WJ c i s with
    |none=>rw[htk] at hp;cases hp
    |some q=>
     obtain⟨s',o⟩:=q;rw[htk] at hp;simp only at hp
     cases hput:Tok.Ux c x i s' o with
     |none=>rw[hput] at hp;cases hp
     |some x1=>
      rw[hput] at hp;simp only at hp;obtain⟨v,v1,v2,v3⟩:=h.nd i s hnd;have hroom:Tok.room x.sent o=true:=by
       unfold Tok.Ux at hput
       cases hr:Tok.room x.sent o with
       |true=>rfl
       |false=>rw[hr] at hput;cases hput
      obtain⟨r1,r2⟩:=G8 hroom;have hkl':=h.Kl;obtain⟨K1,v',e1,S⟩:=aco hc h.g v2 lK htk ⟨lK,by rw[v3];simp;omega⟩;obtain⟨X1,e2,R1,e3⟩:=abI hc h hnd v1 v3 (aF N) S hput;obtain⟨K2,X2,X3,f1,f2,f3,f4⟩:=AO hc fuel (i+1) (G.at K1) x1 x' X1 R1 lK hp;refine⟨K2,X2,X3,?_,f2,S.le.trans f3,f4⟩;rw[zm,v1];simp only;rw[h.K,show(⟨(c.f:Int),c.n,i⟩:Who)=who c i from rfl,e1];simp only[Option.bind_some];rw[nQ e3];simp only[Option.bind_some];rw[e2];exact f1
theorem yF(hc:vD c)(h:Km c G N x X)(hN:N+1900<=900000)(hp:Tok.round c x=some x'): ∃K' X',zP c.f c.n X X'/\xC G K'/\Km c (G.at K') (N+1900) x' X':=by
 unfold Tok.round at hp
 cases hd:Tok.drain c 1900 x with
 |none=>rw[hd] at hp;cases hp
 |some x1=>
  rw[hd] at hp;simp only at hp;obtain⟨m,K1,X1,hlt,d1,k1,R1⟩:=Lv hc 1900 G N x x1 X h hN hd;obtain⟨K2,X2,X3,e1,e2,e3,R2⟩:=AO hc c.n 0 (G.at K1) x1 x' X1 R1 lK hp;have R3:Km c (G.at K2) (N+1900) x' X3:={R2 with
   nd:=fun i s hi=>by
    obtain⟨v,h1,h2,h3⟩:=R2.nd i s hi;exact⟨v,h1,h2.more lK,h3⟩}
  refine⟨K2,X3,⟨m,X1,lK,d1,?_⟩,k1.trans e3,R3⟩;unfold Ei;rw[e1];exact e2
end
end
end Go.Proofs.YtgnhecmnlddjhaaGreat
