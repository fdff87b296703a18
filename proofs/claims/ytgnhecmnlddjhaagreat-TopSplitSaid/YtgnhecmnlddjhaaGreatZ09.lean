/- TopSplit, part 10 of 12: a proof squeezed by a program. -/
import Derived.Test.YtgnhecmnlddjhaaGreatZ08
set_option linter.all false
set_option maxRecDepth 100000
set_option maxHeartbeats 6400000
namespace Go.Proofs.YtgnhecmnlddjhaaGreat
open Go.RowKit Go.Proofs.Tryz
variable{A A' al' ap ar:OA}{B cap cl' cp cr d g gc gn k m m' n s x y:Nat}{L':List ni}{S b:LN}{c:ni}{f l:Int}{ps:LI}{q:Nat->Nat}{v:Value}{w w' w1 w5 w8 wr:World}{xs ys:LV}
structure Vf(v:ql):Prop where
 n5:v.is.length<=5
 np:v.nN.length=v.is.length
 nc:v.nG.length=v.is.length
 pl: ∀l∈v.nN,l.length<=64
 cl: ∀l∈v.nG,l.length<=64
 T:v.T.length<=64
 V:v.V.length<=13
 es:v.es.length<=4096
 ga:1<=v.ga.length/\v.ga.length<=5
 out:v.out.length<=4096
 xU: ∃np,v.xU.length=np*5/\np<=64
 vZ: ∃nb,v.vZ.length=nb*11/\nb<=64
 Yj: ∀x∈v.xU,x.oneCell'=true
 an9: ∀x∈v.vZ,x.oneCell'=true
section
variable{x:Nat}{w:World}{D:qb}{K:KS}
theorem adl(h:mJ x w D K)(i:Nat)(v:ql)(hi:(D.val K).nodes[i]?=some (some v))(F:Vf v):
  Y 18 #[D.C.gc,U i] w fun e w'=> ∃q,e=acK (ac2 #[(q:Nat),true])/\(∃c S g,aZ w' q 131 c/\c[22]?=some (.pointer (some (adZ g 0)))/\Er w' S g 2 v.es v.st v.ct)/\Be w w':=by
 obtain⟨p,P,rfl⟩: ∃p,D.C.nodes[i]?=some (some p)/\p.d.val=v:=by
  have a:(D.C.nodes.map fun o=>o.map fun p=>p.d.val)[i]?=some (some v):=hi;rw[aS] at a
  cases e:D.C.nodes[i]? with
  |none=>rw[e] at a;cases a
  |some o=>cases o with
   |none=>rw[e] at a;simp at a
   |some p=>rw[e] at a;simp only[Option.map_some,aD] at a;exact⟨p,rfl,a⟩
 have n4:=h.fx.n;have f4:=h.fx.f4;have R:i<D.C.n:=by rw[<-h.fx.len];exact(ah.1 P).1
 obtain⟨nl,t⟩:=ex D.C.n;have C:J w D.C.gc 18 (acX D.C.cd.na nl D.C.cd.nc):=by have:=h.blk.cell 18;have e:=h.fx.nl;rw[t,<-e];exact this
 have d:=h.blk.at_ 16;have RW:w.ownsRow 0 52 1 (acX D.C.cd.na nl D.C.cd.nc) nl (D.C.nodes.map tY):=by have:=h.yG;rw[h.fx.nl,<-t] at this;exact this
 obtain⟨M,B,d1⟩:=tu RW (k:=i) aR (v:= .pointer (some ⟨p.gx,0,none⟩)) (by rw[aS,P];rfl);rw[B] at C;obtain⟨N,I⟩:=ex D.C.gc;obtain⟨nc,L⟩:=ex D.C.cd.nc;obtain⟨nn,y⟩:=ex D.C.cd.nn;rw[<-I] at C d|-;rw[<-L] at C;rw[<-y] at d;have b:=F9 (∀u,Be w u->J u N 18 (O M nl nc)/\J u N 16 nn/\J u M i p.gx) fun u W=>⟨kept W _ _ C,kept W _ _ d,kept W _ _ d1⟩;obtain⟨H,HP,FF,A⟩:=j4 h P F y;have i0:(0:Int)<=i:=aR;have i1:(i:Int)<nl:=aR;have i2: ¬(i:Int)<0:=aR;have i3: ¬(nl:Int)<=i:=aR;clear h hi B I L y t n4 f4 R P;go_enter func18,ntmps18;go_upto_region 3 with fail;have KS:=b.out w.drew ((aC _ _).drew);refine rD (fun u=>J u N 18 (O M nl nc)/\J u N 16 nn/\J u M i p.gx) 15 (tk 0 11 (.one 11 (.one 12 (.take 13 (.take 14 .done))))) KS fun w2 X j=> ?_;clear C d d1
 repeat refine' tT ?_
 refine pO fun KT bq=> ?_;go_simp;rw[A.out];refine(QL D.C.cd.nn D.C.b K w2 (H.below X).Pt).mono ?_;rintro e w3 ⟨m,bm,rfl,hm,T,V,E⟩;rw[<-A.out];have Q:=nO X E;clear hm T V E;have S3:=b.out _ Q;refine oH bq S3 ?_;clear j;have j:=S3
 repeat refine' tT ?_
 refine pO fun KT bq=> ?_;go_simp;have f:=FF.out;obtain⟨np,r,s⟩:=f.xU;obtain⟨nb,l,n⟩:=f.vZ;have N3:=(H.below Q).nat HP;have nB:D.C.n<=13:=by have:=H.fx.n;have:=H.fx.f4;omega
 refine(abb x w3 _ _ _ _ _ p.d K N3 nB (by simpa[bK.val] using f.n5) (by simpa[bK.val] using f.np) (by simpa[bK.val] using f.nc) (fun q z=>f.pl _ (bM.2 ⟨q,z,rfl⟩)) (fun q z=>f.cl _ (bM.2 ⟨q,z,rfl⟩)) f.T f.V f.es f.ga (by simpa[bK.val,uy] using f.out) np nb r l s n f.Yj f.an9 m).mono ?_;rintro e w4 ⟨q,rfl,z,G⟩;have Z:=nO Q G;have HQ:=jj z;clear z G f r s l n nB;have S4:=b.out _ Z;refine oH bq S4 ?_;clear j;have j:=S4
 repeat refine' tT ?_
 refine aU ?_;go_wp2_with fail;go_ret2
 obtain⟨cc,S,g,k1,k2,k3⟩:=HQ.out;exact⟨q,by trivial,⟨cc,k1,S,g,k2,k3⟩,Z⟩
theorem Xt(h:mJ x w D K)(M:(D.val K).ck.il.length<=4096/\(D.val K).ck.al.length<=4096/\(D.val K).ck.el.length<=4096):
  Y 14 #[D.C.gc,U 1] w fun e w'=> ∃q,e=acK (ac2 #[(q:Nat),true])/\(∃cs P X ea ec,aZ w' q 120 cs/\cs[19]?=some (acX P (D.val K).ck.il.length X)/\gD w' P (D.val K).ck.il.length 6 ((D.val K).ck.il.flatMap rA)/\cs[22]?=some (acX ea (D.val K).ck.el.length ec)/\gD w' ea (D.val K).ck.el.length 7 ((D.val K).ck.el.flatMap EO))/\Be w w':=by
 have c:J w D.C.gc 19 (acX D.C.cd.ka 2 D.C.cd.kc):=by have:=h.blk.cell 19;have e:=h.fx.kl;rw[<-e];exact this
 have C:=h.blk.at_ 16;have V:w.ownsRow 0 41 1 (acX D.C.cd.ka 2 D.C.cd.kc) 2 D.C.kp:=by have:=h.wO;rw[h.fx.kl] at this;exact this
 obtain⟨B,i,s⟩:=tu V (k:=1) aR (v:= .pointer (some ⟨D.g1,0,none⟩)) (by rw[h.fx.kp];rfl);rw[i] at c;obtain⟨G,n⟩:=ex D.C.gc;obtain⟨Q,o⟩:=ex D.C.cd.kc;obtain⟨R,f⟩:=ex D.C.cd.nn;obtain⟨L,d⟩:=ex D.g1;rw[<-n] at c C|-;rw[<-o] at c;rw[<-f] at C;rw[<-d] at s;have a:=F9 (∀u,Be w u->J u G 19 (O B 2 Q)/\J u G 16 R/\J u B 1 L) fun u z=>⟨kept z _ _ c,kept z _ _ C,kept z _ _ s⟩;obtain⟨H,r,g,F⟩:=j4 h M f d;clear h M i n o f d;go_enter func14,ntmps14;go_upto_region 3 with fail;have KS:=a.out w.drew ((aC _ _).drew);refine rD (fun u=>J u G 19 (O B 2 Q)/\J u G 16 R/\J u B 1 L) 15 (tk 0 11 (.one 11 (.one 12 (.take 13 (.take 14 .done))))) KS fun Z A b=> ?_;clear c C s
 repeat refine' tT ?_
 refine pO fun KT bq=> ?_;go_simp;rw[g.out];refine(QL D.C.cd.nn D.C.b K Z (H.below A).Pt).mono ?_;rintro e w3 ⟨m,bm,rfl,W,t,y,j⟩;rw[<-g.out];have p:=nO A j;clear W t y j;have S:=a.out _ p;refine oH bq S ?_;clear b;have b:=S
 repeat refine' tT ?_
 refine pO fun KT bq=> ?_;go_simp;rw[F.out];refine(aaV x w3 D.C.cd.f 1 D.g1 D.d1 (H.below p).BJ.ck r.1 r.2.1 r.2.2 (by have:=H.fx.q1;rw[this];simp) m).mono ?_;rintro e w4 ⟨q,rfl,N,l⟩;have E:=nO p l;have T:=jj N;clear N l;rw[<-F.out];have I:=a.out _ E;refine oH bq I ?_;clear b;have b:=I
 repeat refine' tT ?_
 refine aU ?_;go_wp2_with fail;go_ret2
 exact⟨q,by trivial,T,E⟩
end
theorem Un(w:World)(q gd:Nat)(c:AV)(S:LN)(es:List CY)(st:List (Bool×Int))(ct:List (Int×Int))(H:aZ w q 131 c)(b:c[22]?=some (.pointer (some (adZ gd 0))))(h:Er w S gd 2 es st ct)(d:es.length<=4096):
  Y 20 #[q] w fun e w'=> ∃s g,e=acK (g:Nat)/\Er w' s g 2 es st ct/\(∀k∈s,w.heap.size<=k)/\Be w w':=by have C:J w q 22 gd:=(H.cell 22).trans b;have L:=jj h;clear H b h;go_enter func20,ntmps20;go_wp2_with fail;refine(QJ S gd 2 es st ct _ L d).mono ?_;rintro e W ⟨s,g,rfl,h,a,H⟩;obtain⟨l,G,B⟩:=j3 h a H;clear h a H;go_wp2_with fail;go_ret;exact⟨s,g,by trivial,l,G,B⟩
abbrev Jv(ps:LI):List Value:=ps.map fun(x:Int)=>Value.int .i64 x
abbrev ptrs(q:Nat->Nat)(o n:Nat):List Value:=(List.range n).map fun b=>Value.pointer (some ⟨q (o+b),0,none⟩)
theorem Jz{q':Nat->Nat}{o:Nat}(h: ∀k,k<o+n->q' k=q k):ptrs q' o n=ptrs q o n:=by unfold ptrs;refine dX fun b H=> ?_;rw[h (o+b) (tL (fE.1 H))]
section
variable{w w':World}{N:Nat}{q g:Nat->Nat}{room:Int}{lost:Nat->Int}{ms:Nat->List (Value×List Int)}
theorem Qs.add2(h:Qs w N q g room lost ms)(c:Be w w'){m:List (Value×List Int)}(hx:xX w' x y room l m)(d:w.heap.size<=x)(b:w.heap.size<=y):Qs w' (N+1) (ru q N x) (ru g N y) room (ru lost N l) (ru ms N m):=by
 refine⟨fun k p=> ?_,fun i j n o H=> ?_⟩
 ·by_cases e:k=N
  ·subst e;rw[ou,ou,ou,ou];exact hx
  rw[oP _ _ e,oP _ _ e,oP _ _ e,oP _ _ e];exact(h.DU k aR).below c
 by_cases a:i=N
 ·subst a
  have E:j≠i:=fun e=>H e.symm;rw[ou,ou,oP _ _ E,oP _ _ E];have L:=(h.DU j aR).lt;have f:=(h.DU j aR).glt;exact⟨aR,aR,aR,aR⟩
 by_cases E:j=N
 ·subst E
  rw[ou,ou,oP _ _ a,oP _ _ a];have L:=(h.DU i aR).lt;have f:=(h.DU i aR).glt;exact⟨aR,aR,aR,aR⟩
 rw[oP _ _ a,oP _ _ a,oP _ _ E,oP _ _ E];exact h.apart i j aR aR H
theorem Qs.kinds(h:Qs w N q g room lost ms){t:TypeId}(m:Only S w w')(b: ∀k∈S,∃cs,aZ w k t cs)(f:t≠217)(i:t≠140)(j:t≠5):Qs w' N q g room lost ms:=by
 refine⟨fun k d=> ?_,h.apart⟩;have T:=(h.DU k d).types;have n: ∀x∈ [q k,g k],x∉S:=fun x hx l=>by
  obtain⟨cs,a⟩:=b x l;rcases T x hx _ _ a with e|e
  ·exact f e
  exact i e
 refine(h.DU k d).only m (n _ bJ) (n _ bJ) fun x hx cs c=> ?_;obtain⟨C,H⟩:=b x hx;unfold aZ at c H;rw[c] at H;injection H with H;injection H with _ e;exact j e.symm
end
structure NX(B:Nat)(w:World)(gn n a N L:Nat)(ps:LI)(q g:Nat->Nat)(room:Int)(lost:Nat->Int)(ms:Nat->List (Value×List Int))(ap:OA)(cp:Nat)(al:OA)(cl:Nat)(ra:Nat->Option Addr)(rc:Nat->Nat):Prop where
 blk:aZ w gn 158 #[acX ap n cp,acX al a cl]
 par:w.ownsRow B 3 1 (acX ap n cp) n (Jv ps)
 rows:w.ownsRow B 159 1 (acX al a cl) a ((List.range a).map fun a=>Value.slice (ra a) n (rc a))
 row: ∀x,x<a->w.ownsRow B 160 1 (acX (ra x) n (rc x)) n (ptrs q (x*n) n)/\ ∀k,(ra x).map (·.block)=some k->k<L
 qs:Qs w N q g room lost ms
 ge:B<=gn/\ ∀k,k<N->B<=q k/\B<=g k
 aN:a*n<=N
def NM(B:Nat)(w:World)(gn n a N L:Nat)(ps:LI)(q g:Nat->Nat)(room:Int)(lost:Nat->Int)(ms:Nat->List (Value×List Int)):Prop:=
 ∃b C A c r R,NX B w gn n a N L ps q g room lost ms b C A c r R
section
variable{B:Nat}{w w':World}{gn n a N L:Nat}{ps:LI}{q g:Nat->Nat}{room:Int}{lost:Nat->Int}{ms:Nat->List (Value×List Int)}
theorem NM.below(h:NM B w gn n a N L ps q g room lost ms)(H:Be w w'):NM B w' gn n a N L ps q g room lost ms:=by obtain⟨i,j,A,C,r,R,d,k,l,e,m,c,b⟩:=h;exact⟨i,j,A,C,r,R,d.below H d.lt,own_below k H,own_below l H,fun a f=>⟨own_below (e a f).1 H,(e a f).2⟩,m.below H,c,b⟩
theorem NM.up(h:NM B w gn n a N L ps q g room lost ms){L':Nat}(m:L<=L'):NM B w gn n a N L' ps q g room lost ms:=by obtain⟨e,f,A,C,r,R,i,j,l,c,p,b,H⟩:=h;exact⟨e,f,A,C,r,R,i,j,l,fun a d=>⟨(c a d).1,fun k o=>aB ((c a d).2 k o) m⟩,p,b,H⟩
theorem NM.nt(h:NM B w gn n n (n*n) L ps q g room lost ms):Nt B w gn n ps q g room lost ms:=by obtain⟨b,C,A,c,r,R,H,d,e,f,l,k,j⟩:=h;exact⟨⟨b,C,A,c,r,R,H,d,e,fun a i=>(f a i).1⟩,l⟩
theorem NM.add(h:NM B w gn n a N L ps q g room lost ms)(H:Be w w')(F:B<=w.heap.size){m:List (Value×List Int)}(hx:xX w' x y room l m)(c:w.heap.size<=x)(d:w.heap.size<=y):
  NM B w' gn n a (N+1) L ps (ru q N x) (ru g N y) room (ru lost N l) (ru ms N m):=by
 obtain⟨o,p,A,C,R,D,f,r,s,i,v,b,t⟩:=h;refine⟨o,p,A,C,R,D,f.below H f.lt,own_below r H,own_below s H,fun z j=>⟨?_,(i z j).2⟩,v.add2 H hx c d,⟨b.1,fun k u=> ?_⟩,aR⟩
 ·rw[Jz (q:=q) (fun k u=>oP _ _ ?_)]
  ·exact own_below (i z j).1 H
  have E:=dN n (show z+1<=a by omega);rw[gY] at E;omega
 by_cases e:k=N
 ·subst e;rw[ou,ou];exact⟨aR,aR⟩
 rw[oP _ _ e,oP _ _ e];exact b.2 k aR
theorem NM.grow(h:NM B w gn n a N L ps q g room lost ms)(c:Only S w w')(f: ∀k∈S,L<=k/\ ∃cs,aZ w k 160 cs):NM B w' gn n a N L ps q g room lost ms:=by
 obtain⟨p,r,A,C,R,z,m,u,v,d,y,j,i⟩:=h;have T: ∀k∈S,∀cs t,aZ w k t cs->t=160\/t=160:=fun k b cs t o=>by obtain⟨_,s,H⟩:=f k b;unfold aZ at o H;rw[o] at H;injection H with H;injection H with _ e;exact .inl e
 refine⟨p,r,A,C,R,z,m.only c fun l=> ?_,qK u c T aV aV,qK v c T aV aV,fun x hx=>⟨mK (d x hx).1 c fun k b l=> ?_,(d x hx).2⟩,y.kinds c (fun k b=>(f k b).2) aV aV aV,j,i⟩
 ·rcases T _ l _ _ m with e|e
  ·exact absurd e aV
  exact absurd e aV
 have E:=(d x hx).2 k (by rw[<-dQ];exact b);have D:=(f k l).1;omega
end
section
variable{B:Nat}{w w5 w8:World}{gn n a N L:Nat}{ps:LI}{q g:Nat->Nat}{room:Int}{lost:Nat->Int}{ms:Nat->List (Value×List Int)}
variable{ap:OA}{cp:Nat}{al:OA}{cl:Nat}{ra:Nat->Option Addr}{rc:Nat->Nat}
theorem NX.nm(h:NX B w gn n a N L ps q g room lost ms ap cp al cl ra rc):NM B w gn n a N L ps q g room lost ms:=⟨_,_,_,_,_,_,h⟩
theorem NX.apf (h:NX B w gn n a N L ps q g room lost ms ap cp al cl ra rc)
  (A:N=a*n+n)   (s:w.ownsRow L 160 1 (acX ar n cr) n (ptrs q (a*n) n)) (i:B<=L) (H:Be w w5)  
  (f:qQ w5 w8 B 159 1 al al' (a+1) cl' (((List.range a).map fun a=>Value.slice (ra a) n (rc a))++ [acX ar n cr])) (O:Only [gn] w8 (w8.setCell (adZ gn 1) (acX al' (a+1) cl'))):
  NX B (w8.setCell (adZ gn 1) (acX al' (a+1) cl')) gn n (a+1) N w.heap.size ps q g room lost ms ap cp al' cl' (ru ra a ar) (ru rc a cr):=by
 obtain⟨d,y,z,r,I,o,D⟩:=h;have S:=dx (own_below z H);have K:aZ w8 gn 158 #[acX ap n cp,acX al a cl]:=(d.below H d.lt).only f.only fun F=>by obtain⟨_,cs,j⟩:=S _ F;exact(d.below H d.lt).nY j aV rfl
 have u: ∀k∈(al.map (·.block)).toList,∀cs t,aZ w5 k t cs->t=159\/t=159:=fun k c cs t H=>by obtain⟨_,C,b⟩:=S k c;unfold aZ at H b;rw[H] at b;injection b with b;injection b with _ e;exact .inl e
 have T: ∀k∈ [gn],∀cs t,aZ w8 k t cs->t=158\/t=158:=fun k c cs t H=>by
  obtain rfl:k=gn:=by simpa using c
  unfold aZ at H K;rw[H] at K;injection K with K;injection K with _ e;exact .inl e
 have keep: ∀{base:Nat} {e:TypeId} {v:Value} {m:Nat} {xs:LV},w.ownsRow base e 1 v m xs->e≠159->e≠158->(w8.setCell (adZ gn 1) (acX al' (a+1) cl')).ownsRow base e 1 v m xs:=fun G E p=>
  qK (qK (own_below G H) f.only u E E) O T p p
 have V:((List.range a).map fun a=>Value.slice (ra a) n (rc a))++ [acX ar n cr]=(List.range (a+1)).map fun x=>Value.slice (ru ra a ar x) n (ru rc a cr x):=by
  rw[gV,bR]
  congr 1
  ·refine dX fun x hx=> ?_
   have e:=fE.1 hx;rw[oP _ _ aR,oP _ _ aR]
  simp[ou]
 refine⟨K.fU 1 _,keep y aV aV,?_,fun x hx=> ?_,?_,o,by rw[A,gY];exact aF _⟩
 ·rw[<-V]
  exact qK f.own O T aV aV
 ·by_cases e:x=a
  ·subst e
   rw[ou,ou];exact⟨mO (keep s aV aV) i,fun k c=>(dG s k (by rw[dQ];exact c)).2⟩
  rw[oP _ _ e,oP _ _ e];refine⟨keep (r x aR).1 aV aV,fun k c=>(dG (r x aR).1 k (by rw[dQ];exact c)).2⟩
 have l: ∀k∈ [gn],∃cs,aZ w8 k 158 cs:=fun k c=>by
  have e:k=gn:=by simpa using c
  rw[e];exact⟨_,K⟩
 exact((I.below H).kinds (t:=159) f.only (fun k c=>(S k c).2) aV aV aV).kinds (t:=158) O l aV aV aV
end
namespace qM
theorem Hr(c0 s c2 t u v x y z A C k l m n:Int)(w:World):
  Y 39 #[acY #[U c0,U s,U c2,U t,U u,U v,U x,U y,U z,U A,U C,U k,U l,U m,U n]] w
   fun e w'=>e=acK (qY c0 s c2 t u v x y z A C k l m n)/\Be w w':=by
 go_enter func39,ntmps39;go_wp2_with fail;refine(pG _ _ _ _).mono ?_;rintro e w' ⟨rfl,rfl⟩;cases h:yw c0 1 4
 ·go_wp2
  go_ret;exact⟨by simp[qY,h],nC⟩
 go_wp2_with fail;refine(pG _ _ _ _).mono ?_;rintro e w' ⟨rfl,rfl⟩;cases H:yw s 1 4
 ·go_wp2
  go_ret;exact⟨by simp[qY,h,H],nC⟩
 go_wp2_with fail;refine(pG _ _ _ _).mono ?_;rintro e w' ⟨rfl,rfl⟩;cases a:yw c2 1 4
 ·go_wp2
  go_ret;exact⟨by simp[qY,h,H,a],nC⟩
 go_wp2_with fail;refine(pG _ _ _ _).mono ?_;rintro e w' ⟨rfl,rfl⟩;cases b:yw t 1 16
 ·go_wp2
  go_ret;exact⟨by simp[qY,h,H,a,b],nC⟩
 go_wp2_with fail;refine(pG _ _ _ _).mono ?_;rintro e w' ⟨rfl,rfl⟩;cases d:yw u 1 256
 ·go_wp2
  go_ret;exact⟨by simp[qY,h,H,a,b,d],nC⟩
 go_wp2_with fail;refine(pG _ _ _ _).mono ?_;rintro e w' ⟨rfl,rfl⟩;cases f:yw v 1 64
 ·go_wp2
  go_ret;exact⟨by simp[qY,h,H,a,b,d,f],nC⟩
 go_wp2_with fail;refine(pG _ _ _ _).mono ?_;rintro e w' ⟨rfl,rfl⟩;cases i:yw x 1 64
 ·go_wp2
  go_ret;exact⟨by simp[qY,h,H,a,b,d,f,i],nC⟩
 go_wp2_with fail;refine(pG _ _ _ _).mono ?_;rintro e w' ⟨rfl,rfl⟩;cases j:yw y 2 64
 ·go_wp2
  go_ret;exact⟨by simp[qY,h,H,a,b,d,f,i,j],nC⟩
 go_wp2_with fail;refine(pG _ _ _ _).mono ?_;rintro e w' ⟨rfl,rfl⟩;cases p:yw z 0 8
 ·go_wp2
  go_ret;exact⟨by simp[qY,h,H,a,b,d,f,i,j,p],nC⟩
 go_wp2_with fail;refine(pG _ _ _ _).mono ?_;rintro e w' ⟨rfl,rfl⟩;cases q:yw A 1 8
 ·go_wp2
  go_ret;exact⟨by simp[qY,h,H,a,b,d,f,i,j,p,q],nC⟩
 go_wp2_with fail;refine(pG _ _ _ _).mono ?_;rintro e w' ⟨rfl,rfl⟩;cases c:yw C 2 64
 ·go_wp2
  go_ret;exact⟨by simp[qY,h,H,a,b,d,f,i,j,p,q,c],nC⟩
 go_wp2_with fail;refine(pG _ _ _ _).mono ?_;rintro e w' ⟨rfl,rfl⟩;cases g:yw k 0 64
 ·go_wp2
  go_ret;exact⟨by simp[qY,h,H,a,b,d,f,i,j,p,q,c,g],nC⟩
 go_wp2_with fail;refine(pG _ _ _ _).mono ?_;rintro e w' ⟨rfl,rfl⟩;cases o:yw l 2 64
 ·go_wp2
  go_ret;exact⟨by simp[qY,h,H,a,b,d,f,i,j,p,q,c,g,o],nC⟩
 go_wp2_with fail;refine(pG _ _ _ _).mono ?_;rintro e w' ⟨rfl,rfl⟩;cases r:yw m 1 16
 ·go_wp2
  go_ret;exact⟨by simp[qY,h,H,a,b,d,f,i,j,p,q,c,g,o,r],nC⟩
 go_wp2_with fail;refine(pG _ _ _ _).mono ?_;rintro e w' ⟨rfl,rfl⟩;cases B:yw n 1 64
 all_goals
  go_wp2
  go_ret;exact⟨by simp[qY,h,H,a,b,d,f,i,j,p,q,c,g,o,r,B],nC⟩
end qM
theorem XK:(prog.info? 3).map (fun i=>(i.zero,i.size,i.bytes))=some (some (U 0),1,8):=by kernel_rfl
theorem XM:(prog.info? 159).map (fun i=>(i.zero,i.size,i.bytes))=some (some (acX none 0 0),1,24):=by kernel_rfl
theorem XL:(prog.info? 160).map (fun i=>(i.zero,i.size,i.bytes))=some (some (.pointer none),1,8):=by kernel_rfl
def pk(k:Nat):List Int:=(List.range k).map fun(x:Nat)=>(x:Int)
theorem abA(k:Nat):(pk k).length=k:=by simp[pk]
theorem aex(k:Nat):pk (k+1)=pk k++ [(k:Int)]:=by simp[pk,gV]
section
variable{w0 w w':World}{gc gn:Nat}{room:Int}{a N L:Nat}{q g:Nat->Nat}
end
namespace NG
abbrev Tf(f room:Int):Array Value:=#[U f,U 2,U 2,U 4,U room,U 8,U 8,U 8,U 1,U 2,U 12,U 8,U 6,U 2,U 6]
structure NP(w0 w:World)(gc gn:Nat)(f room:Int)(ps:LI):Prop where
 ex: ∃ap cp,aZ w gn 158 #[acX ap ps.length cp,()]/\w.ownsRow w0.heap.size 3 1 (acX ap ps.length cp) ps.length (Jv ps)
 cfg:aZ w gc 24 (Tf f room)
 below:Be w0 w
 ge:w0.heap.size<=gn/\w0.heap.size<=gc
theorem NP.push {w0:World}  {room:Int}  (h:NP w0 w gc gn f room ps) {a8:OA} {c8:Nat} {x:Int} (l:ps.length=n) (c:aZ w gn 158 #[acX ap n cp,()]) (m:w.ownsRow w0.heap.size 3 1 (acX ap n cp) n (Jv ps))
  (H:Be w w5) (b:qQ w5 w8 w0.heap.size 3 1 ap a8 (n+1) c8 (Jv ps++ [U x])):
  (aZ w8 gn 158 #[acX ap n cp,()])/\NP w0 (w8.setCell (adZ gn 0) (acX a8 (n+1) c8)) gc gn f room (ps++ [x]):=by
 have S:=dx (own_below m H);have k:aZ w8 gn 158 #[acX ap n cp,()]:=(c.below H c.lt).only b.only fun d=>by obtain⟨_,cs,a⟩:=S _ d;exact(c.below H c.lt).nY a aV rfl
 have F:aZ w8 gc 24 (Tf f room):=(h.cfg.below H h.cfg.lt).only b.only fun d=>by obtain⟨_,cs,a⟩:=S _ d;exact(h.cfg.below H h.cfg.lt).nY a aV rfl
 have o:Only [gn] w8 (w8.setCell (adZ gn 0) (acX a8 (n+1) c8)):=(Only.refl _ _).setCell (.inl bJ) _;have B:Be w0 w5:=h.below.trans (H.mono h.below.size);have i:=b.below (own_below m H) B (aF _) B.size;refine⟨k,⟨⟨a8,c8,?_,?_⟩,F.far (fun e=>k.nY F aV e.symm) _,o.below i i.size (mR h.ge.1),h.ge⟩⟩
 ·have:=k.fU 0 (acX a8 (n+1) c8)
  simpa[l] using this
 have:=mK b.own o (fun g j=>by rw[dQ] at j;simpa using fun e:g=gn=>mG b.own k aV (by rw[dQ,j,e]));simpa[Jv,l] using this
def Wo(n k:Nat):List Int:=pk n++(List.range k).map fun(x:Nat)=>100+(x:Int)
theorem GZ(n k:Nat):(Wo n k).length=n+k:=by simp[Wo,pk]
theorem abB(n k:Nat):Wo n (k+1)=Wo n k++ [100+(k:Int)]:=by simp[Wo,gV]
theorem abC(n:Nat):Wo n 0=pk n:=by simp[Wo]
structure NS(w0 w:World)(gc gn:Nat)(f room:Int)(n m a N L:Nat)(q g:Nat->Nat):Prop where
 nm:NM w0.heap.size w gn m a N L (Wo n 2) q g room (fun _=>0) (fun _=> [])
 cfg:aZ w gc 24 (Tf f room)
 below:Be w0 w
 ge:w0.heap.size<=gc
section
variable{w0 w w':World}{gc gn:Nat}{f room:Int}{n m a N L:Nat}{q g:Nat->Nat}
theorem NP.ns(d:m=n+2)(h:NP w0 w gc gn f room (Wo n 2))(q g:Nat->Nat):NS w0 w gc gn f room n m 0 0 w.heap.size q g:=by obtain⟨A,c,H,a⟩:=h.ex;rw[GZ,<-d] at H a;exact⟨⟨A,c,none,0,fun _=>none,fun _=>0,H,a,by exact⟨rfl,.inl ⟨rfl,rfl⟩⟩,fun x hx=>absurd hx aR,Qs.nil _ _ _ _ _ _,⟨h.ge.1,fun k b=>absurd b aR⟩,by rw[fI];exact aF _⟩,h.cfg,h.below,h.ge.2⟩
theorem NS.add(h:NS w0 w gc gn f room n m a N L q g)(b:Be w w')(hx:xX w' x x room 0 [])(H:w.heap.size<=x):NS w0 w' gc gn f room n m a (N+1) L (ru q N x) (ru g N x):=by
 have e:ru (fun _:Nat=>(0:Int)) N 0=fun _=>0:=by funext j;unfold ru;split<;>rfl
 have E:ru (fun _:Nat=>([]:List (Value×List Int))) N []=fun _=> []:=by funext j;unfold ru;split<;>rfl
 have n:=h.nm.add b h.below.size hx H H;rw[e,E] at n;exact⟨n,h.cfg.below b h.cfg.lt,h.below.trans (b.mono h.below.size),h.ge⟩
theorem NS.keep(h:NS w0 w gc gn f room n m a N L q g)(H:Be w w'):NS w0 w' gc gn f room n m a N L q g:=
 ⟨h.nm.below H,h.cfg.below H h.cfg.lt,h.below.trans (H.mono h.below.size),h.ge⟩
theorem NS.grow(h:NS w0 w gc gn f room n m a N L q g){ar':OA}{cr' b n':Nat}{xs':LV}(d:w.ownsRow L 160 1 (acX ar b cr) b xs)(e:w0.heap.size<=L)(H:qQ w w' L 160 1 ar ar' n' cr' xs'):NS w0 w' gc gn f room n m a N L q g:=by have S:=dx d;refine⟨h.nm.grow H.only S,h.cfg.only H.only fun i=> ?_,H.below d h.below e h.below.size,h.ge⟩;obtain⟨_,cs,c⟩:=S _ i;exact h.cfg.nY c aV rfl
theorem NS.up(h:NS w0 w gc gn f room n m a N L q g){L':Nat}(H:L<=L'):NS w0 w gc gn f room n m a N L' q g:=⟨h.nm.up H,h.cfg,h.below,h.ge⟩
theorem NS.row (h:NS w0 w gc gn f room n m a N L q g) (l:N=a*m+m) {al:OA} {cl:Nat} {ra:Nat->Option Addr} {rc:Nat->Nat} (hx:NX w0.heap.size w gn m a N L (Wo n 2) q g room (fun _=>0) (fun _=> []) ap cp al cl ra rc)
    (p:w.ownsRow L 160 1 (acX ar m cr) m (ptrs q (a*m) m)) (j:w0.heap.size<=L)  (H:Be w w5)  
  (c:qQ w5 w8 w0.heap.size 159 1 al al' (a+1) cl' (((List.range a).map fun a=>Value.slice (ra a) m (rc a))++ [acX ar m cr])):
  (aZ w8 gn 158 #[acX ap m cp,acX al a cl])/\NS w0 (w8.setCell (adZ gn 1) (acX al' (a+1) cl')) gc gn f room n m (a+1) N w.heap.size q g:=by
 have S:=dx (own_below hx.rows H);have k:aZ w8 gn 158 #[acX ap m cp,acX al a cl]:=(hx.blk.below H hx.blk.lt).only c.only fun d=>by obtain⟨_,cs,b⟩:=S _ d;exact(hx.blk.below H hx.blk.lt).nY b aV rfl
 have F:aZ w8 gc 24 (Tf f room):=(h.cfg.below H h.cfg.lt).only c.only fun d=>by obtain⟨_,cs,b⟩:=S _ d;exact(h.cfg.below H h.cfg.lt).nY b aV rfl
 have o:Only [gn] w8 (w8.setCell (adZ gn 1) (acX al' (a+1) cl')):=(Only.refl _ _).setCell (.inl bJ) _;have B:Be w0 w5:=h.below.trans (H.mono h.below.size);have i:=c.below (own_below hx.rows H) B (aF _) B.size;exact⟨k,(hx.apf l p j H c o).nm,F.far (fun e=>k.nY F aV e.symm) _,o.below i i.size (mR hx.ge.1),h.ge⟩
end
theorem xu(f room:Int)(h:1<=f)(H:f<=4)(a:1<=room/\room<=256):qM.qY f 2 2 4 room 8 8 8 1 2 12 8 6 2 6=true:=by simp[qM.qY,qM.yw,a,h,H]
theorem ahw(f room:Int)(h1:1<=f)(h4:f<=4)(n:Nat)(hn:(n:Int)=3*f+1)(m:Nat)(u:m=n+2)(hr:1<=room/\room<=256)(w:World):
  Y 43 #[.agg (Tf f room)] w fun e w'=> ∃gn q g,e= .returned (.tuple #[.pointer (some ⟨gn,0,none⟩),U 0])/\Nt w.heap.size w' gn m (Wo n 2) q g room (fun _=>0) (fun _=> [])/\Be w w'/\w.heap.size<=gn/\ ∀k,k<m*m->w.heap.size<=q k/\w.heap.size<=g k:=by
 have w0:n<=13:=aR;have H:=jj u;have HN:=jj hn;have k0:m<=15:=aR;clear u hn;obtain⟨ti,O,T,V,X⟩:=info_parts XK;obtain⟨pi,l0,m0,n0,o0⟩:=info_parts XL;obtain⟨ri,p0,q0,r0,s0⟩:=info_parts XM;go_enter func43,ntmps43;go_upto_region 1 with fail;obtain⟨w1,o⟩:=ex (w.alloc (.cells (Tf f room) 24));obtain⟨G,A⟩:=ex w.heap.size;rw[<-o,<-A];have p:=xNew o A;have B1:=tQ o;have GC:=F9 (w.heap.size<=G) aR;clear o A;obtain⟨c0,c1,c2,c3,c4,c5,c6,c7,F,c9⟩:=p.zA;have a0:=p.at_ 10;have b0:=p.at_ 11;have e0:=p.at_ 12;have f0:=p.at_ 13;have g0:=p.at_ 14;go_wp2_with fail;refine(qM.Hr _ _ _ _ _ _ _ _ _ _ _ _ _ _ _ _).mono ?_;rintro e w2 ⟨rfl,z⟩;rw[xu f room h1 h4 hr];have K2:=jj (p.below z p.lt);have B2:=nO B1 z;clear z c0 c1 c2 c3 c4 c5 c6 c7 F c9 a0 b0 e0 f0 g0;go_upto_region 4 with fail;generalize hw3:w2.alloc _=w3;generalize hgn:w2.heap.size=gn;replace hw3:=hw3.symm;replace hgn:=hgn.symm;have N3:Hid (NP w w3 G gn f room (pk 0)):=by have b3:=(tQ hw3).out;exact jj ⟨⟨none,0,by rw[hw3,hgn];exact aZ.new _ _ _,by simp[pk];exact⟨rfl,.inl ⟨rfl,rfl⟩⟩⟩,K2.below b3 K2.lt,B2.trans (b3.mono B2.size),by rw[hgn];exact B2.size,GC⟩
 clear hw3 hgn
 go_upto_block 0 with fail
 go_cut [5] (fun s wx=>s= U n/\NP w wx G gn f room (pk n))
 case first=>
  go_wp2_with fail;go_loopw [5] (fun s wr=> ∃k:Nat,k<=n/\s= U k/\NP w wr G gn f room (pk k)) (fun s _=>n -(intOf s).toNat)
  case atStart=>exact⟨0,aR,rfl,N3⟩
  case round=>
   obtain⟨k,L,rfl,C⟩:=hrel;have j:=jj C;have d0:=C.cfg.at_ 0;clear C;go_wp2_with fail;refine(oC f _ aR aR).mono ?_;rintro e w' ⟨rfl,rfl⟩;rw[<-HN.out];by_cases R:k<n
   ·have i1:(k:Int)<n:=aR
    obtain⟨D,I,d,i⟩:=j.ex;rw[abA] at d i;have M:=jj d;have N:=jj i;clear d i d0;have KB:=jj j.below.size;have Z:=M.at_ 0
    go_wp2_with(at_builtin;refine fD rfl (.tmp 26) (.tmp 28) _ rfl w.heap.size 3 ti _ 1 8 underlying35 O T V X rfl aR D k I (Jv (pk k)) rfl (dM N _) (some ⟨wr.heap.size,0,none⟩) 1 1 [U k] rfl (qC _ _ _) (by simp[Value.oneCell']) (by unfold maxLen;omega) aR (by have:=KB.out;simp;omega) ?_;intro a8 F w8 h;obtain⟨K,P⟩:=j.push (abA k) M N nC h;have y:=jj P;have d8:=K.cell 0;have f8:=K.frozen 0;clear K P h)
    go_roundw
    case rel=>exact⟨k+1,aR,by go_num,by rw[aex];exact y.out⟩
    simp[intOf];omega
   obtain rfl:k=n:=aR;clear d0;go_wp2_with fail;go_meet;exact⟨rfl,j⟩
 case rest=>
  obtain⟨rfl,h4⟩:=hcut;have N4:=jj h4;clear h4
  go_upto_block 2 with fail
  go_cut [6] (fun s wx=>s= U 2/\NP w wx G gn f room (Wo n 2))
  case first=>
   go_wp2_with fail;go_loopw [6] (fun s wr=> ∃k:Nat,k<=2/\s= U k/\NP w wr G gn f room (Wo n k)) (fun s _=>2 -(intOf s).toNat)
   case atStart=>exact⟨0,aR,rfl,by rw[abC];exact N4.out⟩
   case round=>
    obtain⟨k,L,rfl,C⟩:=hrel;have j:=jj C;have d0:=C.cfg.at_ 1;clear C;by_cases R:k<2
    ·have i1:(k:Int)<2:=aR
     have e1:IntKind.i64.wrap (100+(k:Int))=100+k:=aH _ aR;obtain⟨D,I,d,i⟩:=j.ex;obtain⟨nk,B⟩:=ex (n+k);rw[GZ,<-B] at d i;obtain⟨M,N,KB⟩:=j3 d i j.below.size;have LN:=jj ((GZ n k).trans B.symm);have v0:nk<=15:=aR;have Z:=M.at_ 0;clear d i B
     go_wp2_with(at_builtin;refine fD rfl (.tmp 42) (.tmp 45) _ rfl w.heap.size 3 ti _ 1 8 underlying35 O T V X rfl aR D nk I (Jv (Wo n k)) rfl (dM N _) (some ⟨wr.heap.size,0,none⟩) 1 1 [U (100+k)] rfl (qC _ _ _) (by simp[Value.oneCell']) (by unfold maxLen;omega) aR (by have:=KB.out;simp;omega) ?_;intro a8 F w8 h;obtain⟨K,P⟩:=j.push LN M N nC h;have y:=jj P;have d8:=K.cell 0;have f8:=K.frozen 0;clear K P h)
     go_roundw
     case rel=>exact⟨k+1,aR,by go_num,by rw[abB];exact y.out⟩
     simp[intOf];omega
    have i0:k=2:=aR;subst i0;go_wp2_with fail;go_meet;exact⟨rfl,j⟩
  case rest=>
   obtain⟨rfl,h5⟩:=hcut;have N5:=jj h5;obtain⟨D,I,d,i⟩:=h5.ex;rw[GZ,<-H.out] at d i;have Z:=d.at_ 0;have M5:=jj (h5.ns H (fun _=>0) (fun _=>0));clear h5 d i;go_wp2_with fail;clear Z
   go_loopw [54] (fun s wr=> ∃(a:Nat) (q g:Nat->Nat),a<=m/\s= U a/\NS w wr G gn f room n m a (a*m) wr.heap.size q g) (fun s _=>m -(intOf s).toNat)
   case atStart=>exact⟨0,_,_,aR,rfl,by rw[fI];exact M5.out⟩
   case round=>
    obtain⟨a,q,g,ha,rfl,u⟩:=hrel;have H:=jj u;clear u;by_cases R:a<m
    ·have i1:(a:Int)<m:=aR
     obtain⟨W,rfl⟩:=ex wr;obtain⟨D,I,al,cl,ra,rc,hx⟩:=H.nm;have Z:=hx.blk.at_ 0;clear hx;go_wp2_with fail;clear Z
     go_loopw [61,7] (fun s t wr=> ∃(b:Nat) (Q g':Nat->Nat) (E:OA) (J:Nat),b<=m/\s= U b/\t= .slice E b J/\NS w wr G gn f room n m a (a*m+b) W.heap.size Q g'/\W.heap.size<=wr.heap.size/\wr.ownsRow W.heap.size 160 1 (.slice E b J) b (ptrs Q (a*m) b)) (fun s _ _=>m -(intOf s).toNat)
     case atStart=>exact⟨0,q,g,none,0,aR,rfl,rfl,H,aF _,rfl,.inl ⟨rfl,rfl⟩⟩
     case round=>
      obtain⟨b,Q,g',E,J,t0,rfl,rfl,u,j0,v⟩:=hrel;have c:=jj u;have HR:=jj v;clear u v;by_cases h0:b<m
      ·have i2:(b:Int)<m:=aR
       have k4:=c.cfg.at_ 4;go_wp2_with fail;refine(XU room _ hr.1 hr.2).mono ?_;rintro e w5 ⟨x,rfl,S,r,l⟩;have ma:a*m<=15*15:=jK aR k0;have N6:=jj (c.add l S r);obtain⟨k,L⟩:=ex (a*m+b);have R6:=F9 (w5.ownsRow W.heap.size 160 1 (.slice E b J) b (ptrs (ru Q k x) (a*m) b)) (by rw[Jz (q:=Q) (fun k' u0=>oP _ _ aR)];exact own_below HR l)
       rw[<-L] at N6;have X6:=F9 (ptrs (ru Q k x) (a*m) (b+1)=ptrs (ru Q k x) (a*m) b++ [.pointer (some ⟨x,0,none⟩)]) (by unfold ptrs;rw[gV,bR];simp only[bV,fu];rw[<-L,ou])
       have HK:=jj L;have LE:=F9 (W.heap.size<=w5.heap.size) (aG j0 l.size);clear S r l k4 L
       go_wp2_with(at_builtin;refine fD rfl (.tmp 69) (.tmp 71) _ rfl W.heap.size 160 pi _ 1 8 underlying159 l0 m0 n0 o0 rfl aR E b J (ptrs (ru Q k x) (a*m) b) rfl (dM R6 _) (some ⟨w5.heap.size,0,none⟩) 1 1 [.pointer (some ⟨x,0,none⟩)] rfl (qC _ _ _) (by simp[Value.oneCell']) (by unfold maxLen;omega) aR (by have:=LE.out;simp;omega) ?_;intro a8 F w8 h;have y:=jj ((N6.keep nC).grow (own_below R6 nC) H.below.size h);have Q8:=jj h.own;have z8:=F9 (w5.heap.size<=w8.heap.size) (aG bJ h.only.size);clear h)
       go_roundw
       case rel=>exact⟨b+1,_,_,a8,F,aR,by go_num,by go_num,by rw[<-dL,<-HK.out];exact y.out,aG LE z8,by rw[X6.out];exact Q8.out⟩
       simp[intOf];omega
      obtain rfl:b=m:=aR;obtain⟨D,I,al,cl,ra,rc,hx⟩:=c.nm;have HX:=jj hx;have k1:=hx.blk.at_ 1;have LE:=F9 (w.heap.size<=wr.heap.size) c.below.size;clear hx
      go_wp2_with(at_builtin;refine fD rfl (.tmp 78) (.tmp 80) _ rfl w.heap.size 159 ri _ 1 24 underlying156 p0 q0 r0 s0 rfl aR al a cl ((List.range a).map fun a=>Value.slice (ra a) b (rc a)) rfl (dM HX.rows _) (some ⟨wr.heap.size,0,none⟩) 1 1 [.slice E b J] rfl (qC _ _ _) (by simp[Value.oneCell']) (by unfold maxLen;omega) aR (by have:=LE.out;simp;omega) ?_;intro a8 F w8 h;obtain⟨K,P⟩:=c.row rfl HX HR H.below.size nC h;have y:=jj P;have d8:=K.cell 1;have f8:=K.frozen 1;have z8:=F9 (wr.heap.size<=w8.heap.size) (aG bJ h.only.size);clear K P h)
      go_roundw
      case rel=>exact⟨a+1,_,_,aR,by go_num,by rw[gY];exact y.up (mR z8.out)⟩
      simp[intOf];omega
    obtain rfl:a=m:=aR;go_wp2_with fail;go_ret2
    refine⟨gn,q,g,rfl,H.nm.nt,H.below,?_,?_⟩
    ·obtain⟨_,_,_,_,_,_,hx⟩:=H.nm;exact hx.ge.1
    obtain⟨_,_,_,_,_,_,hx⟩:=H.nm;exact hx.ge.2
end NG
abbrev sW(f:Int):Array Value:=NG.Tf f 64
def uR(u:World)(gc:Nat)(f:Int):Prop:=u.cell? (adZ gc 0)=some (U f)/\J u gc 1 (U 2)/\J u gc 2 (U 2)/\J u gc 3 (U 4)/\J u gc 4 (U 64)/\J u gc 5 (U 8)/\J u gc 6 (U 8)/\J u gc 7 (U 8)/\
 J u gc 8 (U 1)/\J u gc 9 (U 2)/\J u gc 10 (U 12)/\J u gc 11 (U 8)/\J u gc 12 (U 6)/\J u gc 13 (U 2)/\J u gc 14 (U 6)
theorem sZ{u:World}(h:aZ u gc 24 (sW f)):uR u gc f:=⟨h.cell 0,h.cell 1,h.cell 2,h.cell 3,h.cell 4,h.cell 5,h.cell 6,h.cell 7,h.cell 8,h.cell 9,h.cell 10,h.cell 11,h.cell 12,h.cell 13,h.cell 14⟩
def Ip(nn gt:Nat):sI:=⟨nn,gt,false,none,0,[],0,none,0,[],none,0,[],none,0,[],0⟩
theorem ahl(x:Nat)(f:Int)(h1:1<=f)(h4:f<=4)(id:Int)(F:0<=id/\id<2)(nn:Nat)(w:World):
  Y 46 #[acY (sW f),U id,nn] w fun e w'=> ∃n i,e=acK (ac2 #[(n:Nat),U 0])/\qF x w' f id n (Ip nn i)/\w.heap.size<=n/\w.heap.size<=i/\Be w w':=by
 obtain⟨i1,i2⟩:=F;go_enter func46,ntmps46;go_upto_region 1 with fail;obtain⟨w1,c⟩:=ex (w.alloc (.cells (sW f) 24));obtain⟨G,k⟩:=ex w.heap.size;rw[<-c,<-k];have r:=xNew c k;have Q:=tQ c;clear c k;obtain⟨T,v,V,Z,c4,c5,c6,c7,c8,c9,y,z,A,D,E⟩:=sZ r;go_wp2_with fail;refine(qM.Hr _ _ _ _ _ _ _ _ _ _ _ _ _ _ _ _).mono ?_;rintro e W ⟨rfl,j⟩;rw[NG.xu f 64 h1 h4 aV];have s:=jj (r.below j r.lt);have B:=nO Q j;clear j T v V Z c4 c5 c6 c7 c8 c9 y z A D E;have v:=s.at_ 1;have q1: ¬id<0:=aR;have q2: ¬2<=id:=aR;go_upto_region 3 with fail;clear v;have K:=F9 (∀u,Be W u->uR u G f) fun u hu=>sZ (s.below hu s.lt);have KS:=K.out W.drew ((aC _ _).drew);unfold uR at KS;refine um (fun u=>J u G 0 (U f)/\J u G 1 (U 2)/\J u G 2 (U 2)/\J u G 3 (U 4)/\J u G 4 (U 64)/\J u G 5 (U 8)/\J u G 6 (U 8)/\J u G 7 (U 8)/\
  J u G 8 (U 1)/\J u G 9 (U 2)/\J u G 10 (U 12)/\J u G 11 (U 8)/\J u G 12 (U 6)/\J u G 13 (U 2)/\J u G 14 (U 6)) 8 (tk 0 3 (.one 3 (.take 4 (.one 5 (.take 6 (.take 7 .done)))))) (by kernel_rfl) (by kernel_rfl) (by kernel_rfl) KS ?_
 intro h;obtain⟨N,m⟩:=ex W.drew;have I:=bDr m;rw[<-m] at h|-;clear m
 repeat refine' tT ?_
 refine pO fun KT bq=> ?_;go_simp;refine(aad N).mono ?_;rintro e O ⟨rfl,H,p⟩;have q:=nO I p;obtain⟨i,l⟩:=ex N.heap.size;rw[<-l] at H|-;have C:=jj H;have GT:=F9 (W.heap.size<=i) (by rw[l];exact I.size);clear H p l;have S:=K.out _ q;unfold uR at S;refine oH bq S ?_;clear h;have h:=S
 repeat refine' tT ?_
 refine pO fun KT bq=> ?_;go_simp;obtain⟨P,d⟩:=ex (O.alloc (.cells (Nz f id (Ip nn i)) 120));obtain⟨n,b⟩:=ex O.heap.size;have a:=d;simp only[Nz,Ip,List.length_nil] at a;rw[<-a,<-b];have X:=xNew d b;have R:=F9 (W.heap.size<=n) (by rw[b];exact q.size);have M:=tQ d;have o:=F9 (vT P i 0) (aZ.below C M (aZ.lt C));have L:=F9 (Be W P) (q.trans (M.mono q.size));clear d a b;have t:=K.out _ L;unfold uR at t;refine oH bq t ?_;clear h;have h:=t
 repeat refine' tT ?_
 refine aU ?_;clear h;go_wp2_with fail;go_ret2
 refine⟨n,i,by trivial,?_,aG B.size R,aG B.size GT,B.trans (L.mono B.size)⟩;exact⟨X,o,⟨rfl,.inl ⟨rfl,rfl⟩⟩,fun g hg=>by simp[Ip] at hg,⟨rfl,.inl ⟨rfl,rfl⟩⟩,⟨rfl,.inl ⟨rfl,rfl⟩⟩,nJ.nil _ _⟩
theorem Sys.perm{L:List ni}(h:Sys x w L)(p:L.Perm L'):Sys x w L':=
 ⟨fun c H=>h.good c (p.mem_iff.2 H),fun c H=>h.at_ c (p.mem_iff.2 H),(p.pairwise_iff fun h=>Apart.symm h).1 h.sep⟩
abbrev z17:Array Value:=ints (List.replicate 17 0)
structure Xi(w:World)(A:OA)(d:Nat)(l:LN):Prop where
 out:w.ownsRow 0 35 1 (acX A l.length d) l.length (l.map fun g=>Value.slice (some (adZ g 0)) 17 17)
 KI: ∀g∈l,aZ w g 3 z17
 nd:l.Nodup
def Ay(A:OA)(d:Nat)(l:LN):ni:=nM ((A.map (·.block)).toList++l) fun w=>Xi w A d l
theorem Ea(A:OA)(d:Nat)(l:LN):(Ay A d l).Good:=
 Pure.good ⟨fun H c b=>⟨DJ H.out c fun z f=>b z (bL _ f),fun g a=>(H.KI g a).only c (b g (bH _ a)),H.nd⟩,fun H k h=>by
  rcases aQ.1 h with h|h
  ·obtain⟨_,cs,e⟩:=dx H.out k h
   exact e.lt
  ·exact(H.KI k h).lt,fun H k h=>by
  rcases aQ.1 h with h|h
  ·exact Plain.own H.out aV k h
  exact Plain.of (H.KI k h) aV⟩
theorem Jb(f:Int)(n:Nat)(g:Nat)(i:tJ): ∀(l:List (Nat×tJ)) (k:Nat),sD f n k (l++ [(g,i)])=sD f n k l++ [zX f n (k+l.length) g i]
 | [],k=>by simp[sD]
 |(g',i')::l,k=>by have:=Jb f n g i l (k+1);rw[show k+1+l.length=k+(l.length+1) by omega] at this;simp[sD,this]
def nmc(f id:Int)(nn gt:Nat)(v18 v19 v20 v21 v22 v23 v24 v25 v26 v27:Value):Array Value:=#[U f,U 2,U 2,U 4,U 64,U 8,U 8,U 8,U 1,U 2,U 12,U 8,U 6,U 2,U 6,
 U id,nn,gt,v18,v19,v20,v21,v22,v23,v24,v25,v26,v27,
 U 0,U 0,U (-1),U 0,U 0,false,(),U 0,U 0,U 0,U 0,U 0]
structure xD where
 gc:Nat
 q:Nat
 nn:Nat
 gt:Nat
 gs:List Nat
 a1:Option Addr
 d1:Nat
 ps:List Nat
 a2:Option Addr
 d2:Nat
 cs:List Nat
 a3:Option Addr
 d3:Nat
 is:List (Nat×tJ)
def xD.cells(f id:Int)(D:xD)(v19 v20 v21 v22 v23 v24 v25:Value):Array Value:=nmc f id D.nn D.gt (acX D.a1 D.gs.length D.d1) v19 v20 v21 v22 v23 v24 v25 (acX D.a2 D.ps.length D.d2) (acX D.a3 D.cs.length D.d3)
def xD.zJ(D:xD):ni:=wG 164 1 D.a1 D.gs.length D.d1 (D.gs.map fun g=> .pointer (some (adZ g 0)))
def xD.L(f:Int)(n:Nat)(D:xD)(c:AV)(R:List ni):List ni:=
 mW D.q 131 c::Da D.gt 0::D.zJ::Ay D.a2 D.d2 D.ps::Ay D.a3 D.d3 D.cs::mW D.gc 24 (sW f)::(sD f n 0 D.is++R)
structure pX(x:Nat)(w wr:World)(f id:Int)(n:Nat)(D:xD)(v19 v20 v21 v22 v23 v24 v25:Value)(R:List ni):Prop where
 sys:Sys x wr (D.L f n (D.cells f id v19 v20 v21 v22 v23 v24 v25) R)
 below:Be w wr
 ge: ∀k∈nE (D.L f n (D.cells f id v19 v20 v21 v22 v23 v24 v25) R),w.heap.size<=k
section
variable{x n:Nat}{w wr w':World}{f id:Int}{D:xD}{v19 v20 v21 v22 v23 v24 v25:Value}{R:List ni}
theorem pX.step{L:List ni}(s:Step x wr w' L L')(a:Be w wr)(H: ∀k∈nE L,w.heap.size<=k):Be w w'/\ ∀k∈nE L',w.heap.size<=k:=
 ⟨s.only.below a a.size H,fun k b=>by
  rcases s.new k b with h|h
  ·exact H k h
  exact aG a.size h⟩
theorem pX.keep(h:pX x w wr f id n D v19 v20 v21 v22 v23 v24 v25 R)(H:Be wr w'):pX x w w' f id n D v19 v20 v21 v22 v23 v24 v25 R:=
 ⟨h.sys.below H,h.below.trans (H.mono h.below.size),h.ge⟩
theorem pX.blk(h:pX x w wr f id n D v19 v20 v21 v22 v23 v24 v25 R):aZ wr D.q 131 (D.cells f id v19 v20 v21 v22 v23 v24 v25):=h.sys.get (j:=0) (c:=mW D.q 131 (D.cells f id v19 v20 v21 v22 v23 v24 v25)) rfl
theorem pX.cfg(h:pX x w wr f id n D v19 v20 v21 v22 v23 v24 v25 R):aZ wr D.gc 24 (sW f):=h.sys.get (j:=5) (c:=mW D.gc 24 (sW f)) rfl
theorem pX.o1(h:pX x w wr f id n D v19 v20 v21 v22 v23 v24 v25 R):wr.ownsRow 0 164 1 (acX D.a1 D.gs.length D.d1) D.gs.length (D.gs.map fun g=> .pointer (some (adZ g 0))):=h.sys.get (j:=2) (c:=D.zJ) rfl
theorem pX.o2(h:pX x w wr f id n D v19 v20 v21 v22 v23 v24 v25 R):Xi wr D.a2 D.d2 D.ps:=h.sys.get (j:=3) (c:=Ay D.a2 D.d2 D.ps) rfl
theorem pX.o3(h:pX x w wr f id n D v19 v20 v21 v22 v23 v24 v25 R):Xi wr D.a3 D.d3 D.cs:=h.sys.get (j:=4) (c:=Ay D.a3 D.d3 D.cs) rfl
theorem Ap{base base':Nat}{t:TypeId}(h:wr.ownsRow base t s (acX A m d) m xs)(H: ∀k∈(A.map (·.block)).toList,base'<=k):wr.ownsRow base' t s (acX A m d) m xs:=
 DI h fun g a=>H g (aJ.2 (by rw[dQ] at a;exact a))
theorem pX.p1(h:pX x w wr f id n D v19 v20 v21 v22 v23 v24 v25 R):wr.ownsRow w.heap.size 164 1 (acX D.a1 D.gs.length D.d1) D.gs.length (D.gs.map fun g=> .pointer (some (adZ g 0))):=Ap h.o1 fun k H=>h.ge k (pY (j:=2) (c:=D.zJ) rfl H)
theorem pX.p2(h:pX x w wr f id n D v19 v20 v21 v22 v23 v24 v25 R):wr.ownsRow w.heap.size 35 1 (acX D.a2 D.ps.length D.d2) D.ps.length (D.ps.map fun g=>Value.slice (some (adZ g 0)) 17 17):=Ap h.o2.out fun k H=>h.ge k (pY (j:=3) (c:=Ay D.a2 D.d2 D.ps) rfl (bL _ H))
theorem pX.p3(h:pX x w wr f id n D v19 v20 v21 v22 v23 v24 v25 R):wr.ownsRow w.heap.size 35 1 (acX D.a3 D.cs.length D.d3) D.cs.length (D.cs.map fun g=>Value.slice (some (adZ g 0)) 17 17):=Ap h.o3.out fun k H=>h.ge k (pY (j:=4) (c:=Ay D.a3 D.d3 D.cs) rfl (bL _ H))
theorem pX.q8(h:pX x w wr f id n D v19 v20 v21 v22 v23 v24 v25 R){t:TypeId}(c:wr.ownsRow w.heap.size t 1 (acX A m d) m xs)(e:t≠131)(H:qQ wr w' w.heap.size t 1 A A' m' cap ys):aZ w' D.q 131 (D.cells f id v19 v20 v21 v22 v23 v24 v25):=
 h.blk.only H.only fun b=>by obtain⟨_,cs,a⟩:=dx c _ b;exact h.blk.nY a (dR e) rfl
theorem pX.inst(h:pX x w wr f id n D v19 v20 v21 v22 v23 v24 v25 []){gi:Nat}{i:tJ}(d:Be wr w')(g:eU x w' f n D.is.length 4 gi i)(a: ∀b∈i.foot gi,wr.heap.size<=b):
  pX x w w' f id n {D with is:=D.is++ [(gi,i)]} v19 v20 v21 v22 v23 v24 v25 []:=by
 have s:=(h.sys.below d).add (c:=zX f n D.is.length gi i) g (Ja _ _ _ _ _) fun k H j=>by have:=h.sys.lt k j;have:=a k H;omega
 have e:D.L f n (D.cells f id v19 v20 v21 v22 v23 v24 v25) []++ [zX f n D.is.length gi i]=({D with is:=D.is++ [(gi,i)]}:xD).L f n (({D with is:=D.is++ [(gi,i)]}:xD).cells f id v19 v20 v21 v22 v23 v24 v25) []:=by simp only[xD.L,Jb,aO,eG,List.cons_append];rfl
 rw[e] at s;refine⟨s,h.below.trans (d.mono h.below.size),fun k H=> ?_⟩;rw[<-e,zU,aQ] at H;rcases H with H|H
 ·exact h.ge k H
 refine aG h.below.size (a k ?_);simpa[nE,zX] using H
theorem pX.app1(h:pX x w wr f id n D v19 v20 v21 v22 v23 v24 v25 R)(a:qQ wr w' w.heap.size 164 1 D.a1 A' (D.gs.length+1) cap ((D.gs.map fun g=>Value.pointer (some (adZ g 0)))++ [.pointer (some (adZ g 0))])):
  pX x w (w'.setCell ⟨D.q,18,none⟩ (acX A' (D.gs.length+1) cap)) f id n {D with gs:=D.gs++ [g],a1:=A',d1:=cap} v19 v20 v21 v22 v23 v24 v25 R:=by
 have s:=h.sys.turn (j:=2) (c:=D.zJ) (c':=({D with gs:=D.gs++ [g],a1:=A',d1:=cap}:xD).zJ) rfl a.only (fun k H=> .inl H) (by show w'.ownsRow 0 _ _ _ _ _;simp only[av,List.length_cons,List.length_nil,bR,bV,fu];exact mO a.own (bF _)) (uJ _ _ _ _ _ _ aV) (fun k H=>(a.at_ k (aJ.1 H)).imp (fun e=>aJ.2 e) fun e=>e)
 have b:aZ w' D.q 131 (D.cells f id v19 v20 v21 v22 v23 v24 v25):=s.sys.get (j:=0) (c:=mW D.q 131 (D.cells f id v19 v20 v21 v22 v23 v24 v25)) rfl;have S:=s.turn (j:=0) (c:=mW D.q 131 (D.cells f id v19 v20 v21 v22 v23 v24 v25)) (c':=mW D.q 131 (({D with gs:=D.gs++ [g],a1:=A',d1:=cap}:xD).cells f id v19 v20 v21 v22 v23 v24 v25)) rfl ((Only.refl [D.q] w').setCell (p:=⟨D.q,18,none⟩) (.inl bJ) (acX A' (D.gs.length+1) cap)) (fun k H=> .inl H) (by have:=b.fU 18 (acX A' (D.gs.length+1) cap);show aZ _ _ _ (({D with gs:=D.gs++ [g],a1:=A',d1:=cap}:xD).cells f id v19 v20 v21 v22 v23 v24 v25);simp only[xD.cells,av,List.length_cons,List.length_nil];exact this) (oF _ _ _ aV) (fun k H=> .inl H)
 have:=pX.step S h.below h.ge;exact⟨S.sys,this.1,this.2⟩
theorem abY{l:LN}(h:Xi w1 A d l)(c:aZ w1 g 3 z17)(m:g∉l)(f:qQ w1 w' B 35 1 A A' (l.length+1) cap ((l.map fun g=>Value.slice (some (adZ g 0)) 17 17)++ [acX (some (adZ g 0)) 17 17])):Xi w' A' cap (l++ [g]):=by
 have far: ∀g,aZ w1 g 3 z17->g∉(A.map (·.block)).toList:=fun g c k=>by obtain⟨_,cs,j⟩:=dx h.out g k;exact c.nY j aV rfl
 refine⟨?_,fun b H=> ?_,?_⟩
 ·simp only[av,List.length_cons,List.length_nil,bR,bV,fu]
  exact mO f.own (bF _)
 ·rcases aQ.1 H with H|H
  ·exact(h.KI b H).only f.only (far b (h.KI b H))
  rw[au] at H;subst H;exact c.only f.only (far b c)
 rw[ig];refine⟨h.nd,bJ,fun a i b H e=>m ?_⟩;rw[au] at H;rw[<-H,<-e];exact i
theorem pX.an2(h:pX x w wr f id n D v19 v20 v21 v22 v23 v24 v25 R)(a:Be wr w1)(o:aZ w1 g 3 z17)(i:wr.heap.size<=g)(d:qQ w1 w' w.heap.size 35 1 D.a2 A' (D.ps.length+1) cap ((D.ps.map fun g=>Value.slice (some (adZ g 0)) 17 17)++ [acX (some (adZ g 0)) 17 17])):
  pX x w (w'.setCell ⟨D.q,26,none⟩ (acX A' (D.ps.length+1) cap)) f id n {D with ps:=D.ps++ [g],a2:=A',d2:=cap} v19 v20 v21 v22 v23 v24 v25 R:=by
 have l: ∀b∈D.ps,b<wr.heap.size:=fun b a=>(h.o2.KI b a).lt;have s:=h.sys.turn (j:=3) (c:=Ay D.a2 D.d2 D.ps) (c':=Ay A' cap (D.ps++ [g])) (S:=(D.a2.map (·.block)).toList) rfl ((Only.of_below a).trans d.only) (fun k H=> .inl (bL _ H)) (abY (h.keep a).o2 o (fun q=>by have:=l g q;omega) d) (Ea _ _ _) (fun k H=>by
  rcases aQ.1 H with H|H
  ·exact(d.at_ k (aJ.1 H)).imp (fun e=>bL _ (aJ.2 e)) fun e=>aG a.size e
  rcases aQ.1 H with H|H
  ·exact .inl (bH _ H)
  rw[au] at H;exact .inr (by rw[H];exact i))
 have B:aZ w' D.q 131 (D.cells f id v19 v20 v21 v22 v23 v24 v25):=s.sys.get (j:=0) (c:=mW D.q 131 (D.cells f id v19 v20 v21 v22 v23 v24 v25)) rfl;have m:=s.turn (j:=0) (c:=mW D.q 131 (D.cells f id v19 v20 v21 v22 v23 v24 v25)) (c':=mW D.q 131 (({D with ps:=D.ps++ [g],a2:=A',d2:=cap}:xD).cells f id v19 v20 v21 v22 v23 v24 v25)) rfl ((Only.refl [D.q] w').setCell (p:=⟨D.q,26,none⟩) (.inl bJ) (acX A' (D.ps.length+1) cap)) (fun k H=> .inl H) (by have:=B.fU 26 (acX A' (D.ps.length+1) cap);show aZ _ _ _ (({D with ps:=D.ps++ [g],a2:=A',d2:=cap}:xD).cells f id v19 v20 v21 v22 v23 v24 v25);simp only[xD.cells,av,List.length_cons,List.length_nil];exact this) (oF _ _ _ aV) (fun k H=> .inl H)
 have:=pX.step m h.below h.ge;exact⟨m.sys,this.1,this.2⟩
theorem pX.an3(h:pX x w wr f id n D v19 v20 v21 v22 v23 v24 v25 R)(a:Be wr w1)(o:aZ w1 g 3 z17)(i:wr.heap.size<=g)(d:qQ w1 w' w.heap.size 35 1 D.a3 A' (D.cs.length+1) cap ((D.cs.map fun g=>Value.slice (some (adZ g 0)) 17 17)++ [acX (some (adZ g 0)) 17 17])):
  pX x w (w'.setCell ⟨D.q,27,none⟩ (acX A' (D.cs.length+1) cap)) f id n {D with cs:=D.cs++ [g],a3:=A',d3:=cap} v19 v20 v21 v22 v23 v24 v25 R:=by
 have l: ∀b∈D.cs,b<wr.heap.size:=fun b a=>(h.o3.KI b a).lt;have s:=h.sys.turn (j:=4) (c:=Ay D.a3 D.d3 D.cs) (c':=Ay A' cap (D.cs++ [g])) (S:=(D.a3.map (·.block)).toList) rfl ((Only.of_below a).trans d.only) (fun k H=> .inl (bL _ H)) (abY (h.keep a).o3 o (fun q=>by have:=l g q;omega) d) (Ea _ _ _) (fun k H=>by
  rcases aQ.1 H with H|H
  ·exact(d.at_ k (aJ.1 H)).imp (fun e=>bL _ (aJ.2 e)) fun e=>aG a.size e
  rcases aQ.1 H with H|H
  ·exact .inl (bH _ H)
  rw[au] at H;exact .inr (by rw[H];exact i))
 have B:aZ w' D.q 131 (D.cells f id v19 v20 v21 v22 v23 v24 v25):=s.sys.get (j:=0) (c:=mW D.q 131 (D.cells f id v19 v20 v21 v22 v23 v24 v25)) rfl;have m:=s.turn (j:=0) (c:=mW D.q 131 (D.cells f id v19 v20 v21 v22 v23 v24 v25)) (c':=mW D.q 131 (({D with cs:=D.cs++ [g],a3:=A',d3:=cap}:xD).cells f id v19 v20 v21 v22 v23 v24 v25)) rfl ((Only.refl [D.q] w').setCell (p:=⟨D.q,27,none⟩) (.inl bJ) (acX A' (D.cs.length+1) cap)) (fun k H=> .inl H) (by have:=B.fU 27 (acX A' (D.cs.length+1) cap);show aZ _ _ _ (({D with cs:=D.cs++ [g],a3:=A',d3:=cap}:xD).cells f id v19 v20 v21 v22 v23 v24 v25);simp only[xD.cells,av,List.length_cons,List.length_nil];exact this) (oF _ _ _ aV) (fun k H=> .inl H)
 have:=pX.step m h.below h.ge;exact⟨m.sys,this.1,this.2⟩
theorem pX.more(h:pX x w wr f id n D v19 v20 v21 v22 v23 v24 v25 R)(a:Be wr w')(g:c.Good)(d:c.P x w')(b: ∀k∈c.foot,wr.heap.size<=k):pX x w w' f id n D v19 v20 v21 v22 v23 v24 v25 (R++ [c]):=by
 have s:=(h.sys.below a).add d g fun k H i=>by have:=h.sys.lt k i;have:=b k H;omega
 have e:D.L f n (D.cells f id v19 v20 v21 v22 v23 v24 v25) R++ [c]=D.L f n (D.cells f id v19 v20 v21 v22 v23 v24 v25) (R++ [c]):=by simp only[xD.L,List.cons_append,bW]
 rw[e] at s;refine⟨s,h.below.trans (a.mono h.below.size),fun k H=> ?_⟩;rw[<-e,zU,aQ] at H;rcases H with H|H
 ·exact h.ge k H
 refine aG h.below.size (b k ?_);simpa[nE] using H
theorem pX.fU(h:pX x w wr f id n D v19 v20 v21 v22 v23 v24 v25 R){i:Nat}{yL u20 u21 u22 u23 u24 u25:Value}(a:(D.cells f id v19 v20 v21 v22 v23 v24 v25).setIfInBounds i v=D.cells f id yL u20 u21 u22 u23 u24 u25):pX x w (wr.setCell ⟨D.q,i,none⟩ v) f id n D yL u20 u21 u22 u23 u24 u25 R:=by
 have s:=h.sys.turn (j:=0) (c:=mW D.q 131 (D.cells f id v19 v20 v21 v22 v23 v24 v25)) (c':=mW D.q 131 (D.cells f id yL u20 u21 u22 u23 u24 u25)) rfl ((Only.refl [D.q] wr).setCell (p:=⟨D.q,i,none⟩) (.inl bJ) v) (fun k H=> .inl H) (by show aZ _ _ _ (D.cells f id yL u20 u21 u22 u23 u24 u25);rw[<-a];exact h.blk.fU i v) (oF _ _ _ aV) (fun k H=> .inl H)
 have:=pX.step s h.below h.ge;exact⟨s.sys,this.1,this.2⟩
end
def QW(n:Nat):uo:=⟨false,[],List.replicate n none,List.replicate n none,false,none,none⟩
structure vU(f:Int)(n:Nat)(v:ql):Prop where
 now:v.now=0
 il:(v.is.length:Int)=f+1
 is: ∀i∈v.is,i.vw=0/\i.on=true/\i.ps=List.replicate 16 (QW n)
 T:v.T= []
 V:v.V.length=n
 es:v.es= []
 st:v.st=st0
 ct:v.ct=List.replicate 2 (0,0)
 ga:v.ga=List.replicate v.is.length (0,0)
 xU:v.xU.length=n*5
 Yj: ∀x∈v.xU,x.oneCell'=true
 vZ:v.vZ=List.flatten (List.replicate v.is.length [U 0,U 0,U 0,U 0,U 0,U 0,U 0,(),(),(),()])
 nN:v.nN=List.replicate v.is.length (List.replicate 17 0)
 nG:v.nG=List.replicate v.is.length (List.replicate 17 0)
 run:v.run=0
 view:v.view=0
 vk:v.vk= -1
 since:v.since=0
 start:v.start=0
 stop:v.stopped=false
 out:v.out= []
 c0:v.c0=0
 c2:v.c2=0
section
variable{x:Nat}{w:World}{L L':List ni}{c c':ni}
theorem Sys.tl(h:Sys x w (c::L)):Sys x w L:=⟨fun b H=>h.good b (cK _ H),fun b H=>h.at_ b (cK _ H),(eu.1 h.sep).2⟩
theorem Sys.as_(h:Sys x w L){j:Nat}(e:L[j]?=some c)(a:c'.P x w)(d:c'.Good)(b: ∀k∈c'.foot,k∈c.foot):Sys x w (L.set j c'):=
 (h.turn e (Only.refl [] w) (fun k H=>by simp at H) a d fun k H=> .inl (b k H)).sys
theorem LW(p:L.Perm L'):k∈nE L↔k∈nE L':=by unfold nE;simp only[bg];exact⟨fun⟨c,H,h⟩=>⟨c,p.mem_iff.1 H,h⟩,fun⟨c,H,h⟩=>⟨c,p.mem_iff.2 H,h⟩⟩
theorem Wi{t:TypeId}(h:w.ownsRow 0 t s (acX A m d) m xs)(a:0<m): ∃g,A=some ⟨g,0,none⟩/\Row w g t s m d xs:=by
 rcases rF h with⟨_,H,_⟩|⟨g,rfl⟩
 ·omega
 exact⟨g,rfl,Row.sG h⟩
theorem Wz{l:LN}(h:Xi w A d l)(a:0<l.length): ∃g,A=some ⟨g,0,none⟩/\xG w g d (l.map fun k=>(k,List.replicate 17 0)):=by
 obtain⟨g,rfl,c⟩:=Wi h.out a;refine⟨g,rfl,?_,fun p b=> ?_,?_⟩
 ·simp only[aT,gu]
  exact c
 ·obtain⟨k,H,rfl⟩:=bM.1 b
  exact h.KI k H
 simpa[gu,Function.comp_def] using h.nd
end
structure Ig where
 nH:Nat
 gv:Nat
 Iz:Nat
 V:List Vt
 gg:Nat
 gd:Nat
 SL:List Nat
 gm:Nat
 Dl:Nat
 ga:List (Int×Int)
 gp:Nat
 xU:List Value
 gb:Nat
 vZ:List Value
def Ig.R(f:Int)(r:Ig):List ni:= [Fg r.nH f 2 [] [r.nH],Gw r.gv r.Iz f r.V,Gr r.gg 8 8,ET r.SL r.gd 2 [] st0 (List.replicate 2 (0,0)),Dx r.gm r.Dl r.ga,mW r.gp 290 r.xU.toArray,mW r.gb 292 r.vZ.toArray]
def Ae(D:xD)(gr xL xK:Nat)(r:Ig):bK:=
 ⟨D.nn,D.gt,0,gr,D.d1,D.is,r.nH,[],[r.nH],r.gv,r.Iz,r.V,r.gg,r.gd,r.SL,[],st0,List.replicate 2 (0,0),r.gm,r.Dl,r.ga,r.gp,r.xU,r.gb,r.vZ,xL,D.d2,D.ps.map fun k=>(k,List.replicate 17 0),xK,D.d3,D.cs.map fun k=>(k,List.replicate 17 0),0,0,-1,0,0,false,none,0,[],0,0,0,0,0⟩
theorem pX.done   {id:Int} {D:xD} {r:Ig} {np nb:Nat} (h:pX x w wr f id n D r.nH r.gv r.gg r.gd r.gm (O r.gp np np) (O r.gb nb nb) (r.R f))
  (l:D.gs=D.is.map Prod.fst) (Q:0<D.is.length) (C:D.ps.length=D.is.length) (F:D.cs.length=D.is.length) (y:r.xU.length=np*5) (v:r.vZ.length=nb*11):
  ∃b a G,Sys x wr (sF f id n D.q (Ae D b a G r))/\ ∀k∈nE (sF f id n D.q (Ae D b a G r)),w.heap.size<=k:=by
 have u:D.gs.length=D.is.length:=by rw[l,aT]
 obtain⟨b,E,m⟩:=Wi h.o1 aR;obtain⟨a,s,z⟩:=Wz h.o2 aR;obtain⟨G,t,A⟩:=Wz h.o3 aR;refine⟨b,a,G,?_⟩;have d:D.cells f id r.nH r.gv r.gg r.gd r.gm (O r.gp np np) (O r.gb nb nb)=yB f id (Ae D b a G r):=by simp only[xD.cells,nmc,yB,Ae,E,s,t,u,C,F,y,v,aT];rw[iT np aV,iT nb aV];rfl
 have q:=h.sys;have i:=h.ge;unfold xD.L Ig.R at q i;rw[d] at q i;generalize B:sD f n 0 D.is=I at q i;have p:List.Perm (mW D.q 131 (yB f id (Ae D b a G r))::Da D.gt 0::D.zJ::Ay D.a2 D.d2 D.ps::Ay D.a3 D.d3 D.cs::mW D.gc 24 (sW f)::(I++ [Fg r.nH f 2 [] [r.nH],Gw r.gv r.Iz f r.V,Gr r.gg 8 8,ET r.SL r.gd 2 [] st0 (List.replicate 2 (0,0)),Dx r.gm r.Dl r.ga,mW r.gp 290 r.xU.toArray,mW r.gb 292 r.vZ.toArray]))
   (mW D.gc 24 (sW f)::(mW D.q 131 (yB f id (Ae D b a G r))::Da D.gt 0::D.zJ::Fg r.nH f 2 [] [r.nH]::Gw r.gv r.Iz f r.V::Gr r.gg 8 8::ET r.SL r.gd 2 [] st0 (List.replicate 2 (0,0))::Dx r.gm r.Dl r.ga::mW r.gp 290 r.xU.toArray::mW r.gb 292 r.vZ.toArray::Ay D.a2 D.d2 D.ps::Ay D.a3 D.d3 D.cs::I)):=by
  generalize mW D.q 131 (yB f id (Ae D b a G r))=a0;generalize Da D.gt 0=a1;generalize D.zJ=a2;generalize Ay D.a2 D.d2 D.ps=d0;generalize Ay D.a3 D.d3 D.cs=d1;generalize mW D.gc 24 (sW f)=g;generalize J: [Fg r.nH f 2 [] [r.nH],Gw r.gv r.Iz f r.V,Gr r.gg 8 8,ET r.SL r.gd 2 [] st0 (List.replicate 2 (0,0)),Dx r.gm r.Dl r.ga,mW r.gp 290 r.xU.toArray,mW r.gb 292 r.vZ.toArray]=R;have e: ∀Z:List ni,Fg r.nH f 2 [] [r.nH]::Gw r.gv r.Iz f r.V::Gr r.gg 8 8::ET r.SL r.gd 2 [] st0 (List.replicate 2 (0,0))::Dx r.gm r.Dl r.ga::mW r.gp 290 r.xU.toArray::mW r.gb 292 r.vZ.toArray::Z=R++Z:=fun Z=>by rw[<-J];rfl
  rw[e];have p1:([d0,d1]++(I++R)).Perm (R++([d0,d1]++I)):=by rw[<-bW];exact List.perm_append_comm
  have p2:([a0,a1,a2,d0,d1]++g::(I++R)).Perm (g::([a0,a1,a2,d0,d1]++(I++R))):=List.perm_middle;exact p2.trans (kV g (((p1.cons a2).cons a1).cons a0))
 have K:=(q.perm p).tl;have L:=K.add (c:=Cv none 0 []) (nJ.nil _ _) (EY _ _ _) (fun k H=>by simp[Cv] at H);have p3:List.Perm ((mW D.q 131 (yB f id (Ae D b a G r))::Da D.gt 0::D.zJ::Fg r.nH f 2 [] [r.nH]::Gw r.gv r.Iz f r.V::Gr r.gg 8 8::ET r.SL r.gd 2 [] st0 (List.replicate 2 (0,0))::Dx r.gm r.Dl r.ga::mW r.gp 290 r.xU.toArray::mW r.gb 292 r.vZ.toArray::Ay D.a2 D.d2 D.ps::Ay D.a3 D.d3 D.cs::I)++ [Cv none 0 []])
   (mW D.q 131 (yB f id (Ae D b a G r))::Da D.gt 0::D.zJ::Fg r.nH f 2 [] [r.nH]::Gw r.gv r.Iz f r.V::Gr r.gg 8 8::ET r.SL r.gd 2 [] st0 (List.replicate 2 (0,0))::Dx r.gm r.Dl r.ga::mW r.gp 290 r.xU.toArray::mW r.gb 292 r.vZ.toArray::Ay D.a2 D.d2 D.ps::Ay D.a3 D.d3 D.cs::Cv none 0 []::I):=by
  simp only[List.cons_append]
  repeat refine kV _ ?_
  exact jM _ _
 have M:=L.perm p3;have N:=M.as_ (j:=2) (c:=D.zJ) (c':=abR b 164 1 D.is.length D.d1 (D.is.map fun p=> .pointer (some ⟨p.1,0,none⟩))) rfl (by
  show Row _ _ _ _ _ _ _;rw[l,aT,gu] at m;exact m) (Yv _ _ _ _ _ _ aV) (fun k H=>by simp only[abR,nM,au] at H;simp only[xD.zJ,wG,nM,E,H];simp)
 have P:=N.as_ (j:=10) (c:=Ay D.a2 D.d2 D.ps) (c':=wJ a D.d2 (D.ps.map fun k=>(k,List.replicate 17 0))) rfl z (yY _ _ _) (fun k H=>by
  simp only[wJ,nM,gu,Function.comp_def,kE,ay] at H;simp only[Ay,nM,s];rcases H with rfl|H
  ·simp
  exact bH _ H)
 have S:=P.as_ (j:=11) (c:=Ay D.a3 D.d3 D.cs) (c':=wJ G D.d3 (D.cs.map fun k=>(k,List.replicate 17 0))) rfl A (yY _ _ _) (fun k H=>by
  simp only[wJ,nM,gu,Function.comp_def,kE,ay] at H;simp only[Ay,nM,t];rcases H with rfl|H
  ·simp
  exact bH _ H)
 refine⟨?_,fun k H=> ?_⟩
 ·rw[<-B] at S
  exact S
 have o:k∈nE (mW D.q 131 (yB f id (Ae D b a G r))::Da D.gt 0::D.zJ::Fg r.nH f 2 [] [r.nH]::Gw r.gv r.Iz f r.V::Gr r.gg 8 8::ET r.SL r.gd 2 [] st0 (List.replicate 2 (0,0))::Dx r.gm r.Dl r.ga::mW r.gp 290 r.xU.toArray::mW r.gb 292 r.vZ.toArray::Ay D.a2 D.d2 D.ps::Ay D.a3 D.d3 D.cs::I):=by
  rw[<-B];simp only[nE,sF,Ae,bQ,aQ] at H|-;rcases H with H|H|H|H|H|H|H|H|H|H|H|H|H|H
  ·exact .inl H
  ·exact .inr (.inl H)
  ·refine .inr (.inr (.inl ?_))
   simp only[abR,nM,au] at H;simp only[xD.zJ,wG,nM,E,H];simp
  ·exact .inr (.inr (.inr (.inl H)))
  ·exact .inr (.inr (.inr (.inr (.inl H))))
  ·exact .inr (.inr (.inr (.inr (.inr (.inl H)))))
  ·exact .inr (.inr (.inr (.inr (.inr (.inr (.inl H))))))
  ·exact .inr (.inr (.inr (.inr (.inr (.inr (.inr (.inl H)))))))
  ·exact .inr (.inr (.inr (.inr (.inr (.inr (.inr (.inr (.inl H))))))))
  ·exact .inr (.inr (.inr (.inr (.inr (.inr (.inr (.inr (.inr (.inl H)))))))))
  ·refine .inr (.inr (.inr (.inr (.inr (.inr (.inr (.inr (.inr (.inr (.inl ?_))))))))))
   simp only[wJ,nM,gu,Function.comp_def,kE,ay] at H;simp only[Ay,nM,s];rcases H with rfl|H
   ·simp
   exact bH _ H
  ·refine .inr (.inr (.inr (.inr (.inr (.inr (.inr (.inr (.inr (.inr (.inr (.inl ?_)))))))))))
   simp only[wJ,nM,gu,Function.comp_def,kE,ay] at H;simp only[Ay,nM,t];rcases H with rfl|H
   ·simp
   exact bH _ H
  ·simp[Cv] at H
  exact .inr (.inr (.inr (.inr (.inr (.inr (.inr (.inr (.inr (.inr (.inr (.inr H)))))))))))
 refine i k ((LW p).2 ?_);simp only[nE,bQ,aQ] at o|-;exact .inr o
theorem XZ   {D:xD} {gr xL xK:Nat} {r:Ig} (k:(D.is.length:Int)=f+1) (c:D.ps.length=D.is.length) (d:D.cs.length=D.is.length) (j: ∀p∈D.is,p.2.vw=0/\p.2.on=true/\p.2.ps.map qm.val=List.replicate 16 (QW n)) (e:r.V.length=n) (a:r.ga=List.replicate D.is.length (0,0)) (b:r.xU.length=n*5) (H: ∀x∈r.xU,x.oneCell'=true)
  (g:r.vZ=List.flatten (List.replicate D.is.length [U 0,U 0,U 0,U 0,U 0,U 0,U 0,(),(),(),()])):vU f n (Ae D gr xL xK r).val:=by
 have I:(Ae D gr xL xK r).val.is.length=D.is.length:=by simp[bK.val,Ae]
 refine⟨rfl,by rw[I];exact k,fun i h=> ?_,rfl,e,rfl,rfl,rfl,by rw[I];exact a,b,H,by rw[I];exact g,?_,?_,rfl,rfl,rfl,rfl,rfl,rfl,rfl,rfl,rfl⟩
 ·obtain⟨p,b,rfl⟩:=bM.1 h
  exact j p b
 ·rw[I,<-c]
  simp[bK.val,Ae,gu,Function.comp_def,kH]
 rw[I,<-d];simp[bK.val,Ae,gu,Function.comp_def,kH]
theorem ahq:madeCells #[U 0] (17*1)=z17:=by refine Array.toList_inj.1 ?_;rw[fP,toList_madeCells_one];simp[z17,ints]
theorem aey(g n gp gc:Nat):(Yi g (sl0 n gp gc)).val=QW n:=by simp[Yi,sl0,qm.val,QW,rC.val];exact .inr rfl
theorem Ue:(prog.info? 290).map (fun i=>(i.zero,i.size,i.bytes))=some (some (acY #[U 0,U 0,(),(),U 0]),5,72):=by kernel_rfl
theorem QB:(prog.info? 292).map (fun i=>(i.zero,i.size,i.bytes))=some (some (acY #[U 0,U 0,U 0,U 0,U 0,U 0,U 0,(),(),(),()]),11,152):=by kernel_rfl
theorem Dh{α:Type}(z:List α)(hz:0<z.length): ∀(k i:Nat),((List.replicate k z).flatten)[i]?=if i<k*z.length then z[i%z.length]? else none
 |0,i=>by simp
 |k+1,i=>by
  rw[List.replicate_succ,List.flatten_cons,List.getElem?_append,gY];split
  ·rename_i h
   rw[if_pos aR,dJ h]
  rename_i h;rw[Dh z hz k (i -z.length),Nat.mod_eq_sub_mod (by omega:i≥z.length)];by_cases h':i<k*z.length+z.length
  ·rw[if_pos h',if_pos aR]
  rw[if_neg h',if_neg aR]
theorem Mw(z:LV)(a:0<z.length)(k:Nat):(madeCells z.toArray (k*z.length)).toList=(List.replicate k z).flatten:=by
 refine dD fun i=> ?_;rw[Dh z a k i,Array.getElem?_toList];by_cases h:i<k*z.length
 ·rw[if_pos h]
  have H:i%z.length<z.length:=ji _ a;simp only[madeCells,Array.getElem?_map,Array.getElem?_range,h,if_true,Option.map_some,gZ];rw[getElem!_pos z.toArray (i%z.length) (mR H),aj H];simp
 rw[if_neg h,gK (by rw[size_madeCells];omega)]
theorem NK{α:Type}{z:List α}{v:α}(h:v∈(List.replicate k z).flatten):v∈z:=by obtain⟨l,a,H⟩:=List.mem_flatten.1 h;rw[dO a] at H;exact H
theorem Di{α:Type}(z:List α)(k:Nat):((List.replicate k z).flatten).length=k*z.length:=by simp
abbrev z5:List Value:= [U 0,U 0,(),(),U 0]
abbrev z11:List Value:= [U 0,U 0,U 0,U 0,U 0,U 0,U 0,(),(),(),()]
theorem akZ(n:Nat):madeCells #[U 0,U 0,(),(),U 0] (n*5)=((List.replicate n z5).flatten).toArray:=by rw[<-Mw z5 aV n,Array.toArray_toList];rfl
theorem ahp(n:Nat):madeCells #[U 0,U 0,U 0,U 0,U 0,U 0,U 0,(),(),(),()] (n*11)=((List.replicate n z11).flatten).toArray:=by rw[<-Mw z11 aV n,Array.toArray_toList];rfl
structure Zv(x:Nat)(w wr:World)(f id:Int)(n nn gc q k:Nat)(D:xD):Prop where
 at_:pX x w wr f id n D (.pointer none) (.pointer none) (.pointer none) (.pointer none) (.pointer none) () () []
 gs:D.gs=D.is.map Prod.fst
 l1:D.is.length=k
 l2:D.ps.length=k
 l3:D.cs.length=k
 nn:D.nn=nn
 gc:D.gc=gc
 q:D.q=q
 ini: ∀p∈D.is,p.2.vw=0/\p.2.on=true/\p.2.ps.map qm.val=List.replicate 16 (QW n)
theorem ahx(x:Nat)(f:Int)(h1:1<=f)(h4:f<=4)(n:Nat)(hn:(n:Int)=3*f+1)(id:Nat)(m2:id<n)(nn:Nat)(w:World):
  Y 45 #[.agg (sW f),U id,nn] w fun e w'=> ∃q d,e= .returned (.tuple #[(q:Nat),U 0])/\Sys x w' (sF f id n q d)/\(∀k∈nE (sF f id n q d),w.heap.size<=k)/\d.nn=nn/\vU f n d.val/\Be w w':=by
 obtain⟨ip,o2,q2,r2,t2⟩:=info_parts IY;obtain⟨ir,v0,w0,x0,o1⟩:=info_parts FE;obtain⟨ii,n2,e2,f2,g2⟩:=info_parts Bh;have n1:=fun W=>run_make (P:=prog) W 35 3 ii _ underlying35 n2 e2 .i64 .i64 17 17 aR aR (by rw[g2];omega) aR;rw[f2] at n1;simp only[show Int.toNat 17=17 from rfl,Value.cells,ahq] at n1;have i1:(0:Int)<=id:=aR;have i2: ¬(id:Int)<0:=aR;have i3: ¬3*f+1<=(id:Int):=aR;have HN:=jj hn;clear hn m2;go_enter func45,ntmps45;go_upto_region 1 with fail;obtain⟨w1,y0⟩:=ex (w.alloc (.cells (sW f) 24));obtain⟨b,H0⟩:=ex w.heap.size;rw[<-y0,<-H0];have K1:=xNew y0 H0;have B1:=tQ y0;have GC:=F9 (w.heap.size<=b) aR;clear y0 H0;obtain⟨S,c1,c2,c3,c4,c5,c6,c7,K,c9,x1,y1,z1,A1,C1⟩:=sZ K1;go_wp2_with fail;refine(qM.Hr _ _ _ _ _ _ _ _ _ _ _ _ _ _ _ _).mono ?_;rintro e w2 ⟨rfl,j0⟩;rw[NG.xu f 64 h1 h4 aV];have K2:=jj (K1.below j0 K1.lt);have B2:=nO B1 j0;clear j0 S c1 c2 c3 c4 c5 c6 c7 K c9 x1 y1 z1 A1 C1;have S:=K2.at_ 0;go_wp2_with fail;refine(oC f _ aR aR).mono ?_;rintro e z2 ⟨rfl,rfl⟩;go_upto_region 3 with fail;clear S;have b0:=F9 (∀u,Be w2 u->uR u b f) fun u hu=>sZ (K2.below hu K2.lt);have KS:=b0.out w2.drew ((aC _ _).drew);unfold uR at KS;refine um (fun u=>J u b 0 (U f)/\J u b 1 (U 2)/\J u b 2 (U 2)/\J u b 3 (U 4)/\J u b 4 (U 64)/\J u b 5 (U 8)/\J u b 6 (U 8)/\J u b 7 (U 8)/\
  J u b 8 (U 1)/\J u b 9 (U 2)/\J u b 10 (U 12)/\J u b 11 (U 8)/\J u b 12 (U 6)/\J u b 13 (U 2)/\J u b 14 (U 6)) 7 (tk 0 3 (.one 3 (.take 4 (.one 5 (.take 6 .done))))) (by kernel_rfl) (by kernel_rfl) (by kernel_rfl) KS ?_
 intro j;obtain⟨w3,T0⟩:=ex w2.drew;have B3:=bDr T0;rw[<-T0] at j|-;clear T0
 repeat refine' tT ?_
 refine pO fun KT bq=> ?_;go_simp;refine(aad w3).mono ?_;rintro e w4 ⟨rfl,e0,k1⟩;have B4:=nO B3 k1;obtain⟨gt,J0⟩:=ex w3.heap.size;rw[<-J0] at e0|-;have U0:=jj e0;have GT:=F9 (w2.heap.size<=gt) (by rw[J0];exact B3.size);clear e0 k1 J0;have S4:=b0.out _ B4;unfold uR at S4;refine oH bq S4 ?_;clear j;have j:=S4
 repeat refine' tT ?_
 refine pO fun KT bq=> ?_;go_simp;obtain⟨w5,z0⟩:=ex (w4.alloc (.cells (nmc f id nn gt () (.pointer none) (.pointer none) (.pointer none) (.pointer none) (.pointer none) () () () ()) 131));obtain⟨q,hq⟩:=ex w4.heap.size;have f0:=z0;simp only[nmc] at f0;rw[<-f0,<-hq];have X5:=xNew z0 hq;have GQ:=F9 (w2.heap.size<=q) (by rw[hq];exact B4.size);have L5:=tQ z0;have a0:=F9 (vT w5 gt 0) (aZ.below U0 L5 (aZ.lt U0));have B5:=F9 (Be w2 w5) (B4.trans (L5.mono B4.size));clear z0 f0 hq;have S5:=b0.out _ B5.out;unfold uR at S5;refine oH bq S5 ?_;clear j;have j:=S5
 repeat refine' tT ?_
 refine aU ?_;clear j;have ML:=F9 (Zv x w w5 f id n nn b q 0 ⟨b,q,nn,gt,[],none,0,[],none,0,[],none,0,[]⟩) (by have k2:=K2.below B5.out K2.lt;have nq:q≠gt:=X5.nY a0 aV;have nc:b≠q:=k2.nY X5 aV;have nt:b≠gt:=k2.nY a0 aV;have s0:=Sys.nil x w5;have s1:=s0.add (c:=mW q 131 (nmc f id nn gt () (.pointer none) (.pointer none) (.pointer none) (.pointer none) (.pointer none) () () () ())) X5 (oF _ _ _ aV) (fun k h=>by simp[nE]);have s2:=s1.add (c:=Da gt 0) a0 (Lp _ _) (fun k h hm=>by simp[nE,Da,mW,nM] at h hm;omega);have s3:=s2.add (c:=(⟨b,q,nn,gt,[],none,0,[],none,0,[],none,0,[]⟩:xD).zJ) ⟨rfl,.inl ⟨rfl,rfl⟩⟩ (uJ _ _ _ _ _ _ aV) (fun k h hm=>by simp[xD.zJ,wG,nM] at h);have s4:=s3.add (c:=Ay none 0 []) ⟨⟨rfl,.inl ⟨rfl,rfl⟩⟩,fun g R=>by simp at R,List.nodup_nil⟩ (Ea _ _ _) (fun k h hm=>by simp[Ay,nM] at h);have s5:=s4.add (c:=Ay none 0 []) ⟨⟨rfl,.inl ⟨rfl,rfl⟩⟩,fun g R=>by simp at R,List.nodup_nil⟩ (Ea _ _ _) (fun k h hm=>by simp[Ay,nM] at h);have s6:=s5.add (c:=mW b 24 (sW f)) k2 (oF _ _ _ aV) (fun k h hm=>by simp[nE,Da,mW,nM,xD.zJ,wG,Ay] at h hm;omega);refine⟨⟨s6,B2.trans (B5.out.mono B2.size),fun k h=> ?_⟩,rfl,rfl,rfl,rfl,rfl,rfl,rfl,fun p hp=>by simp at hp⟩;have hs:=B2.size;have:=GC.out;have:=GT.out;have:=GQ.out;simp[nE,xD.L,Da,mW,nM,xD.zJ,wG,Ay,sD] at h;omega)
 go_wp2_with fail;go_loopw [9] (fun z wr=> ∃k:Nat,(k:Int)<=f+1/\z= U k/\ ∃D,Zv x w wr f id n nn b q k D) (fun z _=>(f+1).toNat -(intOf z).toNat)
 case atStart=>exact⟨0,aR,by first|rfl|simp,_,ML⟩
 case round=>
  obtain⟨k,h,rfl,D,hL⟩:=hrel;have y:=jj hL;clear hL;have S:J wr b 0 (U f):=by have:=y.at_.cfg.cell 0;rw[y.gc] at this;exact this
  have c3:J wr b 3 (U 4):=by have:=y.at_.cfg.cell 3;rw[y.gc] at this;exact this
  by_cases p2:(k:Int)<=f
  ·have j1:(0:Int)<=k:=aR
   go_wp2_with fail;refine(ahe _ f k 4 h1 h4 ⟨j1,p2⟩ ⟨aV,aV⟩ n HN x).mono ?_;rintro e w5 ⟨gi,rfl,i,hi,l0,m0,n0,o0,p0⟩;have A5:=jj (y.at_.inst p0 (by rw[y.l1];exact hi) o0);have IV:=F9 (i.vw=0/\i.on=true/\i.ps.map qm.val=List.replicate 16 (QW n)) ⟨l0,m0,by
    have e:i.ps.map qm.val=i.ps.map fun _=>QW n:=dX fun p hp=>by obtain⟨g,gp,S1,rfl⟩:=n0 p hp;exact aey g n gp S1
    rw[e,kH,hi.len]⟩
   clear hi l0 m0 n0 o0 p0 S c3;have D1:J w5 q 18 (.slice D.a1 k D.d1):=by have:=A5.blk.cell 18;rw[show({D with is:=D.is++ [(gi,i)]}:xD).q=q from y.q] at this;rw[this,show k=D.gs.length by rw[y.gs,aT,y.l1]];rfl
   have GL:=F9 (D.gs.length=k) (by rw[y.gs,aT,y.l1]);have O5:=jj A5.p1;rw[show({D with is:=D.is++ [(gi,i)]}:xD).gs=D.gs from rfl,GL.out] at O5;have SZ:=jj A5.below.size;have Q:=F9 (D.q=q) y.q
   go_wp2_with(at_builtin;refine fD rfl (.tmp 51) (.tmp 53) _ rfl w.heap.size 164 ip _ 1 8 underlying122 o2 q2 r2 t2 rfl aR D.a1 k D.d1 (D.gs.map fun g=> .pointer (some ⟨g,0,none⟩)) rfl (dM O5 _) (some ⟨w5.heap.size,0,none⟩) 1 1 [gi] rfl (qC _ _ _) (by simp[Value.oneCell']) (by unfold maxLen;omega) aR (by have:=SZ.out;simp;omega) ?_;intro a8 K w8 h8;have A6:=A5.keep ((aC _ _).alloc (aF _) (.cells #[gi] 164));have Q8:=A6.q8 A6.p1 aV (by rw[<-GL.out] at h8;exact h8);rw[show({D with is:=D.is++ [(gi,i)]}:xD).q=q from Q.out] at Q8;have d8:J w8 q 18 (.slice D.a1 D.gs.length D.d1):=Q8.cell 18;have f8:=Q8.frozen 18;have P8:=jj (A6.app1 (g:=gi) (cap:=K) (A':=a8) (by rw[<-GL.out] at h8;exact h8));rw[show({D with is:=D.is++ [(gi,i)]}:xD).q=q from Q.out,show({D with is:=D.is++ [(gi,i)]}:xD).gs=D.gs from rfl,GL.out] at P8;clear A6 Q8 h8)
   obtain⟨v9,s⟩:=ex (w8.setCell ⟨q,18,none⟩ (.slice a8 (k+1) K));rw[<-s] at P8|-;obtain⟨m,g0⟩: ∃E,E=({D with is:=D.is++ [(gi,i)],gs:=D.gs++ [gi],a1:=a8,d1:=K}:xD):=⟨_,rfl⟩;have A9:=F9 (pX x w v9 f id n m (.pointer none) (.pointer none) (.pointer none) (.pointer none) (.pointer none) () () []) (by have p:=P8.out;rw[<-Q.out] at p;rw[g0];exact p)
   have Q9:=F9 (m.q=q) (by rw[g0];exact Q.out);have L9:=F9 (m.ps.length=k) (by rw[g0];exact y.l2);have M9:=F9 (m.cs.length=k) (by rw[g0];exact y.l3);have i0:=jj g0;clear s g0 d8 f8 D1;go_upto_region 9 with fail;have KS: ∀w',Be v9 w'->J w' q 26 (.slice m.a2 k m.d2):=fun w' o=>by have:=(A9.keep o).blk.cell 26;rw[Q9.out] at this;rw[this,<-L9.out];rfl
   refine rP (fun w'=>J w' q 26 (.slice m.a2 k m.d2)) 10 (tk 0 5 (.one 5 (.one 6 (.one 7 (.one 8 (.take 9 (.one 10 .done))))))) (KS _ (aC _ _).drew) ?_;intro j;have B0:Be v9 v9.drew:=(aC _ _).drew;obtain⟨u0,q0⟩:=ex v9.drew;rw[<-q0] at j B0|-;clear q0
   repeat refine' tT ?_
   refine pO fun KT bq=> ?_;go_simp;obtain⟨u5,B⟩:=ex (u0.alloc (.cells z17 3));obtain⟨F,A⟩:=ex u0.heap.size;rw[<-B,<-A];have X5:=xNew B A;have B5:Be v9 u5:=by rw[B];exact B0.alloc B0.size _
   have G5:=F9 (v9.heap.size<=F) (by rw[A];exact B0.size);clear B A;refine oH bq (KS _ B5) ?_;refine pO fun KT bq=> ?_;refine wK (by rfl) 129 1 _ (by rfl) #[(0,.slice (some ⟨F,0,none⟩) 17 17)] (by go_simp) _ (yj 129 35 ir _ underlying129 v0 w0 x0 (O F 17 17) rfl _) ?_;have B6:=B5.alloc B5.size (.cells #[O F 17 17] 35);have X6:=F9 (aZ (u5.alloc (.cells #[O F 17 17] 35)) F 3 z17) (X5.alloc _);refine oH bq (KS _ B6) ?_;refine pO fun KT bq=> ?_;have O9:=jj ((A9.keep B6).p2);rw[L9.out] at O9;refine oo (by rfl) _ _ _ (by rfl) w.heap.size 35 ir _ 1 24 underlying129 v0 w0 x0 o1 rfl aR m.a2 k m.d2 (m.ps.map fun g=>Value.slice (some ⟨g,0,none⟩) 17 17) (by rfl) O9 (some ⟨u5.heap.size,0,none⟩) 1 1 [O F 17 17] (by rfl) (qC _ _ _) (by simp[Value.oneCell']) (by unfold maxLen;omega) aR (VZ A9.below.size B6.size) ?_;intro e8 K u8 h8;have Q8:=jj ((A9.keep B6).q8 O9 aV h8);rw[Q9.out] at Q8;have S8:J u8 q 26 (.slice m.a2 k m.d2):=by rw[Q8.out.cell 26,<-L9.out];rfl
   have f8:=Q8.out.frozen 26;refine oH bq S8 ?_;refine pO fun KT bq=> ?_;go_simp;refine oH bq S8 ?_
   repeat refine' tT ?_
   refine pL fun KT bq=> ?_;go_simp;refine oL bq ?_;refine aU ?_;clear j f8;have I:=jj (A9.an2 B6 X6 G5 (A':=e8) (cap:=K) (by rw[L9.out];exact h8));obtain⟨V,s⟩:=ex (u8.setCell ⟨q,26,none⟩ (.slice e8 (k+1) K));rw[<-s];rw[show u8.setCell ⟨m.q,26,none⟩ (.slice e8 (m.ps.length+1) K)=V by rw[s,Q9.out,L9.out]] at I;obtain⟨a,M⟩: ∃E,E=({m with ps:=m.ps++ [F],a2:=e8,d2:=K}:xD):=⟨_,rfl⟩;rw[<-M] at I;have H:=jj M;clear s h8 M;have E0:=F9 (a.q=q) (by rw[H.out];exact Q9.out);have Z:=F9 (a.cs.length=k) (by rw[H.out];exact M9.out);go_upto_region 10 with fail;have KS: ∀w',Be V w'->J w' q 27 (.slice a.a3 k a.d3):=fun w' o=>by have:=(I.keep o).blk.cell 27;rw[E0.out] at this;rw[this,<-Z.out];rfl
   refine rP (fun w'=>J w' q 27 (.slice a.a3 k a.d3)) 10 (tk 0 5 (.one 5 (.one 6 (.one 7 (.one 8 (.take 9 (.one 10 .done))))))) (KS _ (aC _ _).drew) ?_;intro j;have B0:Be V V.drew:=(aC _ _).drew;obtain⟨u0,q0⟩:=ex V.drew;rw[<-q0] at j B0|-;clear q0
   repeat refine' tT ?_
   refine pO fun KT bq=> ?_;go_simp;obtain⟨u5,B⟩:=ex (u0.alloc (.cells z17 3));obtain⟨F,A⟩:=ex u0.heap.size;rw[<-B,<-A];have X5:=xNew B A;have B5:Be V u5:=by rw[B];exact B0.alloc B0.size _
   have G5:=F9 (V.heap.size<=F) (by rw[A];exact B0.size);clear B A;refine oH bq (KS _ B5) ?_;refine pO fun KT bq=> ?_;refine wK (by rfl) 129 1 _ (by rfl) #[(0,.slice (some ⟨F,0,none⟩) 17 17)] (by go_simp) _ (yj 129 35 ir _ underlying129 v0 w0 x0 (O F 17 17) rfl _) ?_;have B6:=B5.alloc B5.size (.cells #[O F 17 17] 35);have X6:=F9 (aZ (u5.alloc (.cells #[O F 17 17] 35)) F 3 z17) (X5.alloc _);refine oH bq (KS _ B6) ?_;refine pO fun KT bq=> ?_;have D0:=jj ((I.keep B6).p3);rw[Z.out] at D0;refine oo (by rfl) _ _ _ (by rfl) w.heap.size 35 ir _ 1 24 underlying129 v0 w0 x0 o1 rfl aR a.a3 k a.d3 (a.cs.map fun g=>Value.slice (some ⟨g,0,none⟩) 17 17) (by rfl) D0 (some ⟨u5.heap.size,0,none⟩) 1 1 [O F 17 17] (by rfl) (qC _ _ _) (by simp[Value.oneCell']) (by unfold maxLen;omega) aR (VZ I.below.size B6.size) ?_;intro e8 K u8 h8;have Q8:=jj ((I.keep B6).q8 D0 aV h8);rw[E0.out] at Q8;have S8:J u8 q 27 (.slice a.a3 k a.d3):=by rw[Q8.out.cell 27,<-Z.out];rfl
   have f8:=Q8.out.frozen 27;refine oH bq S8 ?_;refine pO fun KT bq=> ?_;go_simp;refine oH bq S8 ?_
   repeat refine' tT ?_
   refine pL fun KT bq=> ?_;go_simp;refine oL bq ?_;refine aU ?_;clear j f8;have C0:=jj (I.an3 B6 X6 G5 (A':=e8) (cap:=K) (by rw[Z.out];exact h8));obtain⟨r1,s⟩:=ex (u8.setCell ⟨q,27,none⟩ (.slice e8 (k+1) K));rw[<-s];rw[show u8.setCell ⟨a.q,27,none⟩ (.slice e8 (a.cs.length+1) K)=r1 by rw[s,E0.out,Z.out]] at C0;obtain⟨t,M⟩: ∃E,E=({a with cs:=a.cs++ [F],a3:=e8,d3:=K}:xD):=⟨_,rfl⟩;rw[<-M] at C0;have l:=jj M;clear s h8 M;have LF:=F9 (Zv x w r1 f id n nn b q (k+1) t) (by
    have L:=y.out;have l2:t.ps.length=k+1:=by rw[l.out];show a.ps.length=_;rw[H.out];simp[L9.out]
    have l3:t.cs.length=k+1:=by rw[l.out];simp[Z.out]
    have P1:t.gs=D.gs++ [gi]:=by rw[l.out];show a.gs=_;rw[H.out];show m.gs=_;rw[i0.out]
    have F0:t.is=D.is++ [(gi,i)]:=by rw[l.out];show a.is=_;rw[H.out];show m.is=_;rw[i0.out]
    have Q1:t.nn=D.nn:=by rw[l.out];show a.nn=_;rw[H.out];show m.nn=_;rw[i0.out]
    have O1:t.gc=D.gc:=by rw[l.out];show a.gc=_;rw[H.out];show m.gc=_;rw[i0.out]
    have R1:t.q=D.q:=by rw[l.out];show a.q=_;rw[H.out];show m.q=_;rw[i0.out]
    refine⟨C0,?_,?_,l2,l3,by rw[Q1];exact L.nn,by rw[O1];exact L.gc,by rw[R1];exact L.q,fun p hp=> ?_⟩
    ·rw[P1,F0,L.gs,bR]
     rfl
    ·rw[F0]
     simp[L.l1]
    rw[F0] at hp;rcases aQ.1 hp with hp|hp
    ·exact L.ini p hp
    rw[au] at hp;subst hp;exact IV.out)
   go_wp2_with fail;go_roundw
   case rel=>exact⟨k+1,aR,by go_num,t,LF⟩
   simp[intOf];omega
  have K0:(k:Int)=f+1:=aR;have e1:IntKind.i64.wrap (f+1)=f+1:=aH _ aR;have HK:=jj K0;have k5:k<=5:=aR;have y2:n<=13:=by have:=HN.out;omega
  obtain⟨ia,h2,V1,W1,X1⟩:=info_parts Ue;obtain⟨ib,j2,Y1,Z1,j0⟩:=info_parts QB;have L0:=fun W=>run_make (P:=prog) W 127 290 ia _ underlying127 h2 V1 .i64 .i64 n n aR aR (by rw[X1];omega) aR;rw[W1] at L0;simp only[Int.toNat_natCast,Value.cells,akZ] at L0;have X:=fun W=>run_make (P:=prog) W 128 292 ib _ underlying128 j2 Y1 .i64 .i64 k k aR aR (by rw[j0];omega) aR;rw[Z1] at X;simp only[Int.toNat_natCast,Value.cells,ahp] at X;rw[K0] at X;obtain⟨C5,G0⟩:=ex (((List.replicate n z5).flatten));obtain⟨C,d0⟩:=ex (((List.replicate k z11).flatten));rw[<-G0] at L0;rw[<-d0] at X;have V0:=jj G0;have h0:=jj d0;clear G0 d0 K0 c3;have A0:=jj y.at_;have Q:=F9 (D.q=q) y.q;have GG:=F9 (D.gc=b) y.gc;have c1:J wr b 1 (U 2):=by have:=A0.cfg.cell 1;rw[GG.out] at this;exact this
  go_wp2_with fail;refine(ahS _ f 2 h1 h4 ⟨aV,aV⟩).mono ?_;rintro e u1 ⟨G,rfl,N,R,T⟩;have M1:=jj (A0.more T (Nh _ _ _ _ _) (c:=Fg G f 2 [] [G]) N (fun k h=>by simp only[Fg,nM,au] at h;rw[h];exact R))
  have E1:J u1 q 19 (.pointer none):=by have:=M1.blk.cell 19;rw[Q.out] at this;exact this
  have W0:=M1.blk.frozen 19;rw[Q.out] at W0;clear N R T S c1;go_upto_region 12 with fail;obtain⟨v1,M0⟩:=ex (u1.setCell ⟨q,19,none⟩ G);rw[<-M0];have N1:=jj (M1.fU (i:=19) (v:= .pointer (some ⟨G,0,none⟩)) (yL:= .pointer (some ⟨G,0,none⟩)) (u20:= .pointer none) (u21:= .pointer none) (u22:= .pointer none) (u23:= .pointer none) (u24:= .slice none 0 0) (u25:= .slice none 0 0) rfl);rw[show u1.setCell ⟨D.q,19,none⟩ G=v1 by rw[M0,Q.out]] at N1;clear M0 E1 W0;have S:J v1 b 0 (U f):=by have:=N1.cfg.cell 0;rw[GG.out] at this;exact this
  go_wp2_with fail;refine(aeT f n ⟨h1,h4⟩ HN.symm _).mono ?_;rintro e u2 ⟨gv,t0,rfl,N,R,k0,T⟩;have M2:=jj (N1.more T (YH _ _ _ _) (c:=Gw gv t0 f (List.replicate n (false,0,0))) N (fun k h=>by
   simp only[Gw,nM,ay,aI,or_false] at h;rcases h with rfl|rfl
   ·exact R
   exact k0))
  have F1:J u2 q 20 (.pointer none):=by have:=M2.blk.cell 20;rw[Q.out] at this;exact this
  have X0:=M2.blk.frozen 20;rw[Q.out] at X0;clear N R k0 T S;go_upto_region 13 with fail;obtain⟨v2,N0⟩:=ex (u2.setCell ⟨q,20,none⟩ gv);rw[<-N0];have N2:=jj (M2.fU (i:=20) (v:= .pointer (some ⟨gv,0,none⟩)) (yL:= .pointer (some ⟨G,0,none⟩)) (u20:= .pointer (some ⟨gv,0,none⟩)) (u21:= .pointer none) (u22:= .pointer none) (u23:= .pointer none) (u24:= .slice none 0 0) (u25:= .slice none 0 0) rfl);rw[show u2.setCell ⟨D.q,20,none⟩ gv=v2 by rw[N0,Q.out]] at N2;clear N0 F1 X0;have c5:J v2 b 5 (U 8):=by have:=N2.cfg.cell 5;rw[GG.out] at this;exact this
  have c6:J v2 b 6 (U 8):=by have:=N2.cfg.cell 6;rw[GG.out] at this;exact this
  go_wp2_with fail;obtain⟨gg,I0⟩:=ex v2.heap.size;refine(agQ _ 8 8 ⟨aV,aV⟩ ⟨aV,aV⟩).mono ?_;rintro e u3 ⟨rfl,N,T⟩;rw[<-I0] at N|-;have t1:v2.heap.size<=gg:=lC I0.symm;have M3:=jj (N2.more T (XH _ _ _) (c:=Gr gg 8 8) N (fun k h=>by simp only[Gr,mW,nM,au] at h;rw[h];exact t1))
  have G1:J u3 q 21 (.pointer none):=by have:=M3.blk.cell 21;rw[Q.out] at this;exact this
  have Y0:=M3.blk.frozen 21;rw[Q.out] at Y0;clear N T I0 c5 c6;go_upto_region 14 with fail;obtain⟨v3,O0⟩:=ex (u3.setCell ⟨q,21,none⟩ gg);rw[<-O0];have N3:=jj (M3.fU (i:=21) (v:= .pointer (some ⟨gg,0,none⟩)) (yL:= .pointer (some ⟨G,0,none⟩)) (u20:= .pointer (some ⟨gv,0,none⟩)) (u21:= .pointer (some ⟨gg,0,none⟩)) (u22:= .pointer none) (u23:= .pointer none) (u24:= .slice none 0 0) (u25:= .slice none 0 0) rfl);rw[show u3.setCell ⟨D.q,21,none⟩ gg=v3 by rw[O0,Q.out]] at N3;clear O0 G1 Y0;have c1:J v3 b 1 (U 2):=by have:=N3.cfg.cell 1;rw[GG.out] at this;exact this
  go_wp2_with fail;refine(ad4 2 aV aV _).mono ?_;rintro e u4 ⟨SL,gd,rfl,N,R,T⟩;have M4:=jj (N3.more T (Mq _ _ _ _ _ _) (c:=ET SL gd 2 [] st0 (List.replicate 2 (0,0))) N (fun k h=>R k h));have H1:J u4 q 22 (.pointer none):=by have:=M4.blk.cell 22;rw[Q.out] at this;exact this
  have Z0:=M4.blk.frozen 22;rw[Q.out] at Z0;clear N R T c1;go_upto_region 15 with fail;obtain⟨v4,P0⟩:=ex (u4.setCell ⟨q,22,none⟩ gd);rw[<-P0];have N4:=jj (M4.fU (i:=22) (v:= .pointer (some ⟨gd,0,none⟩)) (yL:= .pointer (some ⟨G,0,none⟩)) (u20:= .pointer (some ⟨gv,0,none⟩)) (u21:= .pointer (some ⟨gg,0,none⟩)) (u22:= .pointer (some ⟨gd,0,none⟩)) (u23:= .pointer none) (u24:= .slice none 0 0) (u25:= .slice none 0 0) rfl);rw[show u4.setCell ⟨D.q,22,none⟩ gd=v4 by rw[P0,Q.out]] at N4;clear P0 H1 Z0;have S:J v4 b 0 (U f):=by have:=N4.cfg.cell 0;rw[GG.out] at this;exact this
  go_wp2_with fail;refine(ad8 (f+1) k HK.symm (tL HK.out) k5 _).mono ?_;rintro e u5 ⟨gm,r0,rfl,N,R,k0,T⟩;have M5:=jj (N4.more T (Mx _ _ _) (c:=Dx gm r0 (List.replicate k (0,0))) N (fun k h=>by
   simp only[Dx,nM,ay,aI,or_false] at h;rcases h with rfl|rfl
   ·exact R
   exact k0))
  have I1:J u5 q 23 (.pointer none):=by have:=M5.blk.cell 23;rw[Q.out] at this;exact this
  have b1:=M5.blk.frozen 23;rw[Q.out] at b1;clear N R k0 T S;go_upto_region 16 with fail;obtain⟨v5,Q0⟩:=ex (u5.setCell ⟨q,23,none⟩ gm);rw[<-Q0];have N5:=jj (M5.fU (i:=23) (v:= .pointer (some ⟨gm,0,none⟩)) (yL:= .pointer (some ⟨G,0,none⟩)) (u20:= .pointer (some ⟨gv,0,none⟩)) (u21:= .pointer (some ⟨gg,0,none⟩)) (u22:= .pointer (some ⟨gd,0,none⟩)) (u23:= .pointer (some ⟨gm,0,none⟩)) (u24:= .slice none 0 0) (u25:= .slice none 0 0) rfl);rw[show u5.setCell ⟨D.q,23,none⟩ gm=v5 by rw[Q0,Q.out]] at N5;clear Q0 I1 b1;have S:J v5 b 0 (U f):=by have:=N5.cfg.cell 0;rw[GG.out] at this;exact this
  go_wp2_with fail;refine(oC f _ aR aR).mono ?_;rintro e u6 ⟨rfl,rfl⟩;rw[<-HN.out];have M6:=jj (N5.more ((aC _ _).alloc (aF _) (.cells C5.toArray 290)) (oF v5.heap.size 290 C5.toArray aV) (c:=mW v5.heap.size 290 C5.toArray) (aZ.new _ _ _) (fun k h=>by simp only[mW,nM,au] at h;rw[h];exact aF _))
  have J1:J (v5.alloc (.cells C5.toArray 290)) q 24 ():=by have:=M6.blk.cell 24;rw[Q.out] at this;exact this
  have f1:=M6.blk.frozen 24;rw[Q.out] at f1;go_upto_region 17 with fail;obtain⟨gp,m1⟩:=ex v5.heap.size;rw[<-m1] at M6|-;obtain⟨u6,p1⟩:=ex (v5.alloc (.cells C5.toArray 290));rw[<-p1] at M6|-;obtain⟨v6,R0⟩:=ex (u6.setCell ⟨q,24,none⟩ (O gp n n));rw[<-R0];have N6:=jj (M6.fU (i:=24) (v:= .slice (some ⟨gp,0,none⟩) n n) (yL:= .pointer (some ⟨G,0,none⟩)) (u20:= .pointer (some ⟨gv,0,none⟩)) (u21:= .pointer (some ⟨gg,0,none⟩)) (u22:= .pointer (some ⟨gd,0,none⟩)) (u23:= .pointer (some ⟨gm,0,none⟩)) (u24:= .slice (some ⟨gp,0,none⟩) n n) (u25:= .slice none 0 0) rfl);rw[show u6.setCell ⟨D.q,24,none⟩ (O gp n n)=v6 by rw[R0,Q.out]] at N6;clear m1 p1 R0 J1 f1 S;have S:J v6 b 0 (U f):=by have:=N6.cfg.cell 0;rw[GG.out] at this;exact this
  have M7:=jj (N6.more ((aC _ _).alloc (aF _) (.cells C.toArray 292)) (oF v6.heap.size 292 C.toArray aV) (c:=mW v6.heap.size 292 C.toArray) (aZ.new _ _ _) (fun k h=>by simp only[mW,nM,au] at h;rw[h];exact aF _))
  have L1:J (v6.alloc (.cells C.toArray 292)) q 25 ():=by have:=M7.blk.cell 25;rw[Q.out] at this;exact this
  have g1:=M7.blk.frozen 25;rw[Q.out] at g1;go_upto_region 18 with fail;obtain⟨gb,l1⟩:=ex v6.heap.size;rw[<-l1] at M7|-;obtain⟨u7,q1⟩:=ex (v6.alloc (.cells C.toArray 292));rw[<-q1] at M7|-;obtain⟨v7,S0⟩:=ex (u7.setCell ⟨q,25,none⟩ (O gb k k));rw[<-S0];have N7:=jj (M7.fU (i:=25) (v:= .slice (some ⟨gb,0,none⟩) k k) (yL:= .pointer (some ⟨G,0,none⟩)) (u20:= .pointer (some ⟨gv,0,none⟩)) (u21:= .pointer (some ⟨gg,0,none⟩)) (u22:= .pointer (some ⟨gd,0,none⟩)) (u23:= .pointer (some ⟨gm,0,none⟩)) (u24:= .slice (some ⟨gp,0,none⟩) n n) (u25:= .slice (some ⟨gb,0,none⟩) k k) rfl);rw[show u7.setCell ⟨D.q,25,none⟩ (O gb k k)=v7 by rw[S0,Q.out]] at N7;clear l1 q1 S0 L1 g1 S;go_wp2_with fail;go_ret2
  have r:Ig:=⟨G,gv,t0,List.replicate n (false,0,0),gg,gd,SL,gm,r0,List.replicate k (0,0),gp,C5,gb,C⟩;have L:=y.out;have l5:C5.length=n*5:=by rw[V0.out,Di];rfl
  have x2:C.length=k*11:=by rw[h0.out,Di];rfl
  obtain⟨gr,U1,T1,hs,b2⟩:=pX.done (r:=⟨G,gv,t0,List.replicate n (false,0,0),gg,gd,SL,gm,r0,List.replicate k (0,0),gp,C5,gb,C⟩) N7 L.gs (by rw[L.l1];have:=HK.out;omega) (L.l2.trans L.l1.symm) (L.l3.trans L.l1.symm) l5 x2;refine⟨q,Ae D gr U1 T1 ⟨G,gv,t0,List.replicate n (false,0,0),gg,gd,SL,gm,r0,List.replicate k (0,0),gp,C5,gb,C⟩,by trivial,by rw[<-Q.out];exact hs,by rw[<-Q.out];exact b2,L.nn,XZ (by rw[L.l1];exact HK.out) (L.l2.trans L.l1.symm) (L.l3.trans L.l1.symm) L.ini (fC ..) (by rw[L.l1]) l5 (fun x hx=> ?_) (by rw[L.l1];exact h0.out),N7.below⟩;replace hx:x∈C5:=hx;rw[V0.out] at hx;have hx:=NK hx;simp only[ay,aI,or_false] at hx;rcases hx with rfl|rfl|rfl|rfl|rfl<;>rfl
theorem ak3{g:Nat->Nat}{room:Int}{lost:Nat->Int}{ms:Nat->List (Value×List Int)}(h:Nt B w gn m ps q g room lost ms)(u:B<=gn)(l: ∀k,k<m*m->B<=q k/\B<=g k):
  ∃nd:uU,nd.n=m/\nd.ps=ps/\nd.lost=lost/\nd.ms=ms/\oD w gn room nd/\ ∀k∈nd.foot gn,B<=k:=by
 obtain⟨o,p,A,C,R,x,r,d,e,f⟩:=h.ex;refine⟨⟨m,ps,o,p,A,C,R,x,q,g,lost,ms⟩,rfl,rfl,rfl,rfl,⟨r,mO d (bF _),mO e (bF _),fun a b=>mO (f a b) (bF _),h.qs⟩,fun k H=> ?_⟩;have G: ∀{t s n c:Nat} {a:OA} {X:LV},w.ownsRow B t s (acX a n c) n X-> ∀k∈(a.map (·.block)).toList,B<=k:=fun v k H=>(dG v k (by rw[dQ];exact aJ.1 H)).1;simp only[uU.foot,ay,aQ,bg,fE] at H;rcases H with rfl|H|H|⟨a,b,H⟩|⟨j,i,H⟩
 ·exact u
 ·exact G d k H
 ·exact G e k H
 ·exact G (f a b) k H
 simp only[aI,or_false] at H;rcases H with rfl|rfl
 ·exact(l j i).1
 exact(l j i).2
theorem acM(f:Int)(n:Nat)(p:Option Ka): ∀(l:List (Option Ka)) (i:Nat),nW f n i (l++ [p])=nW f n i l++ [xR f n (i+l.length) p]
 | [],i=>by simp[nW]
 |q::l,i=>by have:=acM f n p l (i+1);rw[show i+1+l.length=i+(l.length+1) by omega] at this;simp[nW,this]
theorem Sys.grow{L:List ni}(h:Sys x w L)(a:Be w w')(H:c.P x w')(b:c.Good)(f: ∀k∈c.foot,w.heap.size<=k):Sys x w' (L++ [c]):=
 (h.below a).add H b fun k d e=>by have:=h.lt k e;have:=f k d;omega
def Ii(x B:Nat)(w:World)(L:List ni):Prop:=Sys x w L/\B<=w.heap.size/\ ∀k∈nE L,B<=k
theorem Ii.grow{L:List ni}(h:Ii x B w L)(a:Be w w')(d:c.P x w')(e:c.Good)(b: ∀k∈c.foot,w.heap.size<=k):Ii x B w' (L++ [c]):=
 ⟨h.1.grow a d e b,aG h.2.1 a.size,fun k H=>by
  rw[zU,aQ] at H;rcases H with H|H
  ·exact h.2.2 k H
  exact aG h.2.1 (b k (by simpa[nE] using H))⟩
theorem Ii.step{L:List ni}(h:Ii x B w L)(s:Step x w w' L L'):Ii x B w' L':=
 ⟨s.sys,aG h.2.1 s.only.size,fun k H=>(s.new k H).elim (h.2.2 k) fun e=>aG h.2.1 e⟩
theorem Ii.perm{L:List ni}(h:Ii x B w L)(p:L.Perm L'):Ii x B w L':=
 ⟨h.1.perm p,h.2.1,fun k H=>h.2.2 k ((LW p).2 H)⟩
structure pI where
 bx:Nat
 nn:Nat
 b:Nat
 gc:Nat
 gn:Nat
 nd:uU
 fa:Option Addr
 fm:Nat
 fc:Nat
 fl:List Int
 na:Option Addr
 nc:Nat
 gx:List Value
 ka:Option Addr
 kc:Nat
 kp:List Value
 nodes:List (Option Ka)
def pI.cd(f:Int)(D:pI):ClD:=⟨f,D.fa,D.fm,D.fc,D.nn,D.gn,D.na,D.gx.length,D.nc,D.ka,D.kp.length,D.kc⟩
def pI.yG(D:pI):ni:=wG 52 1 D.na D.gx.length D.nc D.gx
def pI.wO(D:pI):ni:=wG 41 1 D.ka D.kp.length D.kc D.kp
def pI.OI(D:pI):ni:=wG 3 1 D.fa D.fm D.fc (D.fl.map fun y:Int=>Value.int .i64 y)
def pI.L(f:Int)(n:Nat)(D:pI)(R:List ni):List ni:=
 mW D.bx 24 (sW f)::tZ D.nn D.b []::mW D.gc 99 (Gq (D.cd f))::xS D.gn 64 D.nd::D.yG::D.wO::D.OI::(nW f n 0 D.nodes++R)
structure pV(x:Nat)(w wr:World)(f:Int)(n:Nat)(D:pI)(R:List ni):Prop where
 sys:Sys x wr (D.L f n R)
 below:Be w wr
 ge: ∀k∈nE (D.L f n R),w.heap.size<=k
section
variable{x n:Nat}{w wr w':World}{f:Int}{D:pI}{R:List ni}
theorem pV.keep(h:pV x w wr f n D R)(H:Be wr w'):pV x w w' f n D R:=⟨h.sys.below H,h.below.trans (H.mono h.below.size),h.ge⟩
theorem pV.cfg(h:pV x w wr f n D R):aZ wr D.bx 24 (sW f):=h.sys.get (j:=0) (c:=mW D.bx 24 (sW f)) rfl
theorem pV.blk(h:pV x w wr f n D R):aZ wr D.gc 99 (Gq (D.cd f)):=h.sys.get (j:=2) (c:=mW D.gc 99 (Gq (D.cd f))) rfl
theorem pV.o4(h:pV x w wr f n D R):wr.ownsRow w.heap.size 52 1 (acX D.na D.gx.length D.nc) D.gx.length D.gx:=Ap (h.sys.get (j:=4) (c:=D.yG) rfl) fun k H=>h.ge k (pY (j:=4) (c:=D.yG) rfl H)
theorem pV.o5(h:pV x w wr f n D R):wr.ownsRow w.heap.size 41 1 (acX D.ka D.kp.length D.kc) D.kp.length D.kp:=Ap (h.sys.get (j:=5) (c:=D.wO) rfl) fun k H=>h.ge k (pY (j:=5) (c:=D.wO) rfl H)
theorem pV.q8(h:pV x w wr f n D R){t:TypeId}(c:wr.ownsRow w.heap.size t 1 (acX A m d) m xs)(e:t≠99)(H:qQ wr w' w.heap.size t 1 A A' m' cap ys):aZ w' D.gc 99 (Gq (D.cd f)):=
 h.blk.only H.only fun b=>by obtain⟨_,cs,a⟩:=dx c _ b;exact h.blk.nY a (dR e) rfl
theorem pV.node(h:pV x w wr f n D []){p:Option Ka}(b:Be wr w')(a: ∀q,p=some q->Sys x w' (sF f D.nodes.length n q.gx q.d)/\ ∀k∈nE (sF f D.nodes.length n q.gx q.d),wr.heap.size<=k):pV x w w' f n {D with nodes:=D.nodes++ [p]} []:=by
 have s:=(h.sys.below b).add (c:=xR f n D.nodes.length p) (by
  cases p with
  |none=>exact Sys.nil _ _
  |some q=>exact(a q rfl).1) (by
  cases p with
  |none=>exact BD bJ
  |some q=>exact BD (a q rfl).1.good) (fun k H d=>by
  cases p with
  |none=>simp[xR,uM,nE] at H
  |some q=>
   have:=(a q rfl).2 k H;have:=h.sys.lt k d;omega)
 have e:D.L f n []++ [xR f n D.nodes.length p]=({D with nodes:=D.nodes++ [p]}:pI).L f n []:=by simp only[pI.L,acM,aO,eG,List.cons_append];rfl
 rw[e] at s;refine⟨s,h.below.trans (b.mono h.below.size),fun k H=> ?_⟩;rw[<-e,zU,aQ] at H;rcases H with H|H
 ·exact h.ge k H
 cases p with
 |none=>simp[xR,uM,nE] at H
 |some q=>
  refine aG h.below.size ((a q rfl).2 k ?_);simpa[nE,xR,uM] using H
theorem pV.step{L:List ni}(s:Step x wr w' L L')(H:Be w wr)(h: ∀k∈nE L,w.heap.size<=k):Be w w'/\ ∀k∈nE L',w.heap.size<=k:=pX.step s H h
theorem pV.ajG(h:pV x w wr f n D R)(a:qQ wr w' w.heap.size 52 1 D.na A' (D.gx.length+1) cap (D.gx++ [v])):
  pV x w (w'.setCell ⟨D.gc,18,none⟩ (acX A' (D.gx.length+1) cap)) f n {D with gx:=D.gx++ [v],na:=A',nc:=cap} R:=by
 have s:=h.sys.turn (j:=4) (c:=D.yG) (c':=({D with gx:=D.gx++ [v],na:=A',nc:=cap}:pI).yG) rfl a.only (fun k H=> .inl H) (by show w'.ownsRow 0 _ _ _ _ _;simp only[av,List.length_cons,List.length_nil];exact mO a.own (bF _)) (uJ _ _ _ _ _ _ aV) (fun k H=>(a.at_ k (aJ.1 H)).imp (fun e=>aJ.2 e) fun e=>e)
 have b:aZ w' D.gc 99 (Gq (D.cd f)):=s.sys.get (j:=2) (c:=mW D.gc 99 (Gq (D.cd f))) rfl;have S:=s.turn (j:=2) (c:=mW D.gc 99 (Gq (D.cd f))) (c':=mW D.gc 99 (Gq (({D with gx:=D.gx++ [v],na:=A',nc:=cap}:pI).cd f))) rfl ((Only.refl [D.gc] w').setCell (p:=⟨D.gc,18,none⟩) (.inl bJ) (acX A' (D.gx.length+1) cap)) (fun k H=> .inl H) (by have:=b.fU 18 (acX A' (D.gx.length+1) cap);show aZ _ _ _ (Gq (({D with gx:=D.gx++ [v],na:=A',nc:=cap}:pI).cd f));simp only[pI.cd,av,List.length_cons,List.length_nil];exact this) (oF _ _ _ aV) (fun k H=> .inl H)
 have:=pV.step S h.below h.ge;exact⟨S.sys,this.1,this.2⟩
theorem pV.an4(h:pV x w wr f n D R)(a:qQ wr w' w.heap.size 41 1 D.ka A' (D.kp.length+1) cap (D.kp++ [v])):
  pV x w (w'.setCell ⟨D.gc,19,none⟩ (acX A' (D.kp.length+1) cap)) f n {D with kp:=D.kp++ [v],ka:=A',kc:=cap} R:=by
 have s:=h.sys.turn (j:=5) (c:=D.wO) (c':=({D with kp:=D.kp++ [v],ka:=A',kc:=cap}:pI).wO) rfl a.only (fun k H=> .inl H) (by show w'.ownsRow 0 _ _ _ _ _;simp only[av,List.length_cons,List.length_nil];exact mO a.own (bF _)) (uJ _ _ _ _ _ _ aV) (fun k H=>(a.at_ k (aJ.1 H)).imp (fun e=>aJ.2 e) fun e=>e)
 have b:aZ w' D.gc 99 (Gq (D.cd f)):=s.sys.get (j:=2) (c:=mW D.gc 99 (Gq (D.cd f))) rfl;have S:=s.turn (j:=2) (c:=mW D.gc 99 (Gq (D.cd f))) (c':=mW D.gc 99 (Gq (({D with kp:=D.kp++ [v],ka:=A',kc:=cap}:pI).cd f))) rfl ((Only.refl [D.gc] w').setCell (p:=⟨D.gc,19,none⟩) (.inl bJ) (acX A' (D.kp.length+1) cap)) (fun k H=> .inl H) (by have:=b.fU 19 (acX A' (D.kp.length+1) cap);show aZ _ _ _ (Gq (({D with kp:=D.kp++ [v],ka:=A',kc:=cap}:pI).cd f));simp only[pI.cd,av,List.length_cons,List.length_nil];exact this) (oF _ _ _ aV) (fun k H=> .inl H)
 have:=pV.step S h.below h.ge;exact⟨S.sys,this.1,this.2⟩
theorem pV.more(h:pV x w wr f n D R)(a:Be wr w')(g:c.Good)(d:c.P x w')(b: ∀k∈c.foot,wr.heap.size<=k):pV x w w' f n D (R++ [c]):=by
 have s:=(h.sys.below a).add d g fun k H i=>by have:=h.sys.lt k i;have:=b k H;omega
 have e:D.L f n R++ [c]=D.L f n (R++ [c]):=by simp only[pI.L,List.cons_append,bW]
 rw[e] at s;refine⟨s,h.below.trans (a.mono h.below.size),fun k H=> ?_⟩;rw[<-e,zU,aQ] at H;rcases H with H|H
 ·exact h.ge k H
 refine aG h.below.size (b k ?_);simpa[nE] using H
end
structure Hw(f:Int)(n:Nat)(l:LI)(X:CV):Prop where
 K:X.K= []
 len:X.nodes.length=n
 nodes: ∀i,i<n->if(i:Int)∈l then X.nodes[i]?=some none else∃v,X.nodes[i]?=some (some v)/\vU f n v
 t0:X.t0=if 100∈l then none else some 0
 ck:X.ck=⟨false,[],0,[],[],0⟩
 M: ∀k,X.M k= []
theorem pV.done    {D:pI} {g0 g1 t1:Nat} {o0:Option sI} (h:pV x w wr f n D [k0C f g0 o0,Gp f 1 g1 (Ip D.nn t1)]) (O:1<=f) (P:f<=4) (R:(n:Int)=3*f+1)
  (a:D.gx=D.nodes.map tY) (A:D.nodes.length=n) (s:D.kp= [.pointer (o0.map fun _=>(adZ g0 0)),.pointer (some (adZ g1 0))]) (J: ∀d,o0=some d-> ∃t,d=Ip D.nn t) (B:D.fm=D.fl.length) (m:D.fl.length<=4096) (o: ∀z∈D.fl,z<=100) (g:100∈D.fl↔o0=none) (G:D.nd.n=n+2) (I:D.nd.ps=pE n) (F:D.nd.ms=fun _=> []) (hx:x<wr.heap.size)
  (l: ∀i,i<n->if(i:Int)∈D.fl then D.nodes[i]?=some none else∃p,D.nodes[i]?=some (some p)/\p.d.nn=D.nn/\vU f n p.d.val):
  ∃E:qb,mJ x wr E []/\E.C.gc=D.gc/\E.C.cd.f=f/\E.C.n=n/\Hw f n D.fl (E.val [])/\E.d1.ia=none/\ ∀k∈E.nE [],w.heap.size<=k:=by
 have K:=h.sys;have q:=h.ge;unfold pI.L at K q;have y:=K.tl;have L:tZ D.nn D.b []::mW D.gc 99 (Gq (D.cd f))::xS D.gn 64 D.nd::D.yG::D.wO::D.OI::(nW f n 0 D.nodes++ [k0C f g0 o0,Gp f 1 g1 (Ip D.nn t1)])=(tZ D.nn D.b []::mW D.gc 99 (Gq (D.cd f))::xS D.gn 64 D.nd::D.yG::D.wO::D.OI::(nW f n 0 D.nodes++ [k0C f g0 o0]))++ [Gp f 1 g1 (Ip D.nn t1)]:=by simp
 rw[L] at y;obtain⟨T,U,V⟩:=y.split;have S:=T.add (c:=uM []) (Sys.nil _ _) (BD bJ) (fun k j=>by simp[uM,nE] at j);refine⟨⟨⟨n,D.gc,D.b,D.cd f,D.fl,D.nd,D.nodes,[k0C f g0 o0,uM []],D.kp⟩,g0,o0,g1,Ip D.nn t1⟩,⟨⟨?_,?_,?_⟩,?_,hx⟩,rfl,rfl,rfl,?_,rfl,?_⟩
 ·have M:(tZ D.nn D.b []::mW D.gc 99 (Gq (D.cd f))::xS D.gn 64 D.nd::D.yG::D.wO::D.OI::(nW f n 0 D.nodes++ [k0C f g0 o0]))++ [uM []]=Eu.cs ⟨n,D.gc,D.b,D.cd f,D.fl,D.nd,D.nodes,[k0C f g0 o0,uM []],D.kp⟩ []:=by unfold Eu.cs pI.yG pI.wO pI.OI;simp only[a,List.cons_append,bW,List.nil_append];simp[pI.cd,a]
  rw[M] at S;exact S
 ·exact(U.at_ (Gp f 1 g1 (Ip D.nn t1)) bJ).1
 ·intro k j H
  refine V k ?_ (by simpa[nE,Gp] using j);unfold Eu.cs at H;simp only[nE,bQ,bS,aQ,iM,eG] at H|-;simp only[pI.yG,pI.wO,pI.OI];rcases H with H|H|H|H|H|H|H|H|H
  ·exact .inl H
  ·exact .inr (.inl H)
  ·exact .inr (.inr (.inl H))
  ·exact .inr (.inr (.inr (.inl H)))
  ·exact .inr (.inr (.inr (.inr (.inl H))))
  ·exact .inr (.inr (.inr (.inr (.inr (.inl H)))))
  ·exact .inr (.inr (.inr (.inr (.inr (.inr (.inl H))))))
  ·exact .inr (.inr (.inr (.inr (.inr (.inr (.inr H))))))
  simp[uM,nE] at H
 ·refine⟨O,P,R,rfl,s,by show D.gx.length=n;rw[a,aT,A],A,by show D.kp.length=2;rw[s];rfl,B,m,fun i r=> ?_,o,g,fun i p b=> ?_,fun d Q=>by obtain⟨t,rfl⟩:=J d Q;exact⟨rfl,rfl,rfl,rfl⟩,rfl,G,I,rfl⟩
  ·have:=l i r
   show D.nodes[i]?=some none↔(i:Int)∈D.fl;split at this
   ·rename_i H
    exact⟨fun _=>H,fun _=>this⟩
   rename_i H;obtain⟨p,b,_⟩:=this;rw[b];exact⟨fun e=>(by cases e),fun e=>absurd e H⟩
  have r:i<n:=by rw[<-A];exact(ah.1 b).1
  replace b:D.nodes[i]?=some (some p):=b;have:=l i r;split at this
  ·rw[b] at this
   cases this
  obtain⟨W,u,N,_⟩:=this;rw[b] at u;injection u with e;injection e with e;rw[e];exact N
 ·refine⟨rfl,by show(D.nodes.map _).length=n;rw[aT,A],fun i r=> ?_,?_,rfl,fun k=>by show(D.nd.ms k).map _= [];rw[F];rfl⟩
  rotate_left
  ·show o0.map _=_
   by_cases H:100∈D.fl
   ·rw[if_pos H,g.1 H]
    rfl
   rw[if_neg H]
   cases o0 with
   |none=>exact absurd (g.2 rfl) H
   |some d=>
    obtain⟨t,rfl⟩:=J d rfl;rfl
  have:=l i r;show if(i:Int)∈D.fl then(D.nodes.map _)[i]?=some none else∃v,(D.nodes.map _)[i]?=some (some v)/\vU f n v;split
  ·rename_i H
   rw[if_pos H] at this;rw[aS,this];rfl
  rename_i H;rw[if_neg H] at this;obtain⟨p,b,_,C⟩:=this;exact⟨p.d.val,by rw[aS,b];rfl,C⟩
 intro k j;refine q k ?_;unfold qb.nE Eu.cs at j;simp only[nE,bQ,bS,aQ,iM,eG] at j|-;simp only[pI.yG,pI.wO,pI.OI];rcases j with(H|H|H|H|H|H|H|H|H)|H
 ·exact .inr (.inl H)
 ·exact .inr (.inr (.inl H))
 ·exact .inr (.inr (.inr (.inl H)))
 ·exact .inr (.inr (.inr (.inr (.inl (by rw[a];exact H)))))
 ·exact .inr (.inr (.inr (.inr (.inr (.inl H)))))
 ·exact .inr (.inr (.inr (.inr (.inr (.inr (.inl H))))))
 ·exact .inr (.inr (.inr (.inr (.inr (.inr (.inr (.inl H)))))))
 ·exact .inr (.inr (.inr (.inr (.inr (.inr (.inr (.inr (.inl H))))))))
 ·simp[uM,nE] at H
 exact .inr (.inr (.inr (.inr (.inr (.inr (.inr (.inr (.inr H))))))))
theorem YA: ∀w:World,(sizeOf 3).run prog w= .ok 1 w:=fun w=>by simp only[sizeOf];kernel_rfl
theorem Ud:(prog.info? 52).map (fun i=>(i.zero,i.size,i.bytes))=some (some (.pointer none),1,8):=by kernel_rfl
theorem Oh:(prog.info? 41).map (fun i=>(i.zero,i.size,i.bytes))=some (some (.pointer none),1,8):=by kernel_rfl
def Ti(f:Int)(fa:OA)(m fc nn:Nat):Array Value:=#[U f,U 2,U 2,U 4,U 64,U 8,U 8,U 8,U 1,U 2,U 12,U 8,U 6,U 2,U 6,acX fa m fc,nn,.pointer none,(),()]
structure UZ(x:Nat)(w wr:World)(f:Int)(n:Nat)(l:LI)(bx gc nn k:Nat)(D:pI):Prop where
 at_:pV x w wr f n D []
 gx:D.gx=D.nodes.map tY
 len:D.nodes.length=k
 YX:D.bx=bx
 Sm:D.gc=gc
 enn:D.nn=nn
 fl:D.fl=l
 fm:D.fm=l.length
 kp:D.kp= []
 np:D.nd.n=n+2
 ps:D.nd.ps=pE n
 ms:D.nd.ms=fun _=> []
 nd: ∀i,i<k->if(i:Int)∈l then D.nodes[i]?=some none else∃p,D.nodes[i]?=some (some p)/\p.d.nn=nn/\vU f n p.d.val
def ckO(f:Int)(nn i:Nat):Option (Nat×Nat)->ni
 |none=>uM []
 |some p=>Gp f i p.1 (Ip nn p.2)
def ckP:Option (Nat×Nat)->Value
 |none=> .pointer none
 |some p=> .pointer (some ⟨p.1,0,none⟩)
def Y8(f:Int)(nn:Nat):Nat->List (Option (Nat×Nat))->List ni
 |_,[]=> []
 |i,p::r=>ckO f nn i p::Y8 f nn (i+1) r
theorem Vv(f:Int)(nn:Nat)(p:Option (Nat×Nat)): ∀(l:List (Option (Nat×Nat))) (i:Nat),Y8 f nn i (l++ [p])=Y8 f nn i l++ [ckO f nn (i+l.length:Nat) p]
 | [],i=>by simp[Y8]
 |q::l,i=>by have:=Vv f nn p l (i+1);rw[show i+1+l.length=i+(l.length+1) by omega] at this;simp only[List.cons_append,Y8,this,List.length_cons]
structure Sw(x:Nat)(w wr:World)(f:Int)(n:Nat)(l:LI)(bx gc nn j:Nat)(D:pI)(gs:List (Option (Nat×Nat))):Prop where
 at_:pV x w wr f n D (Y8 f nn 0 gs)
 gl:gs.length=j
 kp:D.kp=gs.map ckP
 bad: ∀i,i<j->(gs[i]?=some none↔100+(i:Int)∈l)
 gx:D.gx=D.nodes.map tY
 len:D.nodes.length=n
 YX:D.bx=bx
 Sm:D.gc=gc
 enn:D.nn=nn
 fl:D.fl=l
 fm:D.fm=l.length
 np:D.nd.n=n+2
 ps:D.nd.ps=pE n
 ms:D.nd.ms=fun _=> []
 nd: ∀i,i<n->if(i:Int)∈l then D.nodes[i]?=some none else∃p,D.nodes[i]?=some (some p)/\p.d.nn=nn/\vU f n p.d.val
structure Zg(f:Int)(l:LI):Prop where
 p: ∀z∈l,(0<=z/\z<=3*f)\/z=100
 nd:l.Nodup
 few:((l.countP fun z=>decide (z<100):Nat):Int)<=f
 len:l.length<=100
theorem agJ(w:World)(f:Int)(h1:1<=f)(h4:f<=4)(n:Nat)(hn:(n:Int)=3*f+1)(A:OA)(m c:Nat)(l:LI)(hl:l.length=m)(L0:m<=c)(hr:gD w A m 1 (l.map fun y:Int=>Value.int .i64 y))(hB:Zg f l):
  Y 10 #[.agg (sW f),.slice A m c] w fun e w'=> ∃(x:Nat) (E:qb),e= .returned (.tuple #[E.C.gc,U 0])/\mJ x w' E []/\E.C.cd.f=f/\E.C.n=n/\Hw f n l (E.val [])/\(∀k∈E.nE [],w.heap.size<=k)/\Be w w'/\E.d1.ia=none:=by
 obtain⟨ii,O1,L1,M1,N1⟩:=info_parts Bh;obtain⟨ip,o1,s1,u1,v1⟩:=info_parts Ud;obtain⟨ic,n1,Z0,a1,b1⟩:=info_parts Oh;have m4:m<=100:=by have:=hB.len;omega
 obtain⟨HB,HR,HL,HN⟩:=j4 hB hr hl hn;have S1:n<=13:=aR;clear hB hr hl hn;go_enter func10,ntmps10;go_upto_region 1 with fail;obtain⟨w1,z0⟩:=ex (w.alloc (.cells (sW f) 24));obtain⟨B,K0⟩:=ex w.heap.size;rw[<-z0,<-K0];have K1:=xNew z0 K0;have B1:=tQ z0;have GB:=F9 (w.heap.size<=B) aR;clear z0 K0;have K:=F9 (∀u,Be w1 u->aZ u B 24 (sW f)) fun u hu=>K1.below hu K1.lt;obtain⟨c0,c1,c2,c3,c4,c5,c6,c7,F,c9,i0,j0,k0,l0,m0⟩:=sZ K1;go_wp2_with fail;refine(qM.Hr _ _ _ _ _ _ _ _ _ _ _ _ _ _ _ _).mono ?_;rintro e w2 ⟨rfl,W0⟩;rw[NG.xu f 64 h1 h4 aV];have B2:=jj W0;clear W0 c0 c1 c2 c3 c4 c5 c6 c7 F c9 i0 j0 k0 l0 m0
 go_upto_block 0 with fail
 obtain⟨q0,x1⟩:=ex (l.countP fun z=>decide (z<100));have S0:=jj x1;clear x1
 go_cut [6] (fun s wx=>s= U q0/\Be w1 wx)
 case first=>
  go_wp2_with fail;go_loopw [6,19] (fun s z wr=> ∃k q:Nat,k<=m/\s= U q/\q<=k/\q=((l.take k).countP fun z=>decide (z<100))/\z= U k/\Be w1 wr) (fun _ z _=>m -(intOf z).toNat)
  case atStart=>exact⟨0,0,aR,by first|rfl|simp,aR,bJ,by first|rfl|simp,B2⟩
  case round=>
   obtain⟨k,q,r,rfl,R1,z1,rfl,hb⟩:=hrel;have E0:=jj z1;clear z1;have BW:=jj hb;clear hb;by_cases N0:k<m
   ·have i1:(k:Int)<m:=aR
    have i2:(0:Int)<=k:=aR;obtain⟨b,x0,rfl,hb,a0⟩:=(HR.below (B1.trans (BW.mono B1.size))).2 aR;obtain⟨y,hy⟩: ∃y,l[k]?=some y:=⟨_,aj (by rw[HL.out];exact N0)⟩;have d0:J wr b (x0+k) (U y):=a0 k _ (by rw[aS,hy];rfl);have yp:=HB.p y (ak hy);have NI:=F9 ((false:Bool)=decide (y∈l.take k)) (by
     refine(decide_eq_false fun hm=> ?_).symm;obtain⟨j,hj⟩:=bT.1 hm;rw[iP] at hj;split at hj
     ·rename_i P1
      have h1:=(ah.1 hj);have h2:=(ah.1 hy);obtain⟨h1,e1⟩:=h1;obtain⟨h2,e2⟩:=h2;have:=eO.1 HB.nd j k h1 h2 P1;exact this (e1.trans e2.symm)
     cases hj)
    have PT:=F9 (qM.wI f 2 y=true) (qM.Fa f 2 y true (by simp;omega));have sl: ∀w:World,(Instr.slice 35 (.slice (some ⟨b,x0,none⟩) m c) none (some (U k)) none).run prog w= .ok (.slice (some ⟨b,x0,none⟩) k c) w:=ahT (P:=prog) 35 3 1 underlying35 (by kernel_rfl) YA (some ⟨b,x0,none⟩) m c k r L0;obtain⟨c0,c1,c2,c3,c4,c5,c6,c7,F,c9,i0,j0,k0,l0,m0⟩:=sZ (K.out _ BW);have HY:=jj hy;clear a0 hb hy;go_wp2_with fail;refine(qM.Wm f 2 2 4 64 8 8 8 1 2 12 8 6 2 6 y _ h1 h4 aV aV).mono ?_;rintro e w3 ⟨rfl,X0⟩;rw[PT.out];have B3:=nO BW X0;clear X0 d0 c0 c1 c2 c3 c4 c5 c6 c7 F c9 i0 j0 k0 l0 m0;go_wp2_with fail;refine(Vu _ (some ⟨b,x0,none⟩) k c (l.take k) (by have:=(HR.below (B1.trans (B3.mono B1.size))).take (k:=k) aR;rw[fP] at this;rw[List.map_take];exact this) aR y false NI).mono ?_
    rintro e w4 ⟨rfl,rfl⟩;have TK:=F9 ((l.take (k+1)).countP (fun z=>decide (z<100))=(l.take k).countP (fun z=>decide (z<100))+if y<100 then 1 else 0) (by rw[fM,HY.out,lK];simp[lT])
    have e4:IntKind.i64.wrap ((q:Int)+1)=(q:Int)+1:=aH _ aR;by_cases Q1:y<100
    ·go_wp2_with fail
     go_roundw
     case rel=>exact⟨k+1,q+1,aR,by go_num,aR,by rw[TK.out,E0.out,if_pos aR],by go_num,B3⟩
     simp[intOf];omega
    go_wp2_with fail;go_roundw
    case rel=>exact⟨k+1,q,aR,by go_num,aR,by rw[TK.out,E0.out,if_neg aR];rfl,by go_num,B3⟩
    simp[intOf];omega
   obtain rfl:k=m:=aR;go_wp2_with fail;go_meet;exact⟨by rw[S0.out,E0.out,dB (tL HL.out)],BW⟩
 case rest=>
  obtain⟨rfl,Y0⟩:=hcut;have BC:=jj Y0;clear Y0;have c0:J wc B 0 (U f):=(K.out _ BC).cell 0;have i1: ¬f<(q0:Int):=by have:=HB.few;rw[<-S0.out] at this;omega
  go_upto_region 14 with fail;clear c0;have KS:=sZ (K.out wc.drew BC.drew);unfold uR at KS;refine rP (fun u=>J u B 0 (U f)/\J u B 1 (U 2)/\J u B 2 (U 2)/\J u B 3 (U 4)/\J u B 4 (U 64)/\J u B 5 (U 8)/\J u B 6 (U 8)/\J u B 7 (U 8)/\J u B 8 (U 1)/\J u B 9 (U 2)/\J u B 10 (U 12)/\J u B 11 (U 8)/\J u B 12 (U 6)/\J u B 13 (U 2)/\J u B 14 (U 6)) 7 (.take 0 (.take 1 (.one 2 (.one 3 (.take 4 (.one 5 (.take 6 .done))))))) KS ?_;intro o;obtain⟨w3,O0⟩:=ex wc.drew;have B3:=F9 (Be w1 w3) (by rw[O0];exact BC.drew);rw[<-O0] at o|-;clear O0
  repeat refine' tT ?_
  refine pO fun KT bq=> ?_;refine oo (by rfl) _ _ _ (by rfl) w3.heap.size 3 ii _ 1 8 underlying35 O1 L1 M1 N1 rfl aR none 0 0 [] (by rfl) ⟨rfl,.inl ⟨rfl,rfl⟩⟩ A m c (l.map fun y:Int=>Value.int .i64 y) (by rfl) (HR.below (B1.trans (B3.mono B1.size))) (fun u hu=>by obtain⟨y,_,rfl⟩:=bM.1 hu;rfl) (by unfold maxLen;omega) aR (aF _) ?_;intro Z fc w4 J0;have A4:=jj J0;rw[aO,List.nil_append] at A4;have L4:=F9 (Be w3 w4) J0.only.mY;have B4:=F9 (Be w1 w4) (B3.trans (L4.mono B3.size));clear J0;rw[aO];have S4:=sZ (K.out _ B4);unfold uR at S4;refine oH bq S4 ?_;clear o;have o:=S4
  repeat refine' tT ?_
  refine pO fun KT bq=> ?_;go_simp;refine(abg w4).mono ?_;rintro e w5 ⟨N,b,rfl,U0,r1,r0,S⟩;have N5:=jj U0;have R0:=jj (dH r1 r0);have L5:=jj S;have B5:=nO B4 S;clear U0 r1 r0 S;have S5:=sZ (K.out _ B5);unfold uR at S5;refine oH bq S5 ?_;clear o;have o:=S5
  repeat refine' tT ?_
  refine pO fun KT bq=> ?_;go_simp;obtain⟨w6,A0⟩:=ex (w5.alloc (.cells (Ti f Z m fc N) 99));obtain⟨g,M0⟩:=ex w5.heap.size;have e0:=A0;simp only[Ti] at e0;rw[<-e0,<-M0];have X6:=xNew A0 M0;have GG:=F9 (w5.heap.size<=g) aR;have L6:=tQ A0;have B6:=F9 (Be w1 w6) (B5.trans (L6.mono B5.size));clear A0 e0 M0;have S6:=sZ (K.out _ B6);unfold uR at S6;refine oH bq S6 ?_;clear o;have o:=S6
  repeat refine' tT ?_
  refine aU ?_;clear o;have C1:=F9 (Ii B w.heap.size w6 ([mW B 24 (sW f)]++ [wG 3 1 Z m fc (l.map fun y:Int=>Value.int .i64 y)]++ [tZ N b []]++ [mW g 99 (Ti f Z m fc N)])) (by
   have s3:Ii B w.heap.size w3 [mW B 24 (sW f)]:=⟨(Sys.nil B w3).add (c:=mW B 24 (sW f)) (K.out _ B3) (oF _ _ _ aV) (fun k r=>by simp[nE]),aG B1.size B3.size,fun k r=>by simp[nE,mW,nM] at r;rw[r];exact GB.out⟩
   have s4:=s3.grow L4 (c:=wG 3 1 Z m fc (l.map fun y:Int=>Value.int .i64 y)) (mO A4.own (bF _)) (uJ _ _ _ _ _ _ aV) (fun k r=>(A4.at_ k (aJ.1 r)).elim (fun e=>by simp at e) fun e=>e);have s5:=s4.grow L5 (c:=tZ N b []) N5 (EX _ _ _) (fun k r=>by
    simp only[tZ,nM,ay,aI,or_false] at r;rcases r with rfl|rfl
    ·exact R0.1
    exact R0.2)
   exact s5.grow L6 (c:=mW g 99 (Ti f Z m fc N)) X6 (oF _ _ _ aV) (fun k r=>by simp only[mW,nM,au] at r;rw[r];exact GG.out))
  obtain⟨c0,c1,c2,c3,c4,c5,c6,c7,F,c9,i0,j0,k0,l0,m0⟩:=S6;go_wp2_with fail;refine(NG.ahw f 64 h1 h4 n HN (n+2) rfl aV _).mono ?_;rintro e w7 ⟨gn,qq,gg,rfl,V0,n0,m1,y1⟩;obtain⟨nd,d1,f1,H1,j1,k1,l1⟩:=ak3 V0 m1 y1;have ND:=jj (dH d1 (dH f1 j1));have T0:=jj (C1.grow n0 (c:=xS gn 64 nd) k1 (ME _ _ _) l1);have B7:=nO B6 n0;have X7:=F9 (aZ w7 g 99 (Ti f Z m fc N)) (X6.below n0 X6.lt);have L7:=jj n0;clear V0 n0 m1 y1 d1 f1 H1 j1 k1 l1 c0 c1 c2 c3 c4 c5 c6 c7 F c9 i0 j0 k0 l0 m0;have D1:=X7.at_ 17;have E1:=X7.frozen 17;go_upto_region 16 with fail;clear D1 E1;obtain⟨w8,P0⟩:=ex (w7.setCell ⟨g,17,none⟩ gn);rw[<-P0];obtain⟨T,H⟩: ∃D:pI,D=⟨B,N,b,g,gn,nd,Z,m,fc,l,none,0,[],none,0,[],[]⟩:=⟨_,rfl⟩;have ML:=F9 (UZ B w w8 f n l B g N 0 T) (by
   have t8:=T0.1.turn (j:=3) (c:=mW g 99 (Ti f Z m fc N)) (c':=mW g 99 (Gq (T.cd f))) rfl ((Only.refl [g] w7).setCell (p:=⟨g,17,none⟩) (.inl bJ) gn) (fun k r=> .inl r) (by show aZ _ _ _ _;have:=X7.fU 17 gn;rw[H];exact this) (oF _ _ _ aV) (fun k r=> .inl r)
   rw[<-P0] at t8;have g8:=T0.step t8;have s9:=(g8.grow (aC _ _) (c:=T.yG) (by rw[H];exact⟨rfl,.inl ⟨rfl,rfl⟩⟩) (uJ _ _ _ _ _ _ aV) (fun k r=>by rw[H] at r;simp[pI.yG,wG,nM] at r)).grow (aC _ _) (c:=T.wO) (by rw[H];exact⟨rfl,.inl ⟨rfl,rfl⟩⟩) (uJ _ _ _ _ _ _ aV) (fun k r=>by rw[H] at r;simp[pI.wO,wG,nM] at r);have eL:T.L f n []= [mW B 24 (sW f),tZ N b [],mW g 99 (Gq (T.cd f)),xS gn 64 nd,T.yG,T.wO,wG 3 1 Z m fc (l.map fun y:Int=>Value.int .i64 y)]:=by rw[H];rfl
   have p:List.Perm (([mW B 24 (sW f)]++ [wG 3 1 Z m fc (l.map fun y:Int=>Value.int .i64 y)]++ [tZ N b []]++ [mW g 99 (Ti f Z m fc N)]++ [xS gn 64 nd]).set 3 (mW g 99 (Gq (T.cd f)))++ [T.yG]++ [T.wO]) (T.L f n []):=by rw[eL];refine kV _ ?_;exact(jM (wG 3 1 Z m fc (l.map fun y:Int=>Value.int .i64 y)) [tZ N b [],mW g 99 (Gq (T.cd f)),xS gn 64 nd,T.yG,T.wO]).symm
   have b8:Be w w8:=by have:=B1.trans (B7.mono B1.size);rw[P0];exact this.setCell (p:=⟨g,17,none⟩) (by have:=GG.out;have:=B1.size;have:=B5.size;show w.heap.size<=g;omega) _
   refine⟨⟨(s9.perm p).1,b8,(s9.perm p).2.2⟩,by rw[H];rfl,by rw[H];rfl,by rw[H],by rw[H],by rw[H],by rw[H],by rw[H];exact HL.symm,by rw[H],by rw[H];exact ND.1,by rw[H];exact ND.2.1,by rw[H];exact ND.2.2,fun i hi=>absurd hi aR⟩)
  go_wp2_with fail;go_loopw [10] (fun z wr=> ∃k:Nat,k<=n/\z= U k/\ ∃D,UZ B w wr f n l B g N k D) (fun z _=>n -(intOf z).toNat)
  case atStart=>exact⟨0,aR,by first|rfl|simp,T,ML⟩
  case round=>
   obtain⟨k,r,rfl,D,hL⟩:=hrel;have a:=jj hL;clear hL;have c0:J wr B 0 (U f):=by have:=a.at_.cfg.cell 0;rw[a.YX] at this;exact this
   go_wp2_with fail;refine(oC f _ aR aR).mono ?_;rintro e w9 ⟨rfl,rfl⟩;rw[<-HN.out];clear c0;by_cases N0:k<n
   ·have i1:(k:Int)<n:=aR
    obtain⟨tb,w0⟩:=ex (decide ((k:Int)∈l));have W:=jj w0;clear w0;go_wp2_with fail;refine(Vu _ A m c l (HR.below a.at_.below) aR k tb W).mono ?_;rintro e w9 ⟨rfl,rfl⟩;cases tb
    ·have u0: ¬(k:Int)∈l:=of_decide_eq_false W.symm
     have B0:=jj u0;clear u0;go_upto_region 21 with fail;have KS:=sZ (by have:=a.at_.cfg.drew;rw[a.YX] at this;exact this:aZ wr.drew B 24 (sW f));unfold uR at KS;have KN:=F9 (∀u,Be wr u->J u g 16 N) fun u hu=>by have:=(a.at_.keep hu).blk.cell 16;rw[a.Sm] at this;rw[this,<-a.enn];rfl
     have KG:=F9 (∀u,Be wr u->aZ u B 24 (sW f)) fun u hu=>by have:=(a.at_.keep hu).cfg;rw[a.YX] at this;exact this
     have F0:=dH (KN.out wr.drew (aC _ _).drew) KS;refine rD (fun u=>J u g 16 N/\J u B 0 (U f)/\J u B 1 (U 2)/\J u B 2 (U 2)/\J u B 3 (U 4)/\J u B 4 (U 64)/\J u B 5 (U 8)/\J u B 6 (U 8)/\J u B 7 (U 8)/\J u B 8 (U 1)/\J u B 9 (U 2)/\J u B 10 (U 12)/\J u B 11 (U 8)/\J u B 12 (U 6)/\J u B 13 (U 2)/\J u B 14 (U 6)) 11 (tk 0 6 (.one 6 (tk 7 4 .done))) F0 fun Q0 f0 o=> ?_
     repeat refine' tT ?_
     refine pO fun KT bq=> ?_;go_simp;refine(ahx B f h1 h4 n HN k aR N Q0).mono ?_;rintro e y0 ⟨q,d,rfl,A1,s0,v0,t0,S⟩;have V:=nO f0 S;obtain⟨P,hP⟩: ∃P:Option Ka,P=some ⟨q,d⟩:=⟨_,rfl⟩;have M:=jj (a.at_.node (p:=P) V (fun q' X=>by rw[hP] at X;injection X with X;subst X;rw[a.len];exact⟨A1,fun k r=>aG f0.size (s0 k r)⟩))
     have C0:if(k:Int)∈l then [P][0]?=some none else∃p,[P][0]?=some (some p)/\p.d.nn=N/\vU f n p.d.val:=by rw[if_neg B0.out,hP];exact⟨⟨q,d⟩,rfl,v0,t0⟩
     clear A1 s0 v0 t0 S;have S5:=dH (KN.out _ V) (sZ (KG.out _ V));unfold uR at S5;refine oH bq S5 ?_;clear o;have o:=S5
     repeat refine' tT ?_
     refine aU ?_;clear o;have G:=F9 (D.gx.length=k) (by rw[a.gx,aT,a.len]);have G0:J y0 g 18 (.slice D.na k D.nc):=by have:=M.blk.cell 18;rw[show({D with nodes:=D.nodes++ [P]}:pI).gc=g from a.Sm] at this;rw[this,<-G.out];rfl
     have O5:=jj M.o4;rw[show({D with nodes:=D.nodes++ [P]}:pI).gx=D.gx from rfl,G.out] at O5;have SZ:=jj M.below.size;have QQ:=F9 (({D with nodes:=D.nodes++ [P]}:pI).gc=g) a.Sm
     go_wp2_with(at_builtin;refine fD rfl (.tmp 83) (.tmp 85) _ rfl w.heap.size 52 ip _ 1 8 underlying96 o1 s1 u1 v1 rfl aR D.na k D.nc D.gx rfl (dM O5 _) (some ⟨y0.heap.size,0,none⟩) 1 1 [q] rfl (qC _ _ _) (by simp[Value.oneCell']) (by unfold maxLen;omega) aR (by have:=SZ.out;simp;omega) ?_;intro R F w8 I;have O:=M.keep ((aC _ _).alloc (aF _) (.cells #[q] 52));have Q:=O.q8 O.o4 aV (by rw[<-G.out] at I;exact I);rw[QQ.out] at Q;have d8:J w8 g 18 (.slice D.na D.gx.length D.nc):=Q.cell 18;have f8:=Q.frozen 18;have P8:=jj (O.ajG (v:= .pointer (some ⟨q,0,none⟩)) (cap:=F) (A':=R) (by rw[<-G.out] at I;exact I));clear O Q I)
     obtain⟨v9,C⟩:=ex (w8.setCell ⟨g,18,none⟩ (.slice R (k+1) F));rw[<-C];have P9:=P8.out;rw[show w8.setCell ⟨({D with nodes:=D.nodes++ [P]}:pI).gc,18,none⟩ (.slice R (({D with nodes:=D.nodes++ [P]}:pI).gx.length+1) F)=v9 by rw[C,QQ.out,show({D with nodes:=D.nodes++ [P]}:pI).gx=D.gx from rfl,G.out]] at P9;have LF:=F9 (UZ B w v9 f n l B g N (k+1) {D with nodes:=D.nodes++ [P],gx:=D.gx++ [.pointer (some ⟨q,0,none⟩)],na:=R,nc:=F}) (by
      have L:=a.out;refine⟨P9,?_,?_,L.YX,L.Sm,L.enn,L.fl,L.fm,L.kp,L.np,L.ps,L.ms,fun i hi=> ?_⟩
      ·show D.gx++ [.pointer (some ⟨q,0,none⟩)]=(D.nodes++ [P]).map tY
       rw[L.gx,bR,hP];rfl
      ·show(D.nodes++ [P]).length=k+1
       rw[av,L.len];rfl
      show if(i:Int)∈l then(D.nodes++ [P])[i]?=some none else∃p,(D.nodes++ [P])[i]?=some (some p)/\p.d.nn=N/\vU f n p.d.val;by_cases e:i=k
      ·subst e
       rw[bN (by rw[L.len];exact aF _),L.len,fJ];exact C0
      have:=L.nd i aR;rw[bC (by rw[L.len];omega)];exact this)
     clear C d8 f8 G0;go_wp2_with fail;go_roundw
     case rel=>exact⟨k+1,aR,by go_num,_,LF⟩
     simp[intOf];omega
    have hm:(k:Int)∈l:=of_decide_eq_true W.symm;have HM:=jj hm;clear hm;obtain⟨P,hP⟩: ∃P:Option Ka,P=none:=⟨_,rfl⟩;have M:=jj (a.at_.node (p:=P) (aC _ _) (fun q' X=>by rw[hP] at X;cases X))
    have C0:if(k:Int)∈l then [P][0]?=some none else∃p,[P][0]?=some (some p)/\p.d.nn=N/\vU f n p.d.val:=by rw[if_pos HM.out,hP];rfl
    have G:=F9 (D.gx.length=k) (by rw[a.gx,aT,a.len]);have G0:J wr g 18 (.slice D.na k D.nc):=by have:=M.blk.cell 18;rw[show({D with nodes:=D.nodes++ [P]}:pI).gc=g from a.Sm] at this;rw[this,<-G.out];rfl
    have O5:=jj M.o4;rw[show({D with nodes:=D.nodes++ [P]}:pI).gx=D.gx from rfl,G.out] at O5;have SZ:=jj M.below.size;have QQ:=F9 (({D with nodes:=D.nodes++ [P]}:pI).gc=g) a.Sm
    go_wp2_with(at_builtin;refine fD rfl (.tmp 83) (.tmp 85) _ rfl w.heap.size 52 ip _ 1 8 underlying96 o1 s1 u1 v1 rfl aR D.na k D.nc D.gx rfl (dM O5 _) (some ⟨wr.heap.size,0,none⟩) 1 1 [.pointer none] rfl (qC _ _ _) (by simp[Value.oneCell']) (by unfold maxLen;omega) aR (by have:=SZ.out;simp;omega) ?_;intro R F w8 I;have O:=M.keep ((aC _ _).alloc (aF _) (.cells #[.pointer none] 52));have Q:=O.q8 O.o4 aV (by rw[<-G.out] at I;exact I);rw[QQ.out] at Q;have d8:J w8 g 18 (.slice D.na D.gx.length D.nc):=Q.cell 18;have f8:=Q.frozen 18;have P8:=jj (O.ajG (v:= .pointer none) (cap:=F) (A':=R) (by rw[<-G.out] at I;exact I));clear O Q I)
    obtain⟨v9,C⟩:=ex (w8.setCell ⟨g,18,none⟩ (.slice R (k+1) F));rw[<-C];have P9:=P8.out;rw[show w8.setCell ⟨({D with nodes:=D.nodes++ [P]}:pI).gc,18,none⟩ (.slice R (({D with nodes:=D.nodes++ [P]}:pI).gx.length+1) F)=v9 by rw[C,QQ.out,show({D with nodes:=D.nodes++ [P]}:pI).gx=D.gx from rfl,G.out]] at P9;have LF:=F9 (UZ B w v9 f n l B g N (k+1) {D with nodes:=D.nodes++ [P],gx:=D.gx++ [.pointer none],na:=R,nc:=F}) (by
     have L:=a.out;refine⟨P9,?_,?_,L.YX,L.Sm,L.enn,L.fl,L.fm,L.kp,L.np,L.ps,L.ms,fun i hi=> ?_⟩
     ·show D.gx++ [.pointer none]=(D.nodes++ [P]).map tY
      rw[L.gx,bR,hP];rfl
     ·show(D.nodes++ [P]).length=k+1
      rw[av,L.len];rfl
     show if(i:Int)∈l then(D.nodes++ [P])[i]?=some none else∃p,(D.nodes++ [P])[i]?=some (some p)/\p.d.nn=N/\vU f n p.d.val;by_cases e:i=k
     ·subst e
      rw[bN (by rw[L.len];exact aF _),L.len,fJ];exact C0
     have:=L.nd i aR;rw[bC (by rw[L.len];omega)];exact this)
    clear C d8 f8 G0;go_wp2_with fail;go_roundw
    case rel=>exact⟨k+1,aR,by go_num,_,LF⟩
    simp[intOf];omega
   obtain rfl:k=n:=aR;have KL:=F9 (Sw B w wr f k l B g N 0 D []) (by have L:=a.out;exact⟨L.at_,rfl,L.kp,fun i hi=>absurd hi aR,L.gx,L.len,L.YX,L.Sm,L.enn,L.fl,L.fm,L.np,L.ps,L.ms,L.nd⟩)
   go_wp2_with fail;go_loopw [12] (fun z wr=> ∃j:Nat,j<=2/\z= U j/\ ∃D gs,Sw B w wr f k l B g N j D gs) (fun z _=>2 -(intOf z).toNat)
   case atStart=>exact⟨0,aR,by first|rfl|simp,D,[],KL⟩
   case round=>
    obtain⟨j,hj,rfl,D,gs,hL⟩:=hrel;have a:=jj hL;clear hL;have c1:J wr B 1 (U 2):=by have:=a.at_.cfg.cell 1;rw[a.YX] at this;exact this
    by_cases N0:j<2
    ·have i1:(j:Int)<2:=aR
     have e1:IntKind.i64.wrap (100+(j:Int))=100+j:=aH _ aR;obtain⟨tb,w0⟩:=ex (decide (100+(j:Int)∈l));have W:=jj w0;clear w0;go_wp2_with fail;refine(Vu _ A m c l (HR.below a.at_.below) aR (100+j) tb W).mono ?_;rintro e w9 ⟨rfl,rfl⟩;clear c1;cases tb
     ·have u0: ¬100+(j:Int)∈l:=fun h=>by have:=W.out;rw[decide_eq_true h] at this;cases this
      have B0:=jj u0;clear u0;go_upto_region 28 with fail;have KS:=sZ (by have:=a.at_.cfg.drew;rw[a.YX] at this;exact this:aZ wr.drew B 24 (sW f));unfold uR at KS;have KN:=F9 (∀u,Be wr u->J u g 16 N) fun u hu=>by have:=(a.at_.keep hu).blk.cell 16;rw[a.Sm] at this;rw[this,<-a.enn];rfl
      have KG:=F9 (∀u,Be wr u->aZ u B 24 (sW f)) fun u hu=>by have:=(a.at_.keep hu).cfg;rw[a.YX] at this;exact this
      have F0:=dH (KN.out wr.drew (aC _ _).drew) KS;refine rD (fun u=>J u g 16 N/\J u B 0 (U f)/\J u B 1 (U 2)/\J u B 2 (U 2)/\J u B 3 (U 4)/\J u B 4 (U 64)/\J u B 5 (U 8)/\J u B 6 (U 8)/\J u B 7 (U 8)/\J u B 8 (U 1)/\J u B 9 (U 2)/\J u B 10 (U 12)/\J u B 11 (U 8)/\J u B 12 (U 6)/\J u B 13 (U 2)/\J u B 14 (U 6)) 11 (tk 0 6 (.one 6 (tk 7 4 .done))) F0 fun Q0 f0 o=> ?_
      repeat refine' tT ?_
      refine pO fun KT bq=> ?_;go_simp;refine(ahl B f h1 h4 j aR N Q0).mono ?_;rintro e y0 ⟨q,t,rfl,q1,I1,J1,S⟩;have V:=nO f0 S;have M:=jj (a.at_.more V (c:=Gp f j q (Ip N t)) (Qd _ _ _ _) ⟨q1,rfl⟩ (fun k r=>by simp[Gp,sI.foot,Ip] at r;have:=f0.size;rcases r with rfl|rfl<;>omega))
      have eA:Y8 f N 0 gs++ [Gp f j q (Ip N t)]=Y8 f N 0 (gs++ [some (q,t)]):=by rw[Vv,aO,a.gl];rfl
      rw[eA] at M;clear q1 I1 J1 S eA;have S5:=dH (KN.out _ V) (sZ (KG.out _ V));unfold uR at S5;refine oH bq S5 ?_;clear o;have o:=S5
      repeat refine' tT ?_
      refine aU ?_;clear o;have G:=F9 (D.kp.length=j) (by rw[a.kp,aT,a.gl]);have H0:J y0 g 19 (.slice D.ka j D.kc):=by have:=M.blk.cell 19;rw[a.Sm] at this;rw[this,<-G.out];rfl
      have O5:=jj M.o5;rw[G.out] at O5;have SZ:=jj M.below.size;have QQ:=F9 (D.gc=g) a.Sm
      go_wp2_with(at_builtin;refine fD rfl (.tmp 114) (.tmp 116) _ rfl w.heap.size 41 ic _ 1 8 underlying97 n1 Z0 a1 b1 rfl aR D.ka j D.kc D.kp rfl (dM O5 _) (some ⟨y0.heap.size,0,none⟩) 1 1 [q] rfl (qC _ _ _) (by simp[Value.oneCell']) (by unfold maxLen;omega) aR (by have:=SZ.out;simp;omega) ?_;intro R F w8 I;have O:=M.keep ((aC _ _).alloc (aF _) (.cells #[q] 41));have Q:=O.q8 O.o5 aV (by rw[<-G.out] at I;exact I);rw[QQ.out] at Q;have d8:J w8 g 19 (.slice D.ka D.kp.length D.kc):=Q.cell 19;have f8:=Q.frozen 19;have P8:=jj (O.an4 (v:= .pointer (some ⟨q,0,none⟩)) (cap:=F) (A':=R) (by rw[<-G.out] at I;exact I));clear O Q I)
      obtain⟨v9,C⟩:=ex (w8.setCell ⟨g,19,none⟩ (.slice R (j+1) F));rw[<-C];have P9:=P8.out;rw[show w8.setCell ⟨D.gc,19,none⟩ (.slice R (D.kp.length+1) F)=v9 by rw[C,QQ.out,G.out]] at P9;have LF:=F9 (Sw B w v9 f k l B g N (j+1) {D with kp:=D.kp++ [.pointer (some ⟨q,0,none⟩)],ka:=R,kc:=F} (gs++ [some (q,t)])) (by
       have L:=a.out;refine⟨P9,by rw[av,L.gl];rfl,by rw[bR,<-L.kp];rfl,fun i hi=> ?_,L.gx,L.len,L.YX,L.Sm,L.enn,L.fl,L.fm,L.np,L.ps,L.ms,L.nd⟩;by_cases e:i=j
       ·subst e
        rw[bN (by rw[L.gl];exact aF _),L.gl,fJ];exact⟨fun h=>(by simp at h),fun h=>absurd h B0⟩
       rw[bC (by rw[L.gl];omega)];exact L.bad i aR)
      clear C d8 f8 H0;go_wp2_with fail;go_roundw
      case rel=>exact⟨j+1,aR,by go_num,_,_,LF⟩
      simp[intOf];omega
     have hm:100+(j:Int)∈l:=of_decide_eq_true W.symm;have HM:=jj hm;clear hm;have M:=jj (a.at_.more (aC _ _) (c:=uM []) (BD bJ) (Sys.nil _ _) (fun k r=>by simp[uM,nE] at r));have eA:Y8 f N 0 gs++ [uM []]=Y8 f N 0 (gs++ [none]):=by rw[Vv];rfl
     rw[eA] at M;clear eA;have G:=F9 (D.kp.length=j) (by rw[a.kp,aT,a.gl]);have H0:J wr g 19 (.slice D.ka j D.kc):=by have:=M.blk.cell 19;rw[a.Sm] at this;rw[this,<-G.out];rfl
     have O5:=jj M.o5;rw[G.out] at O5;have SZ:=jj M.below.size;have QQ:=F9 (D.gc=g) a.Sm
     go_wp2_with(at_builtin;refine fD rfl (.tmp 114) (.tmp 116) _ rfl w.heap.size 41 ic _ 1 8 underlying97 n1 Z0 a1 b1 rfl aR D.ka j D.kc D.kp rfl (dM O5 _) (some ⟨wr.heap.size,0,none⟩) 1 1 [.pointer none] rfl (qC _ _ _) (by simp[Value.oneCell']) (by unfold maxLen;omega) aR (by have:=SZ.out;simp;omega) ?_;intro R F w8 I;have O:=M.keep ((aC _ _).alloc (aF _) (.cells #[.pointer none] 41));have Q:=O.q8 O.o5 aV (by rw[<-G.out] at I;exact I);rw[QQ.out] at Q;have d8:J w8 g 19 (.slice D.ka D.kp.length D.kc):=Q.cell 19;have f8:=Q.frozen 19;have P8:=jj (O.an4 (v:= .pointer none) (cap:=F) (A':=R) (by rw[<-G.out] at I;exact I));clear O Q I)
     obtain⟨v9,C⟩:=ex (w8.setCell ⟨g,19,none⟩ (.slice R (j+1) F));rw[<-C];have P9:=P8.out;rw[show w8.setCell ⟨D.gc,19,none⟩ (.slice R (D.kp.length+1) F)=v9 by rw[C,QQ.out,G.out]] at P9;have LF:=F9 (Sw B w v9 f k l B g N (j+1) {D with kp:=D.kp++ [.pointer none],ka:=R,kc:=F} (gs++ [none])) (by
      have L:=a.out;refine⟨P9,by rw[av,L.gl];rfl,by rw[bR,<-L.kp];rfl,fun i hi=> ?_,L.gx,L.len,L.YX,L.Sm,L.enn,L.fl,L.fm,L.np,L.ps,L.ms,L.nd⟩;by_cases e:i=j
      ·subst e
       rw[bN (by rw[L.gl];exact aF _),L.gl,fJ];exact⟨fun _=>HM.out,fun _=>rfl⟩
      rw[bC (by rw[L.gl];omega)];exact L.bad i aR)
     clear C d8 f8 H0;go_wp2_with fail;go_roundw
     case rel=>exact⟨j+1,aR,by go_num,_,_,LF⟩
     simp[intOf];omega
    obtain rfl:j=2:=aR;go_wp2_with fail;go_ret2
    have L:=a.out;obtain⟨p0,p1,rfl⟩: ∃p q,gs= [p,q]:=by
     match gs,L.gl with
     | [p,q],_=>exact⟨p,q,rfl⟩
    obtain⟨⟨g1,t1⟩,rfl⟩: ∃q,p1=some q:=by
     cases p1 with
     |none=>have:=HB.p _ ((L.bad 1 aR).1 rfl);omega
     |some q=>exact⟨q,rfl⟩
    have b0:=L.bad 0 aR;obtain⟨g0,o0,h0,F1,I0,G1⟩: ∃(g0:Nat) (o0:Option sI),ckO f N 0 p0=k0C f g0 o0/\ckP p0= .pointer (o0.map fun _=>⟨g0,0,none⟩)/\(∀d,o0=some d-> ∃t,d=Ip N t)/\((100:Int)∈l↔o0=none):=by
     cases p0 with
     |none=>exact⟨0,none,rfl,rfl,fun d hd=>(by cases hd),⟨fun _=>rfl,fun _=>b0.1 rfl⟩⟩
     |some q=>exact⟨q.1,some (Ip N q.2),rfl,rfl,fun d hd=>⟨q.2,(dh hd).symm⟩,⟨fun h=>(by have:=b0.2 h;simp at this),fun h=>(by cases h)⟩⟩
    have A9:pV B w wr f k D [k0C f g0 o0,Gp f 1 g1 (Ip D.nn t1)]:=by rw[L.enn,<-h0];exact L.at_
    have xl:B<wr.heap.size:=by have:=L.at_.cfg.lt;rw[L.YX] at this;exact this
    obtain⟨E,hE,e1,e2,e3,e4,e6,e5⟩:=A9.done h1 h4 HN L.gx L.len (by rw[L.kp,<-F1];rfl) (by rw[L.enn];exact I0) (by rw[L.fm,L.fl]) (by rw[L.fl];have:=HB.len;omega) (by rw[L.fl];intro z hz;have:=HB.p z hz;omega) (by rw[L.fl];exact G1) L.np L.ps L.ms xl (by rw[L.fl,L.enn];exact L.nd);refine⟨B,E,by rw[e1,L.Sm];first|rfl|trivial,hE,e2,e3,by rw[<-L.fl];exact e4,e5,L.at_.below,e6⟩
def Nl(w:World)(f:Int)(n gc:Nat)(X:CV)(F:LN):Prop:= ∃x D,mJ x w D X.K/\D.val X.K=X/\D.C.cd.f=f/\D.C.n=n/\D.C.gc=gc/\D.nE X.K=F
def Fro(w:World)(F F':LN):Prop:= ∀k∈F',k∈F\/w.heap.size<=k
section
variable{w w':World}{f:Int}{n gc:Nat}{X X':CV}{F S:LN}
theorem Nl.lt(h:Nl w f n gc X F): ∀k∈F,k<w.heap.size:=by obtain⟨x,D,H,a,b,c,d,rfl⟩:=h;exact H.lt
theorem mJ.only{D:qb}{K:KS}(h:mJ x w D K)(a:Only S w w')(b: ∀g∈S,nV x w g)(d:Nr w S)(c: ∀k∈D.nE K,k∉S):mJ x w' D K:=
 ⟨⟨h.BJ.sys.only a b d fun k H=>c k (bL _ H),h.BJ.ck.only a b fun k H=>c k (bH _ H),h.BJ.far⟩,h.fx,aB h.xlt a.size⟩
theorem Nl.only(h:Nl w f n gc X F)(r:Only S w w')(e: ∀g∈S,∃t cs,aZ w g t cs/\t∉KH/\t≠228)(q: ∀k∈F,k∉S):Nl w' f n gc X F:=by
 obtain⟨x,D,i,j,l,m,o,b⟩:=h;refine⟨x,D,i.only r (fun g a=> ?_) (fun g a cs p=> ?_) (by rw[b];exact q),j,l,m,o,b⟩
 ·obtain⟨t,cs,H,c,d⟩:=e g a
  exact nV.of H c
 obtain⟨t,C,H,c,d⟩:=e g a;exact d (sN H p).symm
theorem Nl.below(h:Nl w f n gc X F)(H:Be w w'):Nl w' f n gc X F:=h.only (Only.of_below (S:= []) H) bJ bJ
theorem aac(w:World)(f:Int)(a:1<=f)(H:f<=4)(n:Nat)(q:(n:Int)=3*f+1)(A:OA)(m c:Nat)(l:LI)(p:l.length=m)(h:m<=c)(r:gD w A m 1 (l.map fun y:Int=>Value.int .i64 y))(j:Zg f l):
  Y 10 #[acY (sW f),acX A m c] w fun e w'=> ∃gc X F,e=acK (ac2 #[(gc:Nat),U 0])/\Nl w' f n gc X F/\Hw f n l X/\(∀k∈F,w.heap.size<=k)/\Be w w':=
 (agJ w f a H n q A m c l p h r j).mono fun e w' ⟨x,E,o,a,b,d,H,g,i,_⟩=>by have s:=H.K;exact⟨E.C.gc,E.val [],E.nE [],o,⟨x,E,a,rfl,b,d,rfl,rfl⟩,H,g,i⟩
theorem zS(h:Nl w f n gc X F)(i:zP f n X X')(m:Int)(g:1950<=m/\m<=1000000):
  Y 13 #[gc,U m] w fun e w'=> ∃z a,e=acK (U z)/\Nl w' f n gc X' a/\Only F w w'/\Fro w F a:=by
 obtain⟨x,D,H,b,rfl,rfl,rfl,rfl⟩:=h;exact(ZY x w D X.K H X' (by rw[b];exact i) m g).mono fun e w' ⟨⟨z,c⟩,d,A,a2,a3⟩=>
  ⟨z,d.nE X'.K,c,⟨x,d,A,a3,by rw[a2.same.f],a2.same.n,a2.same.gc,rfl⟩,a2.only,a2.new⟩
theorem Qe(h:Nl w f n gc X F)(kd ky vl:Int)(g:Zp n kd ky vl X X'):
  Y 11 #[gc,U 1,acY #[U kd,U ky,U vl]] w fun e w'=> ∃a,e=acK (U 0)/\Nl w' f n gc X' a/\Only F w w'/\Fro w F a:=by
 obtain⟨x,D,H,b,rfl,rfl,rfl,rfl⟩:=h;exact(ZX H kd ky vl X' (by rw[b];exact g)).mono fun e w' ⟨c,i,d,A,a2,a3⟩=>
  ⟨d.nE X'.K,c,⟨i,d,A,a3,by rw[a2.same.f],a2.same.n,a2.same.gc,rfl⟩,a2.only,a2.new⟩
theorem ads(h:Nl w f n gc X F)(i:Nat)(v:ql)(d:X.nodes[i]?=some (some v))(a:Vf v):
  Y 18 #[gc,U i] w fun e w'=> ∃q,e=acK (ac2 #[(q:Nat),true])/\(∃c S g,aZ w' q 131 c/\c[22]?=some (.pointer (some (adZ g 0)))/\Er w' S g 2 v.es v.st v.ct)/\Be w w':=by obtain⟨x,D,H,b,rfl,rfl,rfl,rfl⟩:=h;exact adl H i v (by rw[b];exact d) a
theorem Lm(h:Nl w f n gc X F)(b:X.ck.il.length<=4096/\X.ck.al.length<=4096/\X.ck.el.length<=4096):
  Y 14 #[gc,U 1] w fun e w'=> ∃q,e=acK (ac2 #[(q:Nat),true])/\(∃cs i I ea ec,aZ w' q 120 cs/\cs[19]?=some (acX i X.ck.il.length I)/\gD w' i X.ck.il.length 6 (X.ck.il.flatMap rA)/\cs[22]?=some (acX ea X.ck.el.length ec)/\gD w' ea X.ck.el.length 7 (X.ck.el.flatMap EO))/\Be w w':=by obtain⟨x,D,a,H,rfl,rfl,rfl,rfl⟩:=h;have:=Xt a (by rw[H];exact b);rw[H] at this;exact this
end
structure FgV(X:CV)(n i:Nat)(kd:Int)(r0 r1 r2 r3 r4:Int)(X':CV):Prop where
 ex: ∃q z m q2 k bs,q=(100+r0,gM (r0,r1,r2,r3,r4,-1))/\Ns q/\num (sealed X.K q) q=z/\m=Ms.mk kd 0 0 0 1 0 [(r0,r1,r2,r3,r4,z)] [] []/\Ev m/\(dF m).length<=65000/\q2=((0:Int),dF m)/\bs=mD (num (sealed (sealed X.K q) q2) q2).toNat++dF m/\bs.length<=65536/\
  XT (pE n) 0 i=some k/\(X.M k).length<64/\X'={X with K:=sealed (sealed X.K q) q2,M:=ru X.M k (X.M k++ [bs])}
 K:X.K.length+2<1048576
 ok:xH (r0,r1,r2,r3,r4,0)
 h0:0<=r0/\r0<2
 h9:kd≠9
section
variable{x:Nat}{w:World}{D:qb}{K:KS}
theorem ah3(h:mJ x w D K)(i:Nat)(p1:qM.wI D.C.cd.f 2 0=true)(p2:qM.wI D.C.cd.f 2 i=true)(x0:(0:Int)≠i)(kd T r1 r2 r3 r4:Int)(b:CV)(hv:FgV (D.val K) D.C.n i kd T r1 r2 r3 r4 b)(hs:(0:Int)∈D.C.fl)(hp:100+T∈D.C.fl)(A:OA)(c:Nat)(s:qc w A 1 c [(T,r1,r2,r3,r4,-1)]):
  Y 33 #[D.C.gc,acY #[U kd,U 0,U 0,U 0,U 1,U 0,acX A 1 c,(),(),()],U i] w fun e w'=>e=acK (U 0)/\ ∃d,d.d1=D.d1/\mJ x w' d b.K/\pW w w' D K d b.K/\d.val b.K=b:=by
 obtain⟨⟨q,z,m,q2,k,bs,hq,o0,hz,hm,R,N,L,f0,u0,I,i0,hX⟩,hK,ok,h0,h9⟩:=hv;obtain⟨H,HX,HB,HS⟩:=j4 h hX h.blk hs;have HR:=F9 (gD w D.C.cd.fa D.C.cd.fm 1 (D.C.fl.map fun y:Int=>Value.int .i64 y)) (fH h.OI);have FM:=F9 (D.C.cd.fm<=4096) (VZ h.fx.fm h.fx.few);have F:=F9 (∀u,Be w u->Y 65 #[D.C.gc,acY #[U kd,U 0,U 0,U 0,U 1,U 0,acX A 1 c,(),(),()]] u fun e w'=> ∃g c' a2 C,e=acK (acY #[U kd,U 0,U 0,U 0,U 1,U 0,O g 1 c',acX a2 0 C,(),()])/\C<=maxLen/\Row w' g 49 6 1 c' (rA (T,r1,r2,r3,r4,z))/\u.heap.size<=g/\vC w' D.C.cd.nn D.C.b (sealed K q)/\Only [D.C.b] u w') fun u hu=>by have P:=h.below hu;exact ajw u D.C.gc D.C.cd P.blk D.C.fl (fH P.OI) FM h.fx.kl D.C.b K P.Pt (by have:K.length+2<1048576:=hK;omega) kd h9 A c T r1 r2 r3 r4 (s.below hu) h0.1 h0.2 hp ok q hq o0 z hz
 have b0:=F9 (∀(u:World) (d:qb) (p:KS) (a:OA) (l c:Nat),mJ x u d p->d.C=D.C->d.val p={D.val K with K:=p}->gD u a l 1 (mZ bs)->l=bs.length->Y 66 #[D.C.gc,U 0,U i,acX a l c] u fun e w'=>e=acK (U 0)/\ ∃n,n.d1=d.d1/\mJ x w' n p/\pW u w' d p n p/\n.val p={D.val K with K:=p,M:=ru (D.val K).M k ((D.val K).M k++ [bs])}) fun u d p a l c hc hC t hr hl=>by have e:=agc hc 0 i (by rw[hC];exact hs) (by rw[hC];exact p1) (by rw[hC];exact p2) x0 k (by rw[hC];exact I) bs a l c hr aR (by rw[t];exact i0);rw[t,hC] at e;exact e
 obtain⟨Z,G⟩:=ex D.C.gc;obtain⟨Q,r⟩:=ex D.C.cd.nn;rw[<-G] at HB F b0|-;rw[<-r] at F;have q0:=F9 (J w Z 16 Q) (by rw[r];exact HB.cell 16);have a0:=F9 (∀(u:World) (g c':Nat) (a2:OA) (C:Nat),C<=maxLen->vC u Q D.C.b (sealed K q)->Row u g 49 6 1 c' (rA (T,r1,r2,r3,r4,z))->Y 64 #[acY #[U kd,U 0,U 0,U 0,U 1,U 0,O g 1 c',acX a2 0 C,(),()],Q] u fun e w'=> ∃V c' l,e=acK (ac2 #[acX V l c',true])/\l=bs.length/\gD w' V l 1 (mZ bs)/\vC w' Q D.C.b b.K/\Only [D.C.b] u w') fun u g c' a2 C E hn hr=>by
  have hlen:(sealed K q).length<1048576:=by
   have:K.length+2<1048576:=hK;unfold sealed;split
   ·omega
   simp only[av,List.length_singleton];omega
  have e:=UG u Q D.C.b (sealed K q) hn ⟨kd,0,0,0,1,0,some (adZ g 0),1,c',[(T,r1,r2,r3,r4,z)],a2,0,C,[],none,0,0,[],none,0⟩ ⟨⟨fH hr,rfl,hr.EI,hr.Vr⟩,⟨gD.nil _ _ _,rfl,bF _,E⟩,⟨gD.nil _ _ _,rfl,bF _,bF _,bJ⟩⟩ (by rw[hm] at R;exact R) (by rw[hm] at N;exact N) hlen;refine e.mono ?_;rintro e w' ⟨V,c',l,rfl,h1,h2,h3,h4⟩;have eb:mD (num (sealed (sealed K q) q2) q2).toNat++dF m=bs:=f0.symm;rw[L,hm] at eb;refine⟨V,c',l,rfl,by rw[<-eb];exact h1.symm,?_,?_,h4⟩
  ·rw[<-eb];exact fH h2
  rw[hX,L,hm];exact h3
 have GC:=jj G;have NN:=jj r;clear h hs p1 p2 I i0 G r hX s hp hq o0 hz hm R N L f0 u0 hK ok h0 h9;go_enter func33,ntmps33;go_upto_region 1 with fail;generalize hw1:w.alloc _=w1;generalize hg4:w.heap.size=g4;replace hw1:=hw1.symm;replace hg4:=hg4.symm;obtain⟨B1,X4⟩:=nw hw1 hg4;have GE:=F9 (w.heap.size<=g4) aR;clear hw1 hg4;have m1:=X4.at_ 1;go_wp2_with fail;refine(acI w1 Z D.C.cd (HB.below B1 HB.lt) D.C.fl (HR.below B1) FM 0 true (mR HS.out)).mono ?_;rintro e w2 ⟨rfl,rfl⟩;have SP:=F9 (∀S u,Only S w1 u->g4∉S->Z∉S->J u g4 0 (U kd)/\J u g4 1 (U 0)/\J u g4 2 (U 0)/\J u g4 3 (U 0)/\J u g4 4 (U 1)/\J u g4 5 (U 0)/\J u g4 6 (acX A 1 c)/\J u g4 7 ()/\J u g4 8 ()/\J u g4 9 ()/\J u Z 16 Q) fun S u ho h1 h2=>by have X:=X4.only ho h1;exact⟨X.cell 0,X.cell 1,X.cell 2,X.cell 3,X.cell 4,X.cell 5,X.cell 6,X.cell 7,X.cell 8,X.cell 9,ho.cell_ (kept B1 _ _ q0) h2⟩
 clear m1;go_upto_region 3 with fail;refine rD (fun u=>J u g4 0 (U kd)/\J u g4 1 (U 0)/\J u g4 2 (U 0)/\J u g4 3 (U 0)/\J u g4 4 (U 1)/\J u g4 5 (U 0)/\J u g4 6 (acX A 1 c)/\J u g4 7 ()/\J u g4 8 ()/\J u g4 9 ()/\J u Z 16 Q) 13 (.take 0 (.take 1 (tk 3 4 (.one 2 (.one 7 (tk 8 5 .done)))))) (SP.out [] _ (Only.refl _ _).drew bJ bJ) fun u7 Bu B=> ?_
 repeat refine' tT ?_
 refine pO fun KT bq=> ?_;go_simp;have Bw:=F9 (Be w u7) (B1.trans (Bu.mono B1.size));refine(F.out u7 Bw).mono ?_;rintro e w8 ⟨g,c',a2,C,rfl,E,f,w0,j0,l0⟩;have o:=F9 (g4∉ [D.C.b]/\Z∉ [D.C.b]) (by have h1:=H.Pt.map.lt;have h2:=GE.out;refine⟨by simp only[au];omega,?_⟩;have h3:=H.Pt.far HB;simpa using dR h3)
 have O8:=F9 (Only [D.C.b] u7 w8) l0;have N8:=jj j0;have R8:=jj f;have S8:=SP.out [D.C.b] w8 ((Only.of_below Bu).trans O8) o.1 o.2;clear f w0 j0 l0;refine oH bq S8 ?_;clear B;have B:=S8;refine pO fun KT bq=> ?_;go_simp;refine(a0.out w8 g c' a2 C E N8 R8).mono ?_;rintro e W ⟨V,t0,l',rfl,g0,n0,k0,m0⟩;have O9:=F9 (Only [D.C.b] u7 W) (O8.trans m0);obtain⟨N9,V9,L9⟩:=j3 k0 n0 g0;have S9:=SP.out [D.C.b] W ((Only.of_below Bu).trans O9) o.1 o.2;clear g0 n0 k0 m0;refine oH bq S9 ?_
 repeat refine' tT ?_
 refine aU ?_;have m1:J W g4 1 (U 0):=S9.2.1;clear B;have v:=F9 (Step x w W (D.C.cs K) (D.C.cs b.K)) ((H.BJ.sys.step Bw).turn (j:=0) (c':=tZ D.C.cd.nn D.C.b b.K) rfl O9 (fun k I=> .inl (by simp only[au] at I;subst I;simp[tZ,nM])) (by rw[<-NN.out];exact N9.out) (EX _ _ _) fun k I=> .inl I);have p0:=F9 (mJ x W D b.K) ⟨H.BJ.step v,H.fx,aB H.xlt v.only.size⟩;have s0:=F9 (pW w W D K D b.K) (Hf (rO.refl D) v rfl);go_wp2_with fail;refine(b0.out W D b.K V l' t0 p0 rfl rfl V9 L9).mono ?_;rintro e y0 ⟨rfl,D2,v0,c0,d0,e0⟩;obtain⟨A2,T2,V2⟩:=j3 c0 d0 e0;clear c0 d0 e0;go_wp2_with fail;go_ret;refine⟨by trivial,D2,v0,A2,s0.trans T2,?_⟩;rw[V2.out];rw[HX.out]
def pq(x:Nat)(w:World)(f:Int)(n gc:Nat)(X:CV)(F:LN):Prop:= ∃D,mJ x w D X.K/\D.val X.K=X/\D.C.cd.f=f/\D.C.n=n/\D.C.gc=gc/\D.nE X.K=F/\D.d1.ia=none
section
variable{w':World}{f:Int}{n gc y g t:Nat}{X X':CV}{F:LN}{cs:AV}
theorem pq.i(h:pq x w f n gc X F):Nl w f n gc X F:=by obtain⟨D,H,a,b,c,d,e,_⟩:=h;exact⟨x,D,H,a,b,c,d,e⟩
theorem pq.below(h:pq x w f n gc X F)(b:Be w w'):pq x w' f n gc X F:=by obtain⟨D,H,a⟩:=h;exact⟨D,H.below b,a⟩
theorem pq.fresh(h:pq x w f n gc X F)(o:Be w w')(q:w.heap.size<=y)(p:y<w'.heap.size):pq y w' f n gc X F:=by obtain⟨D,a,i,j,k,l,m,b⟩:=h;have H:=a.below o;have c:=H.BJ.ck;refine⟨D,⟨⟨a.BJ.sys.mv H.BJ.sys q,⟨c.blk,c.Bc,c.yK,fun g d=>(by rw[b] at d;cases d),c.ans,c.acc,⟨c.out.own,c.out.len,fun s e=> ?_⟩⟩,H.BJ.far⟩,a.fx,p⟩,i,j,k,l,m,b⟩;rw[a.fx.q1] at e;cases e
theorem pq.set(h:pq x w f n gc X F)(b:aZ w g t cs)(z:t≠228)(d:(g=x/\t=49)\/t∉KH)(y:g∉F)(i:Nat)(u:Value):pq x (w.setCell (adZ g i) u) f n gc X F:=by
 obtain⟨D,m,o,q,r,s,j,v⟩:=h;refine⟨D,m.only ((Only.refl [g] _).setCell (p:=adZ g i) (.inl bJ) u) (fun k H=> ?_) (fun k H c a=> ?_) (fun k H l=> ?_),o,q,r,s,j,v⟩
 ·rw[au] at H
  subst H;rcases d with⟨e,E⟩|d
  ·exact .inl ⟨e,fun T c a=>by rw[sN b a,E]⟩
  exact nV.of b d
 ·rw[au] at H
  subst H;exact z (sN b a).symm
 rw[au] at l;subst l;rw[j] at H;exact y H
theorem ajz(w:World)(f:Int)(a:1<=f)(H:f<=4)(n:Nat)(r:(n:Int)=3*f+1)(A:OA)(m c:Nat)(l:LI)(q:l.length=m)(h:m<=c)(s:gD w A m 1 (l.map fun y:Int=>Value.int .i64 y))(o:Zg f l):
  Y 10 #[acY (sW f),acX A m c] w fun e w'=> ∃x gc X F,e=acK (ac2 #[(gc:Nat),U 0])/\pq x w' f n gc X F/\Hw f n l X/\(∀k∈F,w.heap.size<=k)/\Be w w':=
 (agJ w f a H n r A m c l q h s o).mono fun e w' ⟨x,E,p,a,b,d,H,g,i,j⟩=>by have t:=H.K;exact⟨x,E.C.gc,E.val [],E.nE [],p,⟨E,a,rfl,b,d,rfl,rfl,j⟩,H,g,i⟩
end
theorem acJ{X X':CV}{F:LN}(h:pq x w f n gc X F)(H:X.nodes[0]?=some none)(g:X.t0=none)(i:Nat)(G:1<=i/\i<n)(kd r R j k:Int)(z:FgV X n i kd 0 r R j k X')(A:OA)(c:Nat)(b:qc w A 1 c [(0,r,R,j,k,-1)]):
  Y 33 #[gc,acY #[U kd,U 0,U 0,U 0,U 1,U 0,acX A 1 c,(),(),()],U i] w fun e w'=> ∃m,e=acK (U 0)/\pq x w' f n gc X' m/\Only F w w'/\Fro w F m:=by
 obtain⟨D,q,d,rfl,rfl,rfl,rfl,v⟩:=h;have a:=q.fx;have N:=a.n;have C:=a.f1;have E:=a.f4;have B:(0:Int)∈D.C.fl:=by
  rw[<-d] at H;simp only[qb.val,aS] at H
  cases e:D.C.nodes[0]? with
  |none=>rw[e] at H;cases H
  |some o=>
   rw[e] at H
   cases o with
   |none=>exact(a.bad 0 aR).1 e
   |some p=>cases H
 have u:(100:Int)+0∈D.C.fl:=by rw[<-d] at g;simp only[qb.val,Option.map_eq_none_iff] at g;exact a.f0.2 g
 exact(ah3 q i (by simp[qM.wI];omega) (by simp[qM.wI];omega) aR kd 0 r R j k X' (by rw[d];exact z) B u A c b).mono fun e w' ⟨y,l,s,t,a2,a3⟩=>
  ⟨l.nE X'.K,y,⟨l,t,a3,by rw[a2.same.f],a2.same.n,a2.same.gc,rfl,by rw[s];exact v⟩,a2.only,a2.new⟩
end
def mF.T(G:mF)(t:Nat):Prop:=(1<=t\/G.alt.isSome=true)/\t<=G.nD.length
def Up(G:mF)(b:LN):Prop:= ∀t∈b,G.T t
def mF.Inj(G:mF):Prop:= ∀s t,G.T s->G.T t->G.rq s=G.rq t->s=t
theorem map_inj{α β:Type}{f:α->β}: ∀{l m:List α},(∀x∈l,∀y∈m,f x=f y->x=y)->l.map f=m.map f->l=m
 | [],[],_,_=>rfl
 | [],y::m,_,h=>by simp at h
 |x::l,[],_,h=>by simp at h
 |x::l,y::m,hi,h=>by simp only[bV,gT] at h;rw[hi x bJ y bJ h.1,map_inj (fun a ha b hb=>hi a (by simp[ha]) b (by simp[hb])) h.2]
theorem mF.adi{G:mF}(h:G.Inj){c:LN}(H:Up G b)(a:Up G c):G.qR b=G.qR c↔b=c:=
 ⟨fun e=>map_inj (fun s d t f=>h s t (H s d) (a t f)) e,fun e=>by rw[e]⟩
theorem Dc: ∀(b c:LN),Tok.YZ b c=true↔b=c
 | [],[]=>by simp[Tok.YZ]
 | [],_::_=>by simp[Tok.YZ]
 |_::_,[]=>by simp[Tok.YZ]
 |a::l,b::m=>by simp[Tok.YZ,Dc l m,Nat.beq_eq]
theorem JY(b:List Rq): ∀(l:List Xk) (k:Nat),ny b l k 0= []
 | [],_=>rfl
 |none::l,k=>by rw[ny,JY b l]
 |some (s,c)::l,k=>by rw[ny,if_neg aR,JY b l]
def UpV(G:mF)(l:List (Option LN)):Prop:= ∀b,some b∈l->Up G b
theorem Fu{G:mF}(h:G.Inj)(hb:Up G b)(kind:Int)(k seq:Nat): ∀(l:List (Option LN)) (i q:Nat),UpV G l->
  ny (G.qR b) (G.zL kind k seq l i) i q=(Tok.oW l b i q).map (G.vo kind k seq b)
 | [],i,q,_=>rfl
 |none::l,i,q,hl=>by rw[mF.zL,ny,Tok.oW];exact Fu h hb kind k seq l (i+1) q fun c hc=>hl c (by simp[hc])
 |some c::l,i,q,hl=>by
  rw[mF.zL,ny];have ih:=fun q=>Fu h hb kind k seq l (i+1) q fun c hc=>hl c (by simp[hc]);have hc:=hl c bJ
  cases q with
  |zero=>rw[if_neg aR,JY];rfl
  |succ q=>
   rw[show Tok.oW (some c::l) b i (q+1)=if Tok.YZ c b then i::Tok.oW l b (i+1) q else Tok.oW l b (i+1) (q+1) from rfl];by_cases e:c=b
   ·subst e
    rw[if_pos ⟨rfl,aR⟩,if_pos ((Dc c c).2 rfl),fF,ih q];rfl
   rw[if_neg (fun x=>e ((mF.adi h hc hb).1 x.1)),if_neg (fun x=>e ((Dc c b).1 x)),ih]
theorem pQ{α:Type}: ∀l:List α,Tok.len l=l.length
 | []=>rfl
 |_::l=>by simp[Tok.len,pQ l]
theorem Ir{G:mF}(h:G.Inj)(H:Up G b)(kind:Int)(k s:Nat)(l:List (Option LN))(q:Nat)(a:UpV G l):
  qx q (G.zL kind k s l 0) (G.qR b)=(Tok.enough l b q).map fun v=>v.map (G.vo kind k s b):=by unfold qx Tok.enough;rw[Fu h H kind k s l 0 q a,aT];simp only[pQ,Nat.beq_eq];split<;>rfl
theorem xJ{G:mF}(h:G.Inj)(kind:Int)(k seq:Nat)(l:List (Option LN))(q:Nat)(hl:UpV G l): ∀(r:List (Option LN)) (j:Nat),UpV G r->
  mQ q (G.zL kind k seq l 0) (G.zL kind k seq r j)=(Tok.qG r l q).map fun p=>(G.qR p.1,p.2.map (G.vo kind k seq p.1))
 | [],j,_=>rfl
 |none::r,j,hr=>by rw[mF.zL,mQ,Tok.qG];exact xJ h kind k seq l q hl r (j+1) fun c hc=>hr c (by simp[hc])
 |some c::r,j,hr=>by
  have ih:=xJ h kind k seq l q hl r (j+1) fun c hc=>hr c (by simp[hc]);rw[mF.zL,mQ,Tok.qG,Ir h (hr c bJ) kind k seq l q hl]
  cases Tok.enough l c q with
  |none=>exact ih
  |some v=>rfl
theorem En(G:mF)(kind:Int)(k seq:Nat)(b:LN): ∀(l:List (Option LN)) (i n:Nat),n<l.length->
  G.zL kind k seq (Tok.vG l n (some b)) i=(G.zL kind k seq l i).set n (some (num G.K (G.BO kind (i+n) k seq b),G.qR b))
 | [],i,n,h=>by simp at h
 |x::l,i,0,_=>by cases x<;>simp[mF.zL,Tok.vG]
 |x::l,i,n+1,h=>by have ih:=En G kind k seq b l (i+1) n (mR h);have e:i+1+n=i+(n+1):=aR;rw[e] at ih;cases x<;>simp[mF.zL,Tok.vG,ih]
theorem El(G:mF)(kind:Int)(k seq:Nat): ∀(l:List (Option LN)) (i n:Nat) (v:Option LN),Tok.uw l n=some v->
  (G.zL kind k seq l i)[n]?=some (v.map fun b=>(num G.K (G.BO kind (i+n) k seq b),G.qR b))
 | [],i,n,v,h=>by simp[Tok.uw] at h
 |x::l,i,0,v,h=>by simp only[Tok.uw,aD] at h;subst h;cases x<;>simp[mF.zL]
 |x::l,i,n+1,v,h=>by have ih:=El G kind k seq l (i+1) n v h;have e:i+1+n=i+(n+1):=aR;rw[e] at ih;cases x<;>simp[mF.zL,ih]
end Go.Proofs.YtgnhecmnlddjhaaGreat
