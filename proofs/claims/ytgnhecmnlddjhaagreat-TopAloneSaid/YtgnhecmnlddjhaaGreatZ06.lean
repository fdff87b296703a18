/- TopAlone, part 7 of 24: a proof squeezed by a program. -/
import Derived.Test.YtgnhecmnlddjhaaGreatZ05
import Derived.Laws.MakeOwn
import Derived.Great.FillDense
import Derived.Great.BuildSlice
import Derived.Deep.MidRow
set_option linter.unusedVariables false
set_option linter.unusedSimpArgs false
set_option linter.defProp false
set_option maxRecDepth 100000
set_option maxHeartbeats 6400000
namespace Go.Proofs.YtgnhecmnlddjhaaGreat
open Go.RowKit Go.Proofs.Tryz
variable{P:Program}{g k n:Nat}{w w':World}
theorem aaT:(prog.info? 408).map (fun i=>(i.zero,i.size,i.bytes))=some (some (.agg #[false,U 0,()]),3,40):=by kernel_rfl
def vt0:rC:=⟨false,0,none,0,0,[]⟩
theorem Um(n:Nat)(hn:n=4\/n=7\/n=10\/n=13):madeCells #[false,U 0,()] (n*3)=((List.replicate n vt0).flatMap Ki).toArray:=by
 rcases hn with rfl|rfl|rfl|rfl<;>kernel_rfl
theorem aa6(n:Nat)(hn:n=4\/n=7\/n=10\/n=13)(W:World):(Instr.makeSlice 269 (U (n:Int)) (U (n:Int))).run prog W= .ok (O W.heap.size n n) (W.alloc (.cells ((List.replicate n vt0).flatMap Ki).toArray 408)):=by
 obtain⟨i,hi,hz,hs,hb⟩:=bq aaT;have h:=run_makeSlice (P:=prog) (w:=W) 269 408 i _ underlying269 hi hz .i64 .i64 (n:Int) (n:Int) lK (Int.le_refl _) (by rw[hs];omega) (by rw[hb];omega) lK;rw[h,hs,Int.toNat_natCast,<-Um n hn];rfl
def sl0(n gp gc:Nat):CQ:=⟨false,none,0,0,[],gp,List.replicate n vt0,gc,List.replicate n vt0⟩
theorem mM.fresh(x:Nat){f:Int}{gp gc:Nat}(hb:lQ w g 271 (WA f n (sl0 n gp gc)))(hp:lQ w gp 408 ((List.replicate n vt0).flatMap Ki).toArray)(hc:lQ w gc 408 ((List.replicate n vt0).flatMap Ki).toArray)(hne:gp≠gc):mM x w f n g (sl0 n gp gc):=
 ⟨hb,hp,hc,by simp[sl0],by simp[sl0],hne,sK.nil _ _,fun v hv=>by rw[dO hv];exact sK.nil _ _,fun v hv=>by rw[dO hv];exact sK.nil _ _⟩
theorem ab8(w:World)(g:Nat)(f:Int)(h1:1<=f)(h4:f<=4)(n:Nat)(hn:(n:Int)=3*f+1)(b1:Bool)(v2 v3 v4:Value)(hg:lQ w g 271 #[U f,b1,v2,v3,v4])(x:Nat):
  Y 145 #[g] w fun e w'=>e= .returned (.tuple #[])/\ ∃gp gc,mM x w' f n g (sl0 n gp gc)/\w.heap.size<=gp/\w.heap.size<=gc/\Only [g] w w':=by
 have hn4:n=4\/n=7\/n=10\/n=13:=lK;have MK:=aa6 n hn4;have G0:=jj hg;have c0:=hg.at_ 0;have c1:=hg.cell 1;have c2:=hg.cell 2;have f1:=hg.frozen 1;have f2:=hg.frozen 2;have HN:=jj hn;obtain⟨C,hC⟩:=ex (((List.replicate n vt0).flatMap Ki).toArray);rw[<-hC] at MK;have HC:=jj hC;clear hg hn hn4 hC;go_enter func145,ntmps145
 go_wp2_with fail
 refine(oC f _ h1 h4).mono ?_;rintro e w' ⟨rfl,rfl⟩;rw[<-HN.out]
 go_upto_region 2 with fail
 obtain⟨w1,hw1⟩:=ex ((w.setCell ⟨g,1,none⟩ false).setCell ⟨g,2,none⟩ ());rw[<-hw1];have G1:Hid (lQ w1 g 271 #[U f,false,(),v3,v4]):=jj (by
  rw[hw1];have t1:lQ (w.setCell ⟨g,1,none⟩ false) g 271 #[U f,false,v2,v3,v4]:=G0.mg 1 _;exact t1.mg 2 _)
 have O1:Hid (Only [g] w w1):=jj (by rw[hw1];exact((Only.refl [g] _).setCell (.inl lT) _).setCell (.inl lT) _);clear hw1 c0 c1 c2 f1 f2;refine rP (fun w'=>True) 11 (tk 0 3 (.take 4 (.two 3 (.take 6 (.take 7 (.two 5 (.one 8 (.one 9 (.take 10 (.one 11 .done)))) 8 (.one 5 (.one 9 (.take 10 (.one 11 .done))))))) 5 (.one 3 (.take 6 (.take 7 (.one 8 (.one 9 (.take 10 (.one 11 .done)))))))))) trivial ?_;intro hS0;obtain⟨u0,hu0⟩:=ex w1.drew;have G2:Hid (lQ u0 g 271 #[U f,false,(),v3,v4]):=jj (by rw[hu0];exact G1.drew);have O2:Hid (Only [g] w u0):=jj (by rw[hu0];exact O1.drew);rw[<-hu0];clear hu0
 repeat refine' tT ?_
 refine qN ?_ ?_
 ·skip
  refine pO fun KT lS=> ?_;go_simp;obtain⟨u03,hu⟩:=ex (u0.alloc (.cells C 408));obtain⟨Ma,hg⟩:=ex u0.heap.size;rw[<-hu,<-hg];have ac8:=xNew hu hg;have afc:Hid (w.heap.size<=Ma):=jj (by rw[hg];exact O2.size);have Zk:Hid (lQ u03 g 271 #[U f,false,(),v3,v4]):=jj (by rw[hu];exact G2.alloc _);have agr:Hid (Only [g] w u03):=jj (by rw[hu];exact O2.alloc _);clear hu hg;refine oH lS trivial ?_
  repeat refine' tT ?_
  refine qN ?_ ?_
  ·skip
   refine pO fun KT lS=> ?_;go_simp;obtain⟨aeR,hu⟩:=ex (u03.alloc (.cells C 408));obtain⟨g5a,hg⟩:=ex u03.heap.size;rw[<-hu,<-hg];have afg:=xNew hu hg;have aiK:Hid (w.heap.size<=g5a):=jj (by rw[hg];exact agr.size);have agm:Hid (Ma≠g5a):=jj (by rw[hg];exact kC ac8.lt);have Zq:Hid (lQ aeR Ma 408 C):=jj (by rw[hu];exact ac8.alloc _);have Py:Hid (lQ aeR g 271 #[U f,false,(),v3,v4]):=jj (by rw[hu];exact Zk.alloc _);have ajk:Hid (Only [g] w aeR):=jj (by rw[hu];exact agr.alloc _);clear hu hg;refine oH lS trivial ?_;refine pO fun KT lS=> ?_;have y:=Py.cell 3;have z:=Py.frozen 3;go_simp;obtain⟨RP,hu⟩:=ex (aeR.setCell ⟨g,3,none⟩ (O Ma n n));rw[<-hu];have U4:Hid (lQ RP Ma 408 C):=jj (by rw[hu];exact Zq.far (Zq.nY Py.out lN) _);have U5:Hid (lQ RP g5a 408 C):=jj (by rw[hu];exact afg.far (afg.nY Py.out lN) _);have Ia:Hid (lQ RP g 271 #[U f,false,(),O Ma n n,v4]):=jj (by rw[hu];exact Py.mg 3 _);have ags:Hid (Only [g] w RP):=jj (by rw[hu];exact ajk.setCell (.inl lT) _);clear hu y z;refine oH lS trivial ?_;refine pO fun KT lS=> ?_;go_simp;refine oH lS trivial ?_
   repeat refine' tT ?_
   refine pL fun KT lS=> ?_;have y:=Ia.cell 4;have z:=Ia.frozen 4;go_simp;refine lS.out _ _ ?_
   try simp only[Act.put]
   refine lM ?_;obtain⟨Hl,hu⟩:=ex (RP.setCell ⟨g,4,none⟩ (O g5a n n));rw[<-hu];have Xa:Hid (lQ Hl Ma 408 C):=jj (by rw[hu];exact U4.far (U4.nY Ia.out lN) _);have Xb:Hid (lQ Hl g5a 408 C):=jj (by rw[hu];exact U5.far (U5.nY Ia.out lN) _);have Zl:Hid (lQ Hl g 271 #[U f,false,(),O Ma n n,O g5a n n]):=jj (by rw[hu];exact Ia.mg 4 _);have Zx:Hid (Only [g] w Hl):=jj (by rw[hu];exact ags.setCell (.inl lT) _);clear hu y z;clear hS0
   go_end0
   have FR:=mM.fresh x (f:=f) (n:=n) (gp:=Ma) (gc:=g5a) Zl.out (by rw[<-HC.out];exact Xa.out) (by rw[<-HC.out];exact Xb.out) agm.out;exact⟨by trivial,Ma,g5a,FR,afc.out,aiK.out,Zx.out⟩
  skip
  refine pO fun KT lS=> ?_;have y:=Zk.cell 3;have z:=Zk.frozen 3;go_simp;obtain⟨acw,hu⟩:=ex (u03.setCell ⟨g,3,none⟩ (O Ma n n));rw[<-hu];have Zr:Hid (lQ acw Ma 408 C):=jj (by rw[hu];exact ac8.far (ac8.nY Zk.out lN) _);have aiN:Hid (lQ acw g 271 #[U f,false,(),O Ma n n,v4]):=jj (by rw[hu];exact Zk.mg 3 _);have afk:Hid (Only [g] w acw):=jj (by rw[hu];exact agr.setCell (.inl lT) _);clear hu y z;refine oH lS trivial ?_;refine pO fun KT lS=> ?_;go_simp;obtain⟨WK,hu⟩:=ex (acw.alloc (.cells C 408));obtain⟨g5b,hg⟩:=ex acw.heap.size;rw[<-hu,<-hg];have Zt:=xNew hu hg;have aiL:Hid (w.heap.size<=g5b):=jj (by rw[hg];exact afk.size);have ada:Hid (Ma≠g5b):=jj (by rw[hg];exact kC Zr.lt);have U6:Hid (lQ WK Ma 408 C):=jj (by rw[hu];exact Zr.alloc _);have Ib:Hid (lQ WK g 271 #[U f,false,(),O Ma n n,v4]):=jj (by rw[hu];exact aiN.alloc _);have agt:Hid (Only [g] w WK):=jj (by rw[hu];exact afk.alloc _);clear hu hg;refine oH lS trivial ?_;refine pO fun KT lS=> ?_;go_simp;refine oH lS trivial ?_
  repeat refine' tT ?_
  refine pL fun KT lS=> ?_;have y:=Ib.cell 4;have z:=Ib.frozen 4;go_simp;refine lS.out _ _ ?_
  try simp only[Act.put]
  refine lM ?_;obtain⟨Ho,hu⟩:=ex (WK.setCell ⟨g,4,none⟩ (O g5b n n));rw[<-hu];have Xc:Hid (lQ Ho Ma 408 C):=jj (by rw[hu];exact U6.far (U6.nY Ib.out lN) _);have Xd:Hid (lQ Ho g5b 408 C):=jj (by rw[hu];exact Zt.far (Zt.nY Ib.out lN) _);have Zm:Hid (lQ Ho g 271 #[U f,false,(),O Ma n n,O g5b n n]):=jj (by rw[hu];exact Ib.mg 4 _);have Zy:Hid (Only [g] w Ho):=jj (by rw[hu];exact agt.setCell (.inl lT) _);clear hu y z;clear hS0
  go_end0
  have FR:=mM.fresh x (f:=f) (n:=n) (gp:=Ma) (gc:=g5b) Zm.out (by rw[<-HC.out];exact Xc.out) (by rw[<-HC.out];exact Xd.out) ada.out;exact⟨by trivial,Ma,g5b,FR,afc.out,aiL.out,Zy.out⟩
 skip
 refine pO fun KT lS=> ?_;go_simp;obtain⟨u05,hu⟩:=ex (u0.alloc (.cells C 408));obtain⟨g5c,hg⟩:=ex u0.heap.size;rw[<-hu,<-hg];have ajc:=xNew hu hg;have aiM:Hid (w.heap.size<=g5c):=jj (by rw[hg];exact O2.size);have amG:Hid (lQ u05 g 271 #[U f,false,(),v3,v4]):=jj (by rw[hu];exact G2.alloc _);have ajl:Hid (Only [g] w u05):=jj (by rw[hu];exact O2.alloc _);clear hu hg;refine oH lS trivial ?_;refine pO fun KT lS=> ?_;go_simp;obtain⟨aeS,hu⟩:=ex (u05.alloc (.cells C 408));obtain⟨g3c,hg⟩:=ex u05.heap.size;rw[<-hu,<-hg];have afh:=xNew hu hg;have aiJ:Hid (w.heap.size<=g3c):=jj (by rw[hg];exact ajl.size);have agn:Hid (g5c≠g3c):=jj (by rw[hg];exact kC ajc.lt);have Zu:Hid (lQ aeS g5c 408 C):=jj (by rw[hu];exact ajc.alloc _);have Pz:Hid (lQ aeS g 271 #[U f,false,(),v3,v4]):=jj (by rw[hu];exact amG.alloc _);have ajm:Hid (Only [g] w aeS):=jj (by rw[hu];exact ajl.alloc _);clear hu hg;refine oH lS trivial ?_
 repeat refine' tT ?_
 refine pO fun KT lS=> ?_;have y:=Pz.cell 3;have z:=Pz.frozen 3;go_simp;obtain⟨RQ,hu⟩:=ex (aeS.setCell ⟨g,3,none⟩ (O g3c n n));rw[<-hu];have Va:Hid (lQ RQ g5c 408 C):=jj (by rw[hu];exact Zu.far (Zu.nY Pz.out lN) _);have U7:Hid (lQ RQ g3c 408 C):=jj (by rw[hu];exact afh.far (afh.nY Pz.out lN) _);have Ic:Hid (lQ RQ g 271 #[U f,false,(),O g3c n n,v4]):=jj (by rw[hu];exact Pz.mg 3 _);have agu:Hid (Only [g] w RQ):=jj (by rw[hu];exact ajm.setCell (.inl lT) _);clear hu y z;refine oH lS trivial ?_;refine pO fun KT lS=> ?_;go_simp;refine oH lS trivial ?_
 repeat refine' tT ?_
 refine pL fun KT lS=> ?_;have y:=Ic.cell 4;have z:=Ic.frozen 4;go_simp;refine lS.out _ _ ?_
 try simp only[Act.put]
 refine lM ?_;obtain⟨Hq,hu⟩:=ex (RQ.setCell ⟨g,4,none⟩ (O g5c n n));rw[<-hu];have Xf:Hid (lQ Hq g5c 408 C):=jj (by rw[hu];exact Va.far (Va.nY Ic.out lN) _);have Xe:Hid (lQ Hq g3c 408 C):=jj (by rw[hu];exact U7.far (U7.nY Ic.out lN) _);have Zn:Hid (lQ Hq g 271 #[U f,false,(),O g3c n n,O g5c n n]):=jj (by rw[hu];exact Ic.mg 4 _);have Zz:Hid (Only [g] w Hq):=jj (by rw[hu];exact agu.setCell (.inl lT) _);clear hu y z;clear hS0
 go_end0
 have FR:=mM.fresh x (f:=f) (n:=n) (gp:=g3c) (gc:=g5c) Zn.out (by rw[<-HC.out];exact Xe.out) (by rw[<-HC.out];exact Xf.out) agn.symm;exact⟨by trivial,g3c,g5c,FR,aiJ.out,aiM.out,Zz.out⟩
theorem ahM(w:World)(f:Int)(h1:1<=f)(h4:f<=4)(n:Nat)(hn:(n:Int)=3*f+1)(x:Nat):
  Y 110 #[U f] w fun e w'=> ∃g gp gc,e= .returned (.tuple #[(g:Nat),U 0])/\mM x w' f n g (sl0 n gp gc)/\w.heap.size<=g/\w.heap.size<=gp/\w.heap.size<=gc/\Be w w':=by
 have i1: ¬f<1:=lK;have i2: ¬4<f:=lK;go_enter func110,ntmps110
 go_wp2_with fail
 generalize hw1:w.alloc _=w1;generalize hg:w.heap.size=g;replace hw1:=hw1.symm;replace hg:=hg.symm;have X1:lQ w1 g 271 #[U f,false,(),(),()]:=by rw[hw1,hg];exact lQ.new _ _ _
 have B1:=tQ hw1;have GE:Hid (w.heap.size<=g):=jj lK;clear hw1 hg;refine(ab8 w1 g f h1 h4 n hn false _ _ _ X1 x).mono ?_;rintro e w2 ⟨rfl,gp,gc,hs,h5,h6,ho⟩;have S2:=jj hs;have B2:=jj (ho.below B1 B1.size (mR GE.out));have G2:Hid (w.heap.size<=gp/\w.heap.size<=gc):=jj ⟨aG B1.size h5,aG B1.size h6⟩;clear hs ho h5 h6 X1
 go_wp2_with fail
 go_ret2
 exact⟨g,gp,gc,by trivial,S2,GE,G2.1,G2.2,B2⟩
namespace Tok
inductive TM where
 |req (t:Nat)
 |prop (src t:Nat)
 |pp (src k seq:Nat) (b:LN)
 |uf (src k seq:Nat) (b:LN)
 |com (src k seq:Nat) (b:LN)
 |proof (src k seq:Nat) (b vs:LN)
 |rep (src t:Nat)
structure Sl where
 has:Bool
 b:List Nat
 pr:List (Option LN)
 co:List (Option LN)
 told:Bool
 done:Option (List Nat×List Nat)
structure Td where
 t:Nat
 nX:List Bool
 ready:Bool
 since:Nat
structure Nd where
 insts:List (List Sl)
 tab:List Td
 led:Nat
 wT:List (Nat×Nat)
 run:Nat
 now:Nat
 start:Nat
structure Ck where
 waits:Bool
 issued:Nat
 at_:Nat
 now:Nat
 ans:List Nat
 acc:Nat
abbrev Out:=List (Nat×TM)
def uw{α:Type}:List α->Nat->Option α
 | [],_=>none
 |a::_,0=>some a
 |_::l,k+1=>uw l k
def vG{α:Type}:List α->Nat->α->List α
 | [],_,_=> []
 |_::l,0,x=>x::l
 |a::l,k+1,x=>a::vG l k x
def tH{α:Type}(n:Nat)(a:α):List α:=match n with
 |0=> []
 |n+1=>a::tH n a
def YZ:List Nat->List Nat->Bool
 | [],[]=>true
 |a::l,b::m=>Nat.beq a b&&YZ l m
 |_,_=>false
def len{α:Type}:List α->Nat
 | []=>0
 |_::l=>len l+1
def oW:List (Option LN)->List Nat->Nat->Nat->List Nat
 | [],_,_,_=> []
 |none::l,b,n,q=>oW l b (n+1) q
 |some c::l,b,n,q=>match q with
  |0=> []
  |q'+1=>if YZ c b then n::oW l b (n+1) q' else oW l b (n+1) (q'+1)
def enough(l:List (Option LN))(b:LN)(q:Nat):Option LN:=
 let v:=oW l b 0 q
 if Nat.beq (len v) q then some v else none
def qG:List (Option LN)->List (Option LN)->Nat->Option (List Nat×List Nat)
 | [],_,_=>none
 |none::r,l,q=>qG r l q
 |some b::r,l,q=>match enough l b q with
  |some v=>some (b,v)
  |none=>qG r l q
def doneN:List Sl->Nat
 | []=>0
 |s::l=>match s.done with
  |some _=>doneN l+1
  |none=>0
def sendAll(n self:Nat)(m:TM):Nat->Out
 |0=> []
 |k+1=>let r:=sendAll n self m k;if Nat.beq k self then r else r++ [(k,m)]
def count:List Bool->Nat
 | []=>0
 |true::l=>count l+1
 |false::l=>count l
def JU(weak now node:Nat)(d:Td):Td:=
 let by':=vG d.nX node true
 if !d.ready&&Nat.ble weak (count by') then{d with nX:=by',ready:=true,since:=now} else{d with nX:=by'}
def Pn:List Td->Nat->Option (Option Td)
 | [],_=>some none
 |d::l,t=>if Nat.beq d.t t then some (some d) else if Nat.blt d.t t then Pn l t else none
def KR:List Td->Nat->Td->List Td
 | [],_,_=> []
 |d::l,t,e=>if Nat.beq d.t t then e::l else d::KR l t e
def DN(weak now node:Nat)(l:List Td)(t:Nat):Option (List Td):=match Pn l t with
 |none=>none
 |some (some d)=>match uw d.nX node with
  |some false=>some (KR l t (JU weak now node d))
  |_=>none
 |some none=>match l with
  | []=>some [⟨t,vG (tH 13 false) node true,false,0⟩]
  |_=>none
def IB(l:List Td)(t node:Nat):Option Bool:=match Pn l t with
 |none=>none
 |some none=>some false
 |some (some d)=>uw d.nX node
def LJ(l:List Td)(t:Nat):List Td:=l.filter fun d=>!Nat.ble d.t t
structure qM where
 f:Nat
 n:Nat
 q:Nat
def agD(g:List (Nat×Nat))(k ticks:Nat):Option (List (Nat×Nat)):=match uw g k with
 |some (c,s)=>if Nat.ble (c+1) 1000&&Nat.ble (s+ticks) 100000 then some (vG g k (c+1,s+ticks)) else none
 |none=>none
def yR(tab:List Td)(now k:Nat):List Nat->List (Nat×Nat)->Option (List (Nat×Nat))
 | [],g=>some g
 |t::b,g=>match Pn tab t with
  |none=>none
  |some (some d)=>if d.ready then match agD g k (now -d.since) with
    |some g'=>yR tab now k b g'
    |none=>none
   else yR tab now k b g
  |some none=>yR tab now k b g
def BN(c:qM)(self:Nat):Nd->List Nat->Option (Nd×Out)
 |s,[]=>some (s,[])
 |s,t::b=>if Nat.beq t (s.led+1) then
   match BN c self {s with led:=t,tab:=LJ s.tab t} b with
   |some (s',o)=>some (s',(c.n+1,TM.rep self t)::o)
   |none=>none
  else none
def execute(c:qM)(self:Nat):Nat->Nd->Option (Nd×Out)
 |0,s=>match uw s.insts 0 with
  |none=>none
  |some l0=>if Nat.ble (doneN l0) s.run then some (s,[]) else none
 |fuel+1,s=>match uw s.insts 0 with
  |none=>none
  |some l0=>if Nat.ble (doneN l0) s.run then some (s,[]) else
   match uw l0 s.run with
   |none=>none
   |some sl=>match sl.done with
    |none=>none
    |some (b,_)=>match BN c self {s with run:=s.run+1} b with
     |none=>none
     |some (s',o)=>match execute c self fuel s' with
      |none=>none
      |some (s'',o')=>some (s'',o++o')
def su(s:Nd)(k seq:Nat)(sl:Sl):Nd:=match uw s.insts k with
 |none=>s
 |some l=>{s with insts:=vG s.insts k (vG l (seq -1) sl)}
def tV(s:Nd)(k seq:Nat):Option Sl:=match seq with
 |0=>none
 |q+1=>match uw s.insts k with
  |none=>none
  |some l=>uw l q
def Cj(c:qM)(self k:Nat)(b:LN)(s:Nd):Option (Nd×Out):=
 match yR s.tab s.now k b s.wT with
 |none=>none
 |some g=>
  if Nat.beq k 0 then
   match execute c self 4 {s with wT:=g} with
   |some (s2,o)=>if Nat.ble 16 s2.run then none else some (s2,o)
   |none=>none
  else some ({s with wT:=g},[])
def Wq(c:qM)(self k seq:Nat)(s:Nd):Option (Nd×Out):=match tV s k seq with
 |none=>none
 |some sl=>if sl.told||!sl.has then some (s,[]) else match enough sl.pr sl.b c.q with
  |none=>some (s,[])
  |some _=>match uw sl.co self with
   |some none=>some (su s k seq {sl with told:=true,co:=vG sl.co self (some sl.b)},sendAll c.n self (.com self k seq sl.b) c.n)
   |_=>none
def Vx(c:qM)(self k seq:Nat)(s:Nd):Option (Nd×Out):=match tV s k seq with
 |none=>none
 |some sl=>match sl.done with
  |some _=>some (s,[])
  |none=>match qG sl.co sl.co c.q with
   |none=>some (s,[])
   |some (b,v)=>Cj c self k b (su s k seq {sl with done:=some (b,v)})
def looked(c:qM)(self k seq:Nat)(s:Nd):Option (Nd×Out):=match Wq c self k seq s with
 |none=>none
 |some (s1,o1)=>match Vx c self k seq s1 with
  |none=>none
  |some (s2,o2)=>some (s2,o1++o2)
def accepted(c:qM)(self k seq:Nat)(b:LN)(s:Nd):Option (Nd×Out):=match tV s k seq with
 |none=>none
 |some sl=>match uw sl.pr self,sl.has&&YZ sl.b b with
  |some none,true=>match looked c self k seq (su s k seq {sl with pr:=vG sl.pr self (some b)}) with
   |some (s2,o)=>some (s2,sendAll c.n self (.uf self k seq b) c.n++o)
   |none=>none
  |_,_=>none
def pre(k seq:Nat)(b:LN)(s:Nd):Option Nd:=match uw s.insts k,tV s k seq with
 |some l,some sl=>if Nat.ble seq (doneN l+4)&&!sl.has then some (su s k seq {sl with has:=true,b:=b}) else none
 |_,_=>none
def takeN(c:qM)(self:Nat)(m:TM)(s:Nd):Option (Nd×Out):=match m with
 | .req t=>if Nat.ble t s.led then none else match IB s.tab t self with
  |none=>none
  |some true=>some (s,[])
  |some false=>match DN (c.f+1) s.now self s.tab t with
   |none=>none
   |some T=>some ({s with tab:=T},sendAll c.n self (.prop self t) c.n)
 | .prop src t=>if Nat.ble t s.led||Nat.beq src self then none else match IB s.tab t src with
  |none=>none
  |some true=>some (s,[])
  |some false=>match IB s.tab t self with
   |none=>none
   |some true=>match DN (c.f+1) s.now src s.tab t with
    |none=>none
    |some T=>some ({s with tab:=T},[])
   |some false=>match DN (c.f+1) s.now self s.tab t with
    |none=>none
    |some T=>match DN (c.f+1) s.now src T t with
     |none=>none
     |some T'=>some ({s with tab:=T'},sendAll c.n self (.prop self t) c.n)
 | .pp _ k seq b=>match pre k seq b s with
  |some s1=>accepted c self k seq b s1
  |none=>none
 | .uf src k seq b=>match tV s k seq with
  |none=>none
  |some sl=>match uw sl.pr src with
   |some none=>looked c self k seq (su s k seq {sl with pr:=vG sl.pr src (some b)})
   |_=>none
 | .com src k seq b=>match tV s k seq with
  |none=>none
  |some sl=>match uw sl.co src with
   |some none=>looked c self k seq (su s k seq {sl with co:=vG sl.co src (some b)})
   |_=>none
 | .proof _ k seq _ _=>match tV s k seq with
  |some sl=>match sl.done with
   |some _=>some (s,[])
   |none=>none
  |none=>none
 | .rep _ _=>none
def AQ(t:Nat):List Sl->Bool
 | []=>false
 |s::l=>(s.has&&s.b.any (Nat.beq t))||(match s.done with|some (b,_)=>b.any (Nat.beq t)|none=>false)||AQ t l
def Dz:List Sl->Nat->Nat->Nat
 | [],_,top=>top+1
 |s::l,k,top=>Dz l (k+1) (if s.has then k else top)
def pick(ins:List Sl):List Td->Nat->List Nat
 | [],_=> []
 |d::l,room=>match room with
  |0=> []
  |r+1=>if d.ready&&!AQ d.t ins then d.t::pick ins l r else pick ins l (r+1)
def rises:List Nat->Bool
 | []=>true
 |x::l=>match l with
  | []=>true
  |y::_=>Nat.blt x y&&rises l
def propose(c:qM)(self k:Nat)(s:Nd):Option (Nd×Out):=match uw s.insts k with
 |none=>none
 |some ins=>
  let seq:=Dz ins 1 0
  if !Nat.beq k self||Nat.blt 16 seq||Nat.blt (doneN ins+4) seq then some (s,[]) else
  match pick ins s.tab 2 with
  | []=>some (s,[])
  |x::b=>if rises (x::b) then match pre k seq (x::b) s with
   |none=>none
   |some s1=>match accepted c self k seq (x::b) s1 with
    |some (s2,o)=>some (s2,sendAll c.n self (.pp k k seq (x::b)) c.n++o)
    |none=>none
   else none
def tF(c:qM)(self:Nat):Nat->Nat->Nd->Option (Nd×Out)
 |0,_,s=>some (s,[])
 |fuel+1,k,s=>match propose c self k s with
  |none=>none
  |some (s1,o)=>match tF c self fuel (k+1) s1 with
   |none=>none
   |some (s2,o2)=>some (s2,o++o2)
def calm:List Sl->Bool
 | []=>true
 |s::l=>(!s.has||s.done.isSome)&&calm l
def proofs(c:qM)(self now:Nat):List (List Sl)->Nat->Option Out
 | [],_=>some []
 |ins::r,k=>match proofs c self now r (k+1) with
  |none=>none
  |some o=>let d:=doneN ins
   if Nat.beq d 0 then some o else
   let seq:=1+now/2%d
   match uw ins (seq -1) with
   |some sl=>match sl.done with
    |some (b,v)=>some (sendAll c.n self (.proof self k seq b v) c.n++o)
    |none=>none
   |none=>none
def Nv(c:qM)(self:Nat)(s:Nd):Option Out:=
 if s.insts.all calm&&s.tab.isEmpty then proofs c self s.now s.insts 0 else none
def vN:List (Nat×Nat)->Nat×Nat
 | []=>(0,0)
 |(a,b)::l=>let r:=vN l;(a+r.1,b+r.2)
def fine:List (Nat×Nat)->Bool
 | []=>true
 |(n,t)::l=>let r:=vN l
  !Nat.blt (n*2*len l) (1*r.1)&&(Nat.beq n 0||Nat.beq r.1 0||!Nat.blt (r.2*n+8*n*r.1) (t*r.1))
def abq(now:Nat)(tab:List Td):Bool:=tab.all fun d=>!d.ready||(match Pn tab d.t with
 |some (some e)=>e.ready&&Nat.ble (now -e.since) 12
 |_=>false)
def WJ(c:qM)(self:Nat)(s:Nd):Option (Nd×Out):=
 if Nat.ble 900 s.now then none else
 match tF c self (c.f+1) 0 {s with now:=s.now+1} with
 |none=>none
 |some (s1,o1)=>
  match(if Nat.beq (s1.now%2) 0 then Nv c self s1 else some []) with
  |none=>none
  |some o2=>
   if !abq s1.now s1.tab then none else
   if Nat.ble (s1.start+8) s1.now then
    if fine s1.wT then some ({s1 with wT:=tH (c.f+1) (0,0),start:=s1.now},o1++o2) else none
   else some (s1,o1++o2)
def aaU(c:qM)(s:Ck):Ck×Out:=({s with waits:=true,issued:=s.issued+1,at_:=s.now,ans:= []},sendAll c.n 1000 (.req (s.issued+1)) c.n)
def takeC(c:qM)(m:TM)(s:Ck):Option Ck:=match m with
 | .rep src t=>if !s.waits then some s else if !Nat.beq t s.issued then none else if s.ans.any (Nat.beq src) then none else
   let a:=s.ans++ [src]
   if Nat.ble (c.f+1) (len a) then some {s with ans:=a,acc:=s.acc+1,waits:=false} else some {s with ans:=a}
 |_=>none
def acn(s:Ck):Option Ck:=if(s.waits&&Nat.beq ((s.now+1 -s.at_)%6) 0)||Nat.ble 900 s.now then none else some {s with now:=s.now+1}
structure Cl where
 nodes:List (Option Nd)
 ck:Ck
 links:List (List TM)
 sent:Nat
def room(sent:Nat)(o:Out):Bool:=Nat.ble (len o) 2000&&Nat.ble (sent+len o) 500000
def Co:List (List TM)->Nat->Option (Nat×TM)
 | [],_=>none
 | []::l,k=>Co l (k+1)
 |(m::_)::_,k=>some (k,m)
def tq:List (List TM)->Nat->List (List TM)
 | [],_=> []
 |l::r,0=>l.drop 1::r
 |l::r,k+1=>l::tq r k
def Av:List (List TM)->Nat->TM->Option (List (List TM))
 | [],_,_=>none
 |l::r,0,m=>if Nat.ble 64 (len l) then none else some ((l++ [m])::r)
 |l::r,k+1,m=>match Av r k m with
  |some r'=>some (l::r')
  |none=>none
def wY(n src:Nat):Out->List (List TM)->Option (List (List TM))
 | [],l=>some l
 |(d,m)::o,l=>if Nat.beq d src||Nat.beq d n||Nat.ble (n+2) d then none else match Av l (src*(n+2)+d) m with
  |some l'=>wY n src o l'
  |none=>none
def Ux(c:qM)(x:Cl)(i:Nat)(nd:Nd)(o:Out):Option Cl:=match room x.sent o with
 |false=>none
 |true=>match wY c.n i o x.links with
  |some l=>some {x with nodes:=vG x.nodes i (some nd),links:=l,sent:=x.sent+len o}
  |none=>none
def deliver(c:qM)(x:Cl)(src dst:Nat)(m:TM):Option Cl:=
 if Nat.beq dst (c.n+1) then
  match takeC c m x.ck with
  |some k=>some {x with ck:=k}
  |none=>none
 else match uw x.nodes dst with
  |some (some nd)=>match takeN c dst m nd with
   |some (nd',o)=>Ux c x dst nd' o
   |none=>none
  |some none=>some x
  |none=>none
def drain(c:qM):Nat->Cl->Option Cl
 |0,_=>none
 |fuel+1,x=>match Co x.links 0 with
  |none=>some x
  |some (k,m)=>match deliver c {x with links:=tq x.links k} (k/(c.n+2)) (k%(c.n+2)) m with
   |some x'=>drain c fuel x'
   |none=>none
def BG(c:qM):Nat->Nat->Cl->Option Cl
 |0,_,x=>match acn x.ck with
  |some k=>some {x with ck:=k}
  |none=>none
 |fuel+1,i,x=>match uw x.nodes i with
  |some (some nd)=>match WJ c i nd with
   |some (nd',o)=>match Ux c x i nd' o with
    |some x'=>BG c fuel (i+1) x'
    |none=>none
   |none=>none
  |some none=>BG c fuel (i+1) x
  |none=>none
def round(c:qM)(x:Cl):Option Cl:=match drain c 1900 x with
 |some x'=>BG c c.n 0 x'
 |none=>none
def issue(c:qM)(x:Cl):Option Cl:=match aaU c x.ck with
 |(k,o)=>match x.ck.waits,room x.sent o with
  |false,true=>match wY c.n (c.n+1) o x.links with
   |some l=>some {x with ck:=k,links:=l,sent:=x.sent+len o+1}
   |none=>none
  |_,_=>none
def sl0(n:Nat):Sl:=⟨false,[],tH n none,tH n none,false,none⟩
def nd0(c:qM):Nd:=⟨tH (c.f+1) (tH 16 (sl0 c.n)),[],0,tH (c.f+1) (0,0),0,0,0⟩
def cl0(c:qM)(agP:Nat->Bool):Cl:=⟨(List.range c.n).map fun i=>if agP i then none else some (nd0 c),⟨false,0,0,0,[],0⟩,tH ((c.n+2)*(c.n+2)) [],0⟩
def cfg(f:Nat):qM:=⟨f,3*f+1,2*f+1⟩
def play(c:qM):Nat->Cl->Option Cl
 |0,x=>some x
 |m+1,x=>match issue c x with
  |some x1=>match round c x1 with
   |some x2=>match round c x2 with
    |some x3=>if Nat.beq x3.ck.acc x3.ck.issued then play c m x3 else none
    |none=>none
   |none=>none
  |none=>none
def uN(c:qM):Nat->Cl->Bool
 |m,x=>(match round c x with
   |some y=>y.nodes.all fun o=>match o with|some nd=>Nat.beq nd.led x.ck.issued|none=>false
   |none=>false)&&Nat.beq x.ck.acc x.ck.issued&&
  match m with
  |0=>true
  |m+1=>match issue c x with
   |some x1=>match round c x1 with
    |some x2=>match round c x2 with
     |some x3=>uN c m x3
     |none=>false
    |none=>false
   |none=>false
def wakes:Bool:=match play (cfg 1) 1 (cl0 (cfg 1) fun i=>Nat.beq i 3) with
 |some x=>Nat.beq x.ck.acc 1
 |none=>false
end Tok
theorem RI(w:World)(g o j:Nat)(hj:j<13)(z:Int)(hz:z=j)(hc:J w g (o+j) false)(hf:w.frozen? ⟨g,o+j,none⟩=false):
  Y 255 #[.pointer (some ⟨g,o,none⟩),U z] w fun e w'=>e= .returned true/\w'=w.setCell ⟨g,o+j,none⟩ true:=by
 have i1: ¬z<0:=lK;have i2: ¬12<z:=lK;have i3:0<=z:=lK;have i4:z<13:=lK;have e1:z.toNat=j:=lK;clear hz hj;go_enter func255,ntmps255
 go_wp2_with fail
 go_ret;exact⟨by trivial,by trivial⟩
theorem ahR(w:World)(g o j:Nat)(hj:j<13)(z:Int)(hz:z=j)(b:Bool)(hc:J w g (o+j) b):
  Y 234 #[.pointer (some ⟨g,o,none⟩),U z] w fun e w'=>e= .returned b/\w=w':=by
 have i1:0<=z:=lK;have i2:z<=12:=lK;have i4:z<13:=lK;have e1:z.toNat=j:=lK;clear hz hj;go_enter func234,ntmps234
 go_wp2_with fail
 go_ret;exact⟨by trivial,by trivial⟩
theorem Ub:(prog.info? 4).map (fun i=>(i.zero,i.size,i.bytes))=some (some (.bool false),1,1):=by kernel_rfl
theorem ao3(b0 b1 b2 b3 b4 b5 b6 b7 b8 b9 b10 b11 b12:Bool)(k:Nat)(z:Bool)(hk:k<13)(hz: [b0,b1,b2,b3,b4,b5,b6,b7,b8,b9,b10,b11,b12][k]?=some z)(w:World):
  (Instr.index 352 (.agg #[b0,b1,b2,b3,b4,b5,b6,b7,b8,b9,b10,b11,b12]) (U k)).run prog w= .ok z w:=by
 obtain⟨i0,hi0,_,hz1,_⟩:=bq Ub;have h1:(0:Int)<=(k:Int)/\(k:Int)<(13:Nat):=lK;simp only[Instr.index,jD,asIntOf,Sem.run_pure,Result.andThen_ok,fD underlying352,aV h1,sizeOf,typeInfo,part,Int.toNat_natCast]
 match k,hk with
 |0,_|1,_|2,_|3,_|4,_|5,_|6,_|7,_|8,_|9,_|10,_|11,_|12,_=>
  simp at hz;subst hz;simp[hi0,hz1]
theorem Cn: ∀(l:List Bool) (b:Bool),Tok.count (l++ [b])=Tok.count l+(if b then 1 else 0)
 | [],b=>by cases b<;>rfl
 |true::l,b=>by simp only[List.cons_append,Tok.count,Cn l b];omega
 |false::l,b=>by simp only[List.cons_append,Tok.count,Cn l b]
theorem count_le: ∀l:List Bool,Tok.count l<=l.length
 | []=>aF _
 |true::l=>by simp only[Tok.count,List.length_cons];have:=count_le l;omega
 |false::l=>by simp only[Tok.count,List.length_cons];have:=count_le l;omega
theorem ahQ(w:World)(g o:Nat)(b0 b1 b2 b3 b4 b5 b6 b7 b8 b9 b10 b11 b12:Bool)(hc0:J w g o b0)(hc1:J w g (o+1) b1)(hc2:J w g (o+2) b2)(hc3:J w g (o+3) b3)(hc4:J w g (o+4) b4)(hc5:J w g (o+5) b5)(hc6:J w g (o+6) b6)(hc7:J w g (o+7) b7)(hc8:J w g (o+8) b8)(hc9:J w g (o+9) b9)(Kz:J w g (o+10) b10)(adG:J w g (o+11) b11)(Qu:J w g (o+12) b12):
  Y 281 #[.pointer (some ⟨g,o,none⟩)] w fun e w'=>(∃a c,e= .returned (.slice a (Tok.count [b0,b1,b2,b3,b4,b5,b6,b7,b8,b9,b10,b11,b12]) c))/\Be w w':=by
 obtain⟨i0,hi0,hz0,hz1,hz2⟩:=bq Mi;go_enter func281,ntmps281
 go_wp2_with fail
 clear hc0 hc1 hc2 hc3 hc4 hc5 hc6 hc7 hc8 hc9 Kz adG Qu
 go_loopw [3,10] (fun q j wr=> ∃k:Nat,k<=13/\j= U k/\(∃a m c,q= .slice a m c/\Tok.count ([b0,b1,b2,b3,b4,b5,b6,b7,b8,b9,b10,b11,b12].take k)=m/\ ∃xs,wr.ownsRow w.heap.size 3 1 (.slice a m c) m xs)/\Be w wr) (fun _ j _=>13 -(intOf j).toNat)
 case atStart=>exact⟨0,lK,rfl,⟨none,0,0,rfl,rfl,[],⟨lT,.inl ⟨rfl,rfl⟩⟩⟩,aC _ _⟩
 case round=>
  obtain⟨k,hk,rfl,⟨a,m,c,rfl,hm,xs,ho⟩,hb⟩:=hrel;obtain⟨BW,HO,HM⟩:=j3 hb ho hm;have mle:m<=13:=by rw[<-hm];exact aG (count_le _) (by simp;omega)
  clear hb ho hm;by_cases hlt:k<13
  ·have VL:(0:Int)<=k:=lK
   have i1:(k:Int)<13:=lK;have e0:IntKind.i64.wrap ((k:Int)+1)=(k:Int)+1:=aH _ lK;obtain⟨z,hz⟩: ∃z,[b0,b1,b2,b3,b4,b5,b6,b7,b8,b9,b10,b11,b12][k]?=some z:=⟨_,aj (mR hlt)⟩;have IX:=fun w=>ao3 b0 b1 b2 b3 b4 b5 b6 b7 b8 b9 b10 b11 b12 k z hlt hz w;have CT:Hid (Tok.count ([b0,b1,b2,b3,b4,b5,b6,b7,b8,b9,b10,b11,b12].take (k+1))=m+(if z then 1 else 0)):=jj (by
    rw[fM,hz,Option.toList_some,Cn,HM.out])
   have sJ:Hid (k+1<=13):=jj hlt;clear hz hlt hk
   cases z with
   |false=>
    go_wp2_with fail
    go_roundw
    case rel=>exact⟨k+1,sJ,by go_num,⟨a,m,c,by trivial,by rw[CT.out];rfl,xs,HO⟩,BW⟩
    have:=sJ.out;simp[intOf];omega
   |true=>
    go_wp2_with(first|(at_builtin;refine lZ rfl _ _ _ rfl w.heap.size 3 i0 _ 1 8 underlying35 hi0 hz0 hz1 hz2 rfl lK a m c xs rfl (own_below HO nC) (some ⟨wr.heap.size,0,none⟩) 1 1 [U k] rfl (qC wr 3 (U k)) (by intro u hu;simp only[au] at hu;rw[hu];rfl) (by unfold maxLen;omega) lK (by have:=BW.size;simp;omega) ?_;intro a6 c6 w6 h6;have H6:=jj h6;clear h6))
    have B6:Hid (Be w w6):=jj (H6.below (own_below HO nC) (BW.alloc BW.size _) (aF _) (by have:=BW.size;simp;omega))
    try go_wp2_with fail
    go_roundw
    case rel=>exact⟨k+1,sJ,by go_num,⟨a6,m+1,c6,by trivial,by rw[CT.out];rfl,_,H6.own⟩,B6⟩
    have:=sJ.out;simp[intOf];omega
  have i1: ¬(k:Int)<13:=lK;have G:Hid (Tok.count [b0,b1,b2,b3,b4,b5,b6,b7,b8,b9,b10,b11,b12]=m):=jj (by rw[<-HM.out,dB (by simp;omega)])
  go_wp2_with fail
  go_ret;exact⟨⟨a,c,by rw[G.out];first|rfl|trivial⟩,BW⟩
theorem acp(w:World)(g o:Nat)(b0 b1 b2 b3 b4 b5 b6 b7 b8 b9 b10 b11 b12:Bool)(hc0:J w g o b0)(hc1:J w g (o+1) b1)(hc2:J w g (o+2) b2)(hc3:J w g (o+3) b3)(hc4:J w g (o+4) b4)(hc5:J w g (o+5) b5)(hc6:J w g (o+6) b6)(hc7:J w g (o+7) b7)(hc8:J w g (o+8) b8)(hc9:J w g (o+9) b9)(Kz:J w g (o+10) b10)(adG:J w g (o+11) b11)(Qu:J w g (o+12) b12):
  Y 256 #[.pointer (some ⟨g,o,none⟩)] w fun e w'=>e= .returned (U (Tok.count [b0,b1,b2,b3,b4,b5,b6,b7,b8,b9,b10,b11,b12]))/\Be w w':=by
 have TA:=jj (ahQ w g o b0 b1 b2 b3 b4 b5 b6 b7 b8 b9 b10 b11 b12 hc0 hc1 hc2 hc3 hc4 hc5 hc6 hc7 hc8 hc9 Kz adG Qu);obtain⟨m,hm⟩:=ex (Tok.count [b0,b1,b2,b3,b4,b5,b6,b7,b8,b9,b10,b11,b12]);rw[<-hm] at TA|-;clear hm hc0 hc1 hc2 hc3 hc4 hc5 hc6 hc7 hc8 hc9 Kz adG Qu;go_enter func256,ntmps256
 go_wp2_with fail
 refine TA.mono ?_;rintro e w2 ⟨⟨a,c,rfl⟩,hb⟩;have B2:=jj hb;clear hb
 go_wp2_with fail
 go_ret;exact⟨by trivial,B2⟩
theorem wK   {ops:Array Oper} {o:Oper} {a:Act} {K:Act->World->Prop} {Q:Exit->Act->World->Prop} {E:Prop} (hgd:o.guard=none) (t:TypeId) (n:Nat) (parts:Array (Nat×Operand)) (ho:o.op= .buildSlice t n parts)
  (vs:Array (Nat×Value)) (hvs:(parts.map fun(i,x)=>(i,a.eval x))=vs) (A:Value) (hz:(Instr.buildSlice t n vs).run P w= .ok A w')
  (h:K (a.put o.dst A) w'):if Region.wanted o (yielded ops a.tmps)=true then Oper.wp P o a w K Q else E:=by
 have hw:Region.wanted o (yielded ops a.tmps)=true:=by simp[Region.wanted,hgd]
 rw[aV hw];unfold Oper.wp execOp;simp only[ho,hvs,jD,hz,Result.andThen_ok];exact h
theorem EH(T E:TypeId)(ie:TypeInfo)(z:Value)(s:Nat)(hu:P.underlying T=some (.slice E))(hie:P.info? E=some ie)(hz:ie.zero=some z)(hs:ie.size=s)(h0:0<s)(h1:s<=2^24)(Z:AV)(hZ:Z.size=s)(w:World):
  (Instr.buildSlice T 1 #[(0,.agg Z)]).run P w= .ok (O w.heap.size 1 1) (w.alloc (.cells Z E)):=by
 refine run_buildSlice w T E 1 _ Z ie z hu hie hz (by rw[hs];omega) (by rw[hs];omega) ?_;rw[hs];have:=Great.fill_whole h0 [.agg Z] ((Array.range (1*s)).map (z.cells[· %z.cells.size]!)) (fun v hv=>by
  simp only[au] at hv;subst hv;simpa[Value.cells] using hZ) lT
 simpa[Value.cells] using this
theorem qQ.ZT{base base0:Nat}{e:TypeId}{s n0 c0 cap:Nat}{t:TypeId}{cs:AV}{a0 a':OA}{xs0 xs:LV}(h:qQ w w' base e s a0 a' n cap xs)(ho:w.ownsRow base0 e s (.slice a0 n0 c0) n0 xs0)(hb:lQ w g t cs)(hne:t≠e):lQ w' g t cs:=
 hb.only h.only fun hm=>by
  obtain⟨_,c,hc⟩:=lW ho _ hm;exact hb.nY hc hne rfl
theorem yj(T E:TypeId)(ie:TypeInfo)(z:Value)(hu:P.underlying T=some (.slice E))(hie:P.info? E=some ie)(hz:ie.zero=some z)(hs:ie.size=1)(u:Value)(hc:u.cells=#[u])(w:World):
  (Instr.buildSlice T 1 #[(0,u)]).run P w= .ok (O w.heap.size 1 1) (w.alloc (.cells #[u] E)):=by
 refine run_buildSlice w T E 1 _ #[u] ie z hu hie hz (by rw[hs];omega) (by rw[hs];omega) ?_;rw[hs];have:=Great.fill_whole (s:=1) lK [u] ((Array.range (1*1)).map (z.cells[· %z.cells.size]!)) (fun v hv=>by
  simp only[au] at hv;subst hv;rw[hc];rfl) lT
 simpa[hc] using this
def yO(a b:Int):Int:=if a<b then -1 else if b<a then 1 else 0
theorem afG(a:Int)(w:World):Y 294 #[U a] w fun e w'=>e= .returned false/\w=w':=by
 go_enter func294,ntmps294
 go_wp2
 go_ret;exact⟨by first|rfl|simp,by trivial⟩
theorem Ls(a b:Int)(w:World)(r:Int)(hr:yO a b=r):Y 283 #[U a,U b] w fun e w'=>e= .returned (U r)/\w=w':=by
 rcases(show(a<b/\r= -1)\/(¬a<b/\b<a/\r=1)\/(¬a<b/\ ¬b<a/\r=0) by
  unfold yO at hr;split at hr
  ·exact .inl ⟨by assumption,hr.symm⟩
  split at hr
  ·exact .inr (.inl ⟨by assumption,by assumption,hr.symm⟩)
  exact .inr (.inr ⟨by assumption,by assumption,hr.symm⟩)) with⟨h1,rfl⟩|⟨h1,h2,rfl⟩|⟨h1,h2,rfl⟩
 all_goals
  clear hr;go_enter func283,ntmps283
  go_wp2_with fail
  refine(afG a _).mono ?_;rintro e w' ⟨rfl,rfl⟩
  go_wp2_with fail
  refine(afG b _).mono ?_;rintro e w' ⟨rfl,rfl⟩
  go_wp2_with fail
  go_ret;exact⟨by trivial,by trivial⟩
def orL:List Int->Int
 | []=>0
 |x::l=>if x=0 then orL l else x
theorem ao9(g:Nat)(l:LI)(n c:Nat)(hn:l.length=n)(hm:n<=4096)(w:World)(h:lQ w g 3 (ints l))(r:Int)(hr:orL l=r):
  Y 282 #[O g n c] w fun e w'=>e= .returned (U r)/\w=w':=by
 have HR:=jj hr;have HN:=jj hn;have CE:Hid (∀k (hk:k<l.length),J w g k (.int .i64 l[k])):=jj fun k hk=>by
  rw[h.cell,Du l k hk];simp[List.getD,aj hk]
 clear h hr hn;go_enter func282,ntmps282
 go_wp2_with fail
 go_loopw [8] (fun i wr=> ∃k:Nat,k<=n/\i= U k/\wr=w/\orL (l.drop k)=r) (fun i _=>n -(intOf i).toNat)
 case atStart=>exact⟨0,lK,rfl,rfl,by simpa using HR.out⟩
 case round=>
  obtain⟨k,hk,rfl,rfl,ho⟩:=hrel;have HO:=jj ho;clear ho;by_cases hlt:k<n
  ·have hkl:k<l.length:=by rw[HN.out];exact hlt
   have c0:=CE.out k hkl;have i0:(0:Int)<=k:=lK;have i1:(k:Int)<n:=lK;have e0:IntKind.i64.wrap ((k:Int)+1)=(k:Int)+1:=aH _ lK;obtain⟨z,hz⟩:=ex l[k];rw[<-hz] at c0;have D:Hid (l.drop k=z::l.drop (k+1)):=jj (by rw[hz];exact(dY hkl).symm);clear hz;by_cases z0:z=0
   ·have G:Hid (orL (l.drop (k+1))=r):=jj (by rw[<-HO.out,D.out,orL,aV z0])
    subst z0
    go_wp2_with fail
    go_roundw
    case rel=>exact⟨k+1,lK,by go_num,by trivial,G⟩
    simp[intOf];omega
   have G:Hid (z=r):=jj (by rw[<-HO.out,D.out,orL,aU z0]);obtain rfl:=G.out
   go_wp2_with fail
   go_ret;exact⟨by trivial,by trivial⟩
  have i1: ¬(k:Int)<n:=lK;have G:Hid (r=0):=jj (by rw[<-HO.out,iB (by rw[HN.out];omega)];rfl);obtain rfl:=G.out
  go_wp2_with fail
  go_ret;exact⟨by trivial,by trivial⟩
def zT(a b:Rq):Int:=orL [yO a.1 b.1,yO a.2.1 b.2.1,yO a.2.2.1 b.2.2.1,yO a.2.2.2.1 b.2.2.2.1,yO a.2.2.2.2.1 b.2.2.2.2.1,yO a.2.2.2.2.2 b.2.2.2.2.2]
theorem Lr(a:Int):yO a a=0:=by simp[yO]
theorem Xy(a:Rq):zT a a=0:=by simp[zT,Lr,orL]
theorem EJ{a b:Rq}(h:a.1=b.1)(ht:a.2.1<b.2.1):zT a b= -1:=by
 have e1:yO a.1 b.1=0:=by rw[h];exact Lr _
 have e2:yO a.2.1 b.2.1= -1:=by simp[yO,ht]
 simp[zT,e1,e2,orL]
theorem Cy(w:World)(a b:Rq)(r:Int)(hr:zT a b=r):
  Y 257 #[Kh a,Kh b] w fun e w'=>e= .returned (U r)/\Be w w':=by
 obtain⟨a0,a1,a2,a3,a4,a5⟩:=a;obtain⟨b0,b1,b2,b3,b4,b5⟩:=b;obtain⟨q0,h0⟩: ∃q,yO a0 b0=q:=⟨_,rfl⟩;obtain⟨q1,h1⟩: ∃q,yO a1 b1=q:=⟨_,rfl⟩;obtain⟨q2,h2⟩: ∃q,yO a2 b2=q:=⟨_,rfl⟩;obtain⟨q3,h3⟩: ∃q,yO a3 b3=q:=⟨_,rfl⟩;obtain⟨q4,h4⟩: ∃q,yO a4 b4=q:=⟨_,rfl⟩;obtain⟨q5,h5⟩: ∃q,yO a5 b5=q:=⟨_,rfl⟩;obtain⟨H0,H1,H2,H3,H4,H5⟩:=j6 h0 h1 h2 h3 h4 h5;have HR:Hid (orL [q0,q1,q2,q3,q4,q5]=r):=jj (by rw[<-hr,<-h0,<-h1,<-h2,<-h3,<-h4,<-h5];rfl);clear h0 h1 h2 h3 h4 h5 hr;show Y 257 #[.agg #[U a0,U a1,U a2,U a3,U a4,U a5],.agg #[U b0,U b1,U b2,U b3,U b4,U b5]] w _;go_enter func257,ntmps257
 go_upto_region 1 with fail
 obtain⟨g2,hg2⟩:=ex w.heap.size;obtain⟨v1,hv1⟩:=ex (w.alloc (.cells #[U a0,U a1,U a2,U a3,U a4,U a5] 49));rw[<-hv1,<-hg2];obtain⟨g3,hg3⟩:=ex v1.heap.size;obtain⟨v2,hv2⟩:=ex (v1.alloc (.cells #[U b0,U b1,U b2,U b3,U b4,U b5] 49));have eg:g2+1=g3:=by rw[hg3,hv1,hg2];simp
 try rw[eg]
 try rw[<-hg3]
 rw[<-hv2];have X2:Hid (lQ v2 g2 49 #[U a0,U a1,U a2,U a3,U a4,U a5]):=jj (by rw[hv2];refine lQ.alloc ?_ _;rw[hv1,hg2];exact lQ.new _ _ _);have X3:=xNew hv2 hg3;have B2:Hid (Be w v2):=jj (by rw[hv2,hv1];exact(nC.alloc lT _));clear hv1 hv2 hg2 hg3 eg;refine qI (fun w'=>J w' g2 0 (U a0)/\J w' g2 1 (U a1)/\J w' g2 2 (U a2)/\J w' g2 3 (U a3)/\J w' g2 4 (U a4)/\J w' g2 5 (U a5)/\J w' g3 0 (U b0)/\J w' g3 1 (U b1)/\J w' g3 2 (U b2)/\J w' g3 3 (U b3)/\J w' g3 4 (U b4)/\J w' g3 5 (U b5)) 39 (tk 0 36 (.one 36 (.one 37 (.take 38 .done)))) (by kernel_rfl) (by kernel_rfl) (by kernel_rfl) ⟨X2.drew.cell 0,X2.drew.cell 1,X2.drew.cell 2,X2.drew.cell 3,X2.drew.cell 4,X2.drew.cell 5,X3.drew.cell 0,X3.drew.cell 1,X3.drew.cell 2,X3.drew.cell 3,X3.drew.cell 4,X3.drew.cell 5⟩ ?_;intro hS0
 repeat(first|refine' uT ?_|refine' uS ?_)
 refine pR _ _ rfl (by rfl) (by assumption) (fun w=>by go_simp;try exact⟨rfl,rfl⟩) (fun w hSw=>Ls a0 b0 w q0 H0) ?_;try simp only[Nw]
 repeat(first|refine' uT ?_|refine' uS ?_)
 refine pR _ _ rfl (by rfl) (by assumption) (fun w=>by go_simp;try exact⟨rfl,rfl⟩) (fun w hSw=>Ls a1 b1 w q1 H1) ?_;try simp only[Nw]
 repeat(first|refine' uT ?_|refine' uS ?_)
 refine pR _ _ rfl (by rfl) (by assumption) (fun w=>by go_simp;try exact⟨rfl,rfl⟩) (fun w hSw=>Ls a2 b2 w q2 H2) ?_;try simp only[Nw]
 repeat(first|refine' uT ?_|refine' uS ?_)
 refine pR _ _ rfl (by rfl) (by assumption) (fun w=>by go_simp;try exact⟨rfl,rfl⟩) (fun w hSw=>Ls a3 b3 w q3 H3) ?_;try simp only[Nw]
 repeat(first|refine' uT ?_|refine' uS ?_)
 refine pR _ _ rfl (by rfl) (by assumption) (fun w=>by go_simp;try exact⟨rfl,rfl⟩) (fun w hSw=>Ls a4 b4 w q4 H4) ?_;try simp only[Nw]
 repeat(first|refine' uT ?_|refine' uS ?_)
 refine pR _ _ rfl (by rfl) (by assumption) (fun w=>by go_simp;try exact⟨rfl,rfl⟩) (fun w hSw=>Ls a5 b5 w q5 H5) ?_;try simp only[Nw]
 repeat(first|refine' uT ?_|refine' uS ?_)
 refine yJ rfl (fun KT lS=> ?_);go_simp;obtain⟨v3,hv3⟩:=ex ((v2.alloc (.cells #[U q0,U q1,U q2,U q3,U q4,U q5] 3)).drew);obtain⟨g4,hg4⟩:=ex v2.heap.size;rw[<-hv3,<-hg4];have S3:J v3 g2 0 (U a0)/\J v3 g2 1 (U a1)/\J v3 g2 2 (U a2)/\J v3 g2 3 (U a3)/\J v3 g2 4 (U a4)/\J v3 g2 5 (U a5)/\J v3 g3 0 (U b0)/\J v3 g3 1 (U b1)/\J v3 g3 2 (U b2)/\J v3 g3 3 (U b3)/\J v3 g3 4 (U b4)/\J v3 g3 5 (U b5):=by
  have x2:=(X2.alloc (.cells #[U q0,U q1,U q2,U q3,U q4,U q5] 3)).drew;have x3:=(X3.alloc (.cells #[U q0,U q1,U q2,U q3,U q4,U q5] 3)).drew;rw[<-hv3] at x2 x3;exact⟨x2.cell 0,x2.cell 1,x2.cell 2,x2.cell 3,x2.cell 4,x2.cell 5,x3.cell 0,x3.cell 1,x3.cell 2,x3.cell 3,x3.cell 4,x3.cell 5⟩
 have X4:Hid (lQ v3 g4 3 (ints [q0,q1,q2,q3,q4,q5])):=jj (by rw[hv3,hg4];exact(lQ.new _ _ _).drew);have B3:Hid (Be w v3):=jj (by rw[hv3];exact(B2.alloc B2.size _).drew);clear hv3 hg4;refine oH lS S3 ?_;refine yJ rfl (fun KT lS=> ?_);go_simp;refine(ao9 g4 [q0,q1,q2,q3,q4,q5] 6 6 rfl lK _ X4 r HR).mono ?_;rintro e w' ⟨rfl,rfl⟩;refine oH lS S3 ?_
 repeat(first|refine' uT ?_|refine' uS ?_)
 refine qO ?_;clear hS0 S3
 go_wp2_with fail
 go_ret;exact⟨by trivial,B3⟩
structure oO where
 r:Rq
 nX:Nat->Bool
 ready:Bool
 since:Int
def xW(d:oO):List Value:= [U d.r.1,U d.r.2.1,U d.r.2.2.1,U d.r.2.2.2.1,U d.r.2.2.2.2.1,U d.r.2.2.2.2.2,(d.nX 0),(d.nX 1),(d.nX 2),(d.nX 3),(d.nX 4),(d.nX 5),(d.nX 6),(d.nX 7),(d.nX 8),(d.nX 9),(d.nX 10),(d.nX 11),(d.nX 12),d.ready,U d.since]
theorem He(d:oO):(xW d).length=21:=rfl
theorem xq(T:List oO): ∀v∈T.flatMap xW,v.oneCell'=true:=by
 intro v hv;obtain⟨p,_,hp⟩:=bg.1 hv;simp only[xW,ay,aI,bK] at hp;rcases hp with rfl|rfl|rfl|rfl|rfl|rfl|rfl|rfl|rfl|rfl|rfl|rfl|rfl|rfl|rfl|rfl|rfl|rfl|rfl|rfl|rfl<;>rfl
structure TabAt(w:World)(gt:Nat)(f cl:Int)(T:List oO)(S:LN):Prop where
 ex: ∃a cap,S=gt::(a.map (·.block)).toList/\lQ w gt 233 #[U f,U cl,.slice a T.length cap]/\w.ownsRow 0 356 21 (.slice a T.length cap) T.length (T.flatMap xW)
section
variable{w w':World}{gt:Nat}{f cl:Int}{T:List oO}{S R:LN}
theorem TabAt.only(h:TabAt w gt f cl T S)(ho:Only R w w')(hn: ∀k∈S,k∉R):TabAt w' gt f cl T S:=by
 obtain⟨a,cap,hS,h1,h2⟩:=h.ex;refine⟨a,cap,hS,h1.only ho (hn _ (by simp[hS])),mK h2 ho fun g hg=>hn _ ?_⟩;rw[lV] at hg;simp[hS,hg]
theorem TabAt.below(h:TabAt w gt f cl T S)(hb:Be w w'):TabAt w' gt f cl T S:=h.only (Only.of_below (S:= []) hb) lT
theorem TabAt.lt(h:TabAt w gt f cl T S): ∀k∈S,k<w.heap.size:=by
 obtain⟨a,cap,hS,h1,h2⟩:=h.ex;intro k hk;rw[hS] at hk;simp only[ay,aJ] at hk;rcases hk with rfl|hk
 ·exact h1.lt
 exact(dG h2 k (by rw[lV];exact hk)).2
theorem TabAt.line(h:TabAt w gt f cl T S){d:oO}(hd:T[k]?=some d): ∃ga cap,S= [gt,ga]/\lQ w gt 233 #[U f,U cl,O ga T.length cap]/\Row w ga 356 21 T.length cap (T.flatMap xW)/\
  ∀j v,j<21->(xW d)[j]?=some v->J w ga (k*21+j) v:=by
 obtain⟨hk,e⟩:=ah.1 hd;obtain⟨a,cap,hS,h1,h2⟩:=h.ex;rcases h2.2 with⟨hv,h0⟩|⟨g,cap',cur,hv,hr⟩
 ·omega
 injection hv with e1 e2 e3;subst e1;refine⟨g,cap,by simpa using hS,h1,Row.sG h2,fun j v hj hv=>(Row.sG h2).cell (nT xW 21 He T k j hj hk v (by rw[e];exact hv))⟩
end
section
variable{w w':World}{gt:Nat}{f cl:Int}{T:List oO}{S:LN}
theorem JR(h:TabAt w gt f cl T S)(hT:T.length<=64)(r:Rq)(k0:Nat)(hk0:k0<=T.length)(hlo: ∀j d,j<k0->T[j]?=some d->zT d.r r= -1)(is:Bool)(hhi:(is=true/\ ∃d,T[k0]?=some d/\d.r=r)\/(is=false/\k0=T.length)):
  Y 233 #[gt,Kh r] w fun e w'=>e= .returned (.tuple #[U k0,is])/\Be w w':=by
 obtain⟨y0,y1,y2,y3,y4,y5⟩:=r;obtain⟨H,HLO,HHI⟩:=j3 h hlo hhi;obtain⟨a0,cap,-,hblk,-⟩:=h.ex;have BT:=jj hblk;obtain⟨n0,hn0⟩:=ex T.length;rw[<-hn0] at BT hT hk0;have AZ:=jj hn0;clear h hlo hhi hblk hn0;show Y 233 #[gt,.agg #[U y0,U y1,U y2,U y3,U y4,U y5]] w _;go_enter func233,ntmps233
 go_upto_region 1 with fail
 generalize hw1:w.alloc _=w1;generalize hg3:w.heap.size=g3;replace hw1:=hw1.symm;replace hg3:=hg3.symm;obtain⟨B1,BX⟩:=nw hw1 hg3;clear hw1 hg3
 go_wp2_with fail
 go_loopw [6] (fun j wr=> ∃k:Nat,k<=k0/\j= U k/\Be w1 wr) (fun j _=>k0 -(intOf j).toNat)
 case atStart=>exact⟨0,lK,rfl,aC _ _⟩
 case round=>
  obtain⟨k,hk,rfl,hb⟩:=hrel;have BL:=jj hb;have BW:=nO B1 hb;clear hb;have HW:=jj (H.below BW);have VL:(0:Int)<=k:=lK
  go_upto_region 2 with fail
  by_cases hkn:k<n0
  ·have i1:(k:Int)<n0:=lK
   have d1:decide ((k:Int)<n0)=true:=aZ i1;have d2:decide (k<n0)=true:=aZ hkn;obtain⟨d,hd⟩: ∃d,T[k]?=some d:=⟨_,aj (by rw[<-AZ.out];exact hkn)⟩;obtain⟨ga,cap',hS,hbk,hrow,hcell⟩:=HW.line hd;obtain⟨rfl,rfl⟩:a0=some ⟨ga,0,none⟩/\cap=cap':=by
    have e1:=(BT.below BW BT.lt).cell 2;have e2:=hbk.cell 2;rw[e1] at e2;simp at e2;exact⟨e2.1,e2.2.2⟩
   have HD:=jj hd;obtain⟨td,nX,rd,sc⟩:=d;obtain⟨x0,x1,x2,x3,x4,x5⟩:=td;have KS: ∀w',Be wr w'->J w' gt 2 (O ga n0 cap)/\J w' ga (k*21) (U x0)/\J w' ga (k*21+1) (U x1)/\J w' ga (k*21+2) (U x2)/\J w' ga (k*21+3) (U x3)/\J w' ga (k*21+4) (U x4)/\J w' ga (k*21+5) (U x5)/\J w' g3 0 (U y0)/\J w' g3 1 (U y1)/\J w' g3 2 (U y2)/\J w' g3 3 (U y3)/\J w' g3 4 (U y4)/\J w' g3 5 (U y5):=fun w' o=>by
    have u:=(BT.below BW BT.lt).below o (BT.below BW BT.lt).lt;have v:=(BX.below BL BX.lt).below o (BX.below BL BX.lt).lt;exact⟨u.cell 2,kept o _ _ (hcell 0 _ lK rfl),kept o _ _ (hcell 1 _ lK rfl),kept o _ _ (hcell 2 _ lK rfl),kept o _ _ (hcell 3 _ lK rfl),kept o _ _ (hcell 4 _ lK rfl),kept o _ _ (hcell 5 _ lK rfl),v.cell 0,v.cell 1,v.cell 2,v.cell 3,v.cell 4,v.cell 5⟩
   clear hcell hrow hbk hS hd;by_cases hkk:k<k0
   ·have CM:Hid (zT (x0,x1,x2,x3,x4,x5) (y0,y1,y2,y3,y4,y5)= -1):=jj (HLO.out k _ hkk HD)
    have e0:IntKind.i64.wrap ((k:Int)+1)=(k:Int)+1:=aH _ lK;refine rP (fun w'=>J w' gt 2 (O ga n0 cap)/\J w' ga (k*21) (U x0)/\J w' ga (k*21+1) (U x1)/\J w' ga (k*21+2) (U x2)/\J w' ga (k*21+3) (U x3)/\J w' ga (k*21+4) (U x4)/\J w' ga (k*21+5) (U x5)/\J w' g3 0 (U y0)/\J w' g3 1 (U y1)/\J w' g3 2 (U y2)/\J w' g3 3 (U y3)/\J w' g3 4 (U y4)/\J w' g3 5 (U y5)) 20 (tk 0 17 (.one 17 (.take 18 (.take 19 .done)))) (KS _ (aC _ _).drew) ?_;intro hS0
    repeat(first|refine' tT ?_|refine' tS ?_)
    refine pO fun KT lS=> ?_;go_simp;refine(Cy _ (x0,x1,x2,x3,x4,x5) (y0,y1,y2,y3,y4,y5) (-1) CM).mono ?_;rintro e w3 ⟨rfl,hb3⟩;have BB:=jj ((aC wr.heap.size wr).drew.trans hb3);have BL3:=jj (BL.trans (BB.mono BL.size));have S3:=KS _ BB;clear hb3;refine oH lS S3 ?_;clear hS0;have hS0:=S3
    repeat(first|refine' tT ?_|refine' tS ?_)
    refine lM ?_;clear hS0 S3 KS
    go_wp2_with fail
    go_roundw
    case rel=>exact⟨k+1,lK,by go_num,BL3⟩
    simp[intOf];omega
   obtain rfl:k=k0:=lK;obtain⟨rfl,hxy⟩:is=true/\((x0,x1,x2,x3,x4,x5):Rq)=(y0,y1,y2,y3,y4,y5):=by
    rcases HHI.out with⟨h1,d',h2,h3⟩|⟨h1,h2⟩
    ·rw[HD.out] at h2
     injection h2 with h2;exact⟨h1,by rw[<-h3,<-h2]⟩
    have:=AZ.out;omega
   simp only[aM] at hxy;obtain⟨rfl,rfl,rfl,rfl,rfl,rfl⟩:=hxy;have CM:Hid (zT (x0,x1,x2,x3,x4,x5) (x0,x1,x2,x3,x4,x5)=0):=jj (Xy _);refine rP (fun w'=>J w' gt 2 (O ga n0 cap)/\J w' ga (k*21) (U x0)/\J w' ga (k*21+1) (U x1)/\J w' ga (k*21+2) (U x2)/\J w' ga (k*21+3) (U x3)/\J w' ga (k*21+4) (U x4)/\J w' ga (k*21+5) (U x5)/\J w' g3 0 (U x0)/\J w' g3 1 (U x1)/\J w' g3 2 (U x2)/\J w' g3 3 (U x3)/\J w' g3 4 (U x4)/\J w' g3 5 (U x5)) 20 (tk 0 17 (.one 17 (.take 18 (.take 19 .done)))) (KS _ (aC _ _).drew) ?_;intro hS0
   repeat(first|refine' tT ?_|refine' tS ?_)
   refine pO fun KT lS=> ?_;go_simp;refine(Cy _ (x0,x1,x2,x3,x4,x5) (x0,x1,x2,x3,x4,x5) 0 CM).mono ?_;rintro e w3 ⟨rfl,hb3⟩;have BB:=jj ((aC wr.heap.size wr).drew.trans hb3);have BW3:=jj (BW.trans (BB.mono BW.size));have S3:=KS _ BB;clear hb3;refine oH lS S3 ?_;clear hS0;have hS0:=S3
   repeat(first|refine' tT ?_|refine' tS ?_)
   refine lM ?_;clear hS0 S3
   go_upto_region 4 with fail
   refine rP (fun w'=>J w' gt 2 (O ga n0 cap)/\J w' ga (k*21) (U x0)/\J w' ga (k*21+1) (U x1)/\J w' ga (k*21+2) (U x2)/\J w' ga (k*21+3) (U x3)/\J w' ga (k*21+4) (U x4)/\J w' ga (k*21+5) (U x5)/\J w' g3 0 (U x0)/\J w' g3 1 (U x1)/\J w' g3 2 (U x2)/\J w' g3 3 (U x3)/\J w' g3 4 (U x4)/\J w' g3 5 (U x5)) 22 (tk 0 22 .done) (KS _ BB.drew) ?_;intro hS0
   repeat(first|refine' tT ?_|refine' tS ?_)
   refine lM ?_;clear hS0 KS
   go_wp2_with fail
   go_ret2
   exact⟨by trivial,BW3.drew⟩
  have i1: ¬(k:Int)<n0:=lK;have d1:decide ((k:Int)<n0)=false:=aR i1;have d2:decide (k<n0)=false:=aR hkn;obtain⟨rfl,hke⟩:k=k0/\k=n0:=lK;obtain rfl:is=false:=by
   rcases HHI.out with⟨h1,d',h2,h3⟩|⟨h1,h2⟩
   ·have:=(ah.1 h2).1
    have:=AZ.out;omega
   exact h1
  have KS: ∀w',Be wr w'->J w' gt 2 (.slice a0 n0 cap):=fun w' o=>((BT.below BW BT.lt).below o (BT.below BW BT.lt).lt).cell 2;clear hke;refine rP (fun w'=>J w' gt 2 (.slice a0 n0 cap)) 20 (tk 0 17 (.one 17 (.take 18 (.take 19 .done)))) (KS _ (aC _ _).drew) ?_;intro hS0
  repeat(first|refine' tT ?_|refine' tS ?_)
  refine pO fun KT lS=> ?_;go_simp;refine oH lS hS0 ?_
  repeat(first|refine' tT ?_|refine' tS ?_)
  refine lM ?_;clear hS0
  go_upto_region 4 with fail
  refine rP (fun w'=>J w' gt 2 (.slice a0 n0 cap)) 22 (tk 0 22 .done) (KS _ ((aC _ _).drew).drew) ?_;intro hS0
  repeat(first|refine' tT ?_|refine' tS ?_)
  refine lM ?_;clear hS0 KS
  go_wp2_with fail
  go_ret2
  exact⟨by trivial,(BW.drew).drew⟩
end
section
variable{w w':World}{gt:Nat}{f cl:Int}{T:List oO}{S:LN}
structure AtR(T:List oO)(r:Rq)(k:Nat)(is:Bool):Prop where
 le:k<=T.length
 lo: ∀j d,j<k->T[j]?=some d->zT d.r r= -1
 hi:(is=true/\ ∃d,T[k]?=some d/\d.r=r)\/(is=false/\k=T.length)
theorem AtR.yes{r:Rq}(h:AtR T r k true): ∃d,T[k]?=some d/\d.r=r:=by
 rcases h.hi with⟨_,h⟩|⟨h,_⟩
 ·exact h
 cases h
theorem acj(h:TabAt w gt f cl T S)(hT:T.length<=64)(r:Rq)(k:Nat)(ha:AtR T r k true)(j:Nat)(hj:j<13)(b:Bool)(hb: ∀d,T[k]?=some d->d.nX j=b):
  Y 176 #[gt,Kh r,U j] w fun e w'=>e= .returned b/\Be w w':=by
 have HB:=jj hb;clear hb;obtain⟨y0,y1,y2,y3,y4,y5⟩:=r;have H:=jj h;have HA:=jj ha;clear h ha;show Y 176 #[gt,.agg #[U y0,U y1,U y2,U y3,U y4,U y5],U j] w _;go_enter func176,ntmps176
 go_upto_region 1 with fail
 generalize hw1:w.alloc _=w1;generalize hg3:w.heap.size=g3;replace hw1:=hw1.symm;replace hg3:=hg3.symm;obtain⟨B1,BX⟩:=nw hw1 hg3;clear hw1 hg3;obtain⟨d0,d1,d2,d3,d4,d5⟩:=BX.a6
 go_wp2_with fail
 refine(JR (H.below B1) hT (y0,y1,y2,y3,y4,y5) k HA.le HA.lo true HA.hi).mono ?_;rintro e w2 ⟨rfl,hb⟩;have B2:=nO B1 hb;clear hb d0 d1 d2 d3 d4 d5;obtain⟨d,hd,-⟩:=HA.yes;have HD:=jj hd;obtain⟨ga,cap,hS,hbk,hrow,hcell⟩:=(H.below B2).line hd;have c2:=hbk.at_ 2;obtain⟨n0,hn0⟩:=ex T.length;have hk:k<n0:=by rw[hn0];exact(ah.1 hd).1
 rw[<-hn0] at c2 hT;have VL:(0:Int)<=k:=lK;have i1:(k:Int)<n0:=lK;have cj:J w2 ga (k*21+6+j) b:=by
  rw[dL,<-HB.out d hd];refine hcell (6+j) _ lK ?_
  match j,hj with
  |0,_|1,_|2,_|3,_|4,_|5,_|6,_|7,_|8,_|9,_|10,_|11,_|12,_=>rfl
 clear hcell hrow hbk hS hd hn0
 go_wp2_with fail
 refine(ahR _ ga (k*21+6) j hj (j:Int) rfl b cj).mono ?_;rintro e w' ⟨rfl,rfl⟩
 go_wp2_with fail
 go_ret;exact⟨by trivial,B2⟩
theorem aeQ(h:TabAt w gt f cl T S)(hT:T.length<=64)(r:Rq)(k:Nat)(ha:AtR T r k false)(j:Int):
  Y 176 #[gt,Kh r,U j] w fun e w'=>e= .returned false/\Be w w':=by
 obtain⟨y0,y1,y2,y3,y4,y5⟩:=r;have H:=jj h;have HA:=jj ha;clear h ha;show Y 176 #[gt,.agg #[U y0,U y1,U y2,U y3,U y4,U y5],U j] w _;go_enter func176,ntmps176
 go_upto_region 1 with fail
 generalize hw1:w.alloc _=w1;generalize hg3:w.heap.size=g3;replace hw1:=hw1.symm;replace hg3:=hg3.symm;obtain⟨B1,BX⟩:=nw hw1 hg3;clear hw1 hg3;obtain⟨d0,d1,d2,d3,d4,d5⟩:=BX.a6
 go_wp2_with fail
 refine(JR (H.below B1) hT (y0,y1,y2,y3,y4,y5) k HA.le HA.lo false HA.hi).mono ?_;rintro e w2 ⟨rfl,hb⟩;have B2:=nO B1 hb;clear hb d0 d1 d2 d3 d4 d5
 go_wp2_with fail
 go_ret;exact⟨by trivial,B2⟩
theorem UO(h:TabAt w gt f cl T S)(hT:T.length<=64)(r:Rq)(k:Nat)(ha:AtR T r k true)(z:Int)(hz: ∀d,T[k]?=some d->d.ready=true/\d.since=z):
  Y 181 #[gt,Kh r] w fun e w'=>e= .returned (.tuple #[U z,true])/\Be w w':=by
 have HZ:=jj hz;clear hz;obtain⟨y0,y1,y2,y3,y4,y5⟩:=r;have H:=jj h;have HA:=jj ha;clear h ha;show Y 181 #[gt,.agg #[U y0,U y1,U y2,U y3,U y4,U y5]] w _;go_enter func181,ntmps181
 go_upto_region 1 with fail
 generalize hw1:w.alloc _=w1;generalize hg3:w.heap.size=g3;replace hw1:=hw1.symm;replace hg3:=hg3.symm;obtain⟨B1,BX⟩:=nw hw1 hg3;clear hw1 hg3;obtain⟨d0,d1,d2,d3,d4,d5⟩:=BX.a6
 go_wp2_with fail
 refine(JR (H.below B1) hT (y0,y1,y2,y3,y4,y5) k HA.le HA.lo true HA.hi).mono ?_;rintro e w2 ⟨rfl,hb⟩;have B2:=nO B1 hb;clear hb d0 d1 d2 d3 d4 d5;obtain⟨d,hd,-⟩:=HA.yes;have HD:=jj hd;obtain⟨ga,cap,hS,hbk,hrow,hcell⟩:=(H.below B2).line hd;have c2:=hbk.at_ 2;obtain⟨n0,hn0⟩:=ex T.length;have hk:k<n0:=by rw[hn0];exact(ah.1 hd).1
 rw[<-hn0] at c2 hT;have VL:(0:Int)<=k:=lK;have i1:(k:Int)<n0:=lK;have cr:J w2 ga (k*21+19) true:=by rw[<-(HZ.out d hd).1];exact hcell 19 _ lK rfl
 have cs:J w2 ga (k*21+20) (U z):=by rw[<-(HZ.out d hd).2];exact hcell 20 _ lK rfl
 clear hcell hrow hbk hS hd hn0
 go_wp2_with fail
 go_ret2
 exact⟨by trivial,B2⟩
theorem JW(h:TabAt w gt f cl T S)(hT:T.length<=64)(r:Rq)(k:Nat)(ha:AtR T r k true)(hz: ∀d,T[k]?=some d->d.ready=false):
  Y 181 #[gt,Kh r] w fun e w'=>e= .returned (.tuple #[U 0,false])/\Be w w':=by
 have HZ:=jj hz;clear hz;obtain⟨y0,y1,y2,y3,y4,y5⟩:=r;have H:=jj h;have HA:=jj ha;clear h ha;show Y 181 #[gt,.agg #[U y0,U y1,U y2,U y3,U y4,U y5]] w _;go_enter func181,ntmps181
 go_upto_region 1 with fail
 generalize hw1:w.alloc _=w1;generalize hg3:w.heap.size=g3;replace hw1:=hw1.symm;replace hg3:=hg3.symm;obtain⟨B1,BX⟩:=nw hw1 hg3;clear hw1 hg3;obtain⟨d0,d1,d2,d3,d4,d5⟩:=BX.a6
 go_wp2_with fail
 refine(JR (H.below B1) hT (y0,y1,y2,y3,y4,y5) k HA.le HA.lo true HA.hi).mono ?_;rintro e w2 ⟨rfl,hb⟩;have B2:=nO B1 hb;clear hb d0 d1 d2 d3 d4 d5;obtain⟨d,hd,-⟩:=HA.yes;have HD:=jj hd;obtain⟨ga,cap,hS,hbk,hrow,hcell⟩:=(H.below B2).line hd;have c2:=hbk.at_ 2;obtain⟨n0,hn0⟩:=ex T.length;have hk:k<n0:=by rw[hn0];exact(ah.1 hd).1
 rw[<-hn0] at c2 hT;have VL:(0:Int)<=k:=lK;have i1:(k:Int)<n0:=lK;have cr:J w2 ga (k*21+19) false:=by rw[<-HZ.out d hd];exact hcell 19 _ lK rfl
 clear hcell hrow hbk hS hd hn0
 go_wp2_with fail
 go_ret2
 exact⟨by trivial,B2⟩
theorem YF(h:TabAt w gt f cl T S)(hT:T.length<=64)(r:Rq)(k:Nat)(ha:AtR T r k false):
  Y 181 #[gt,Kh r] w fun e w'=>e= .returned (.tuple #[U 0,false])/\Be w w':=by
 obtain⟨y0,y1,y2,y3,y4,y5⟩:=r;have H:=jj h;have HA:=jj ha;clear h ha;show Y 181 #[gt,.agg #[U y0,U y1,U y2,U y3,U y4,U y5]] w _;go_enter func181,ntmps181
 go_upto_region 1 with fail
 generalize hw1:w.alloc _=w1;generalize hg3:w.heap.size=g3;replace hw1:=hw1.symm;replace hg3:=hg3.symm;obtain⟨B1,BX⟩:=nw hw1 hg3;clear hw1 hg3;obtain⟨d0,d1,d2,d3,d4,d5⟩:=BX.a6
 go_wp2_with fail
 refine(JR (H.below B1) hT (y0,y1,y2,y3,y4,y5) k HA.le HA.lo false HA.hi).mono ?_;rintro e w2 ⟨rfl,hb⟩;have B2:=nO B1 hb;clear hb d0 d1 d2 d3 d4 d5
 go_wp2_with fail
 go_ret2
 exact⟨by trivial,B2⟩
theorem RJ(h:TabAt w gt f cl T S)(hT:T.length<=64):
  Y 167 #[gt] w fun e w'=>(∃a m c,e= .returned (.slice a m c)/\((T.filter oO.ready).map oO.r).length=m/\w'.ownsRow w.heap.size 49 6 (.slice a m c) m (((T.filter oO.ready).map oO.r).flatMap rA))/\Be w w':=by
 obtain⟨i0,hi0,hz0,hz1,hz2⟩:=bq rT;have H:=jj h;obtain⟨a0,cap,-,hblk,-⟩:=h.ex;have BT:=jj hblk;obtain⟨n0,hn0⟩:=ex T.length;rw[<-hn0] at BT hT;have AZ:=jj hn0;have c2:=BT.at_ 2;clear h hblk hn0;go_enter func167,ntmps167
 go_wp2_with fail
 clear c2
 go_loopw [3,11] (fun q j wr=> ∃k:Nat,k<=n0/\j= U k/\(∃a m c,q= .slice a m c/\(((T.take k).filter oO.ready).map oO.r).length=m/\wr.ownsRow w.heap.size 49 6 (.slice a m c) m ((((T.take k).filter oO.ready).map oO.r).flatMap rA))/\Be w wr) (fun _ j _=>n0 -(intOf j).toNat)
 case atStart=>exact⟨0,lK,rfl,⟨none,0,0,rfl,rfl,⟨lT,.inl ⟨rfl,rfl⟩⟩⟩,aC _ _⟩
 case round=>
  obtain⟨k,hk,rfl,⟨a,m,c,rfl,hm,ho⟩,hb⟩:=hrel;obtain⟨BW,HO,HM⟩:=j3 hb ho hm;have mle:m<=64:=by rw[<-hm];rw[aT];exact aG (fB _ _) (by rw[cO];have:=AZ.out;omega)
  clear hb ho hm;by_cases hlt:k<n0
  ·have VL:(0:Int)<=k:=lK
   have i1:(k:Int)<n0:=lK;have e0:IntKind.i64.wrap ((k:Int)+1)=(k:Int)+1:=aH _ lK;have HW:=jj (H.below BW);have hkl:k<T.length:=by rw[<-AZ.out];exact hlt
   obtain⟨d,hd⟩: ∃d,T[k]?=some d:=⟨_,aj hkl⟩;have TK:Hid (T.take (k+1)=T.take k++ [d]):=jj (by rw[fM,hd];rfl);obtain⟨ga,cap',hS,hbk,hrow,hcell⟩:=HW.line hd;obtain⟨rfl,rfl⟩:a0=some ⟨ga,0,none⟩/\cap=cap':=by
    have e1:=(BT.below BW BT.lt).cell 2;have e2:=hbk.cell 2;rw[e1] at e2;simp at e2;exact⟨e2.1,e2.2.2⟩
   obtain⟨td,nX,rd,sc⟩:=d;obtain⟨x0,x1,x2,x3,x4,x5⟩:=td;obtain⟨L,hL⟩:=ex (xW ⟨(x0,x1,x2,x3,x4,x5),nX,rd,sc⟩);have SZ:Hid (L.length=21):=jj (by rw[hL];rfl);have Vi:Hid (L.toArray.size=21):=jj (by rw[hL];rfl);have LO:Hid (L.toArray.all (·.oneCell')=true):=jj (iN (by rw[hL];simpa using xq [⟨(x0,x1,x2,x3,x4,x5),nX,rd,sc⟩]));have LO2:Hid (∀v∈L,v.oneCell'=true):=jj (by rw[hL];simpa using xq [⟨(x0,x1,x2,x3,x4,x5),nX,rd,sc⟩]);have RG:Hid (wr.rangeAt ga (k*21) L):=jj (fun j v hv=>hcell j v (by have:=(ah.1 hv).1;rw[hL] at this;exact this) (by rw[<-hL];exact hv));have HL:=jj hL;clear hL;have sJ:Hid (k+1<=n0):=jj hlt;clear hcell hrow hbk hS hd hkl hlt hk
   go_upto_region 5 with(first
    |(refine kF rfl 356 (.tmp 13) rfl ga (k*21) rfl L _ RG underlying356 rfl (by rw[SZ.out];kernel_rfl) ?_;try simp only[Act.put])
    |(refine jo rfl 356 (.tmp 5) (.tmp 14) rfl wr.heap.size L.toArray rfl rfl 356 _ (lQ.new _ _ _) (by rw[Vi.out];kernel_rfl) (by rw[Vi.out];kernel_rfl) LO ?_;rw[World.setRow_alloc_new];try simp only[Act.put]))
   obtain⟨w9,mE⟩:=ex (wr.alloc (.cells L.toArray 356));obtain⟨g9,vE⟩:=ex wr.heap.size;rw[<-mE,<-vE];have X9:=xNew mE vE;have Gy:=GN BW mE;have YS:Hid (w9.ownsRow w.heap.size 49 6 (.slice a m c) m ((((T.take k).filter oO.ready).map oO.r).flatMap rA)):=jj (by rw[mE];exact own_below HO nC);clear mE vE;have p19:J w9 g9 19 rd:=(X9.cell 19).trans (by rw[HL.out];rfl)
   cases rd with
   |false=>
    have ST:Hid (((T.take (k+1)).filter oO.ready).map oO.r=((T.take k).filter oO.ready).map oO.r):=jj (by rw[TK.out,fV];simp)
    go_wp2_with fail
    go_roundw
    case rel=>exact⟨k+1,sJ,by go_num,⟨a,m,c,by trivial,by rw[ST.out];exact HM.out,by rw[ST.out];exact YS.out⟩,Gy⟩
    have:=sJ.out;simp[intOf];omega
   |true=>
    have ST:Hid (((T.take (k+1)).filter oO.ready).map oO.r=((T.take k).filter oO.ready).map oO.r++ [(x0,x1,x2,x3,x4,x5)]):=jj (by rw[TK.out,fV];simp);have p0:J w9 g9 0 (U x0):=(X9.cell 0).trans (by rw[HL.out];rfl);have p1:J w9 g9 1 (U x1):=(X9.cell 1).trans (by rw[HL.out];rfl);have p2:J w9 g9 2 (U x2):=(X9.cell 2).trans (by rw[HL.out];rfl);have p3:J w9 g9 3 (U x3):=(X9.cell 3).trans (by rw[HL.out];rfl);have p4:J w9 g9 4 (U x4):=(X9.cell 4).trans (by rw[HL.out];rfl);have p5:J w9 g9 5 (U x5):=(X9.cell 5).trans (by rw[HL.out];rfl)
    go_wp2_with(first|(at_builtin;refine lZ rfl _ _ _ rfl w.heap.size 49 i0 _ 6 48 underlying46 hi0 hz0 hz1 hz2 rfl lK a m c ((((T.take k).filter oO.ready).map oO.r).flatMap rA) rfl (own_below YS nC) (some ⟨w9.heap.size,0,none⟩) 1 1 (rA (x0,x1,x2,x3,x4,x5)) rfl (mo.nR (n:=1) (s:=6) (lQ.new w9 49 #[U x0,U x1,U x2,U x3,U x4,U x5]) rfl) (by intro u hu;simp[rA] at hu;rcases hu with rfl|rfl|rfl|rfl|rfl|rfl<;>rfl) (by unfold maxLen;omega) lK (by have:=Gy.size;simp;omega) ?_;intro a6 c6 w6 h6;have H6:=jj h6;clear h6))
    have B6:Hid (Be w w6):=jj (H6.below (own_below YS nC) (Gy.alloc Gy.size _) (aF _) (by have:=Gy.size;simp;omega));have O6:Hid (w6.ownsRow w.heap.size 49 6 (.slice a6 (m+1) c6) (m+1) ((((T.take (k+1)).filter oO.ready).map oO.r).flatMap rA)):=jj (by
     have:=H6.own;rw[ST.out,bS];simpa using this)
    have M6:Hid ((((T.take (k+1)).filter oO.ready).map oO.r).length=m+1):=jj (by rw[ST.out,av,HM.out];rfl)
    try go_wp2_with fail
    go_roundw
    case rel=>exact⟨k+1,sJ,by go_num,⟨a6,m+1,c6,by trivial,M6,O6⟩,B6⟩
    have:=sJ.out;simp[intOf];omega
  have i1: ¬(k:Int)<n0:=lK;have TE:Hid (T.take k=T):=jj (dB (by rw[<-AZ.out];omega));rw[TE.out] at HM HO
  go_wp2_with fail
  go_ret;exact⟨⟨a,m,c,by trivial,by simpa using HM.out,HO⟩,BW⟩
theorem aeO(h:TabAt w gt f cl T S)(hT:T.length<=64):
  Y 175 #[gt] w fun e w'=>(∃a m c,e= .returned (.slice a m c)/\(T.map oO.r).length=m/\w'.ownsRow w.heap.size 49 6 (.slice a m c) m ((T.map oO.r).flatMap rA))/\Be w w':=by
 obtain⟨i0,hi0,hz0,hz1,hz2⟩:=bq rT;have H:=jj h;obtain⟨a0,cap,-,hblk,-⟩:=h.ex;have BT:=jj hblk;obtain⟨n0,hn0⟩:=ex T.length;rw[<-hn0] at BT hT;have AZ:=jj hn0;have c2:=BT.at_ 2;clear h hblk hn0;go_enter func175,ntmps175
 go_wp2_with fail
 clear c2
 go_loopw [3,11] (fun q j wr=> ∃k:Nat,k<=n0/\j= U k/\(∃a m c,q= .slice a m c/\((T.take k).map oO.r).length=m/\wr.ownsRow w.heap.size 49 6 (.slice a m c) m (((T.take k).map oO.r).flatMap rA))/\Be w wr) (fun _ j _=>n0 -(intOf j).toNat)
 case atStart=>exact⟨0,lK,rfl,⟨none,0,0,rfl,rfl,⟨lT,.inl ⟨rfl,rfl⟩⟩⟩,aC _ _⟩
 case round=>
  obtain⟨k,hk,rfl,⟨a,m,c,rfl,hm,ho⟩,hb⟩:=hrel;obtain⟨BW,HO,HM⟩:=j3 hb ho hm;have mle:m<=64:=by rw[<-hm];rw[aT,cO];have:=AZ.out;omega
  clear hb ho hm;by_cases hlt:k<n0
  ·have VL:(0:Int)<=k:=lK
   have i1:(k:Int)<n0:=lK;have e0:IntKind.i64.wrap ((k:Int)+1)=(k:Int)+1:=aH _ lK;have HW:=jj (H.below BW);have hkl:k<T.length:=by rw[<-AZ.out];exact hlt
   obtain⟨d,hd⟩: ∃d,T[k]?=some d:=⟨_,aj hkl⟩;have TK:Hid (T.take (k+1)=T.take k++ [d]):=jj (by rw[fM,hd];rfl);obtain⟨ga,cap',hS,hbk,hrow,hcell⟩:=HW.line hd;obtain⟨rfl,rfl⟩:a0=some ⟨ga,0,none⟩/\cap=cap':=by
    have e1:=(BT.below BW BT.lt).cell 2;have e2:=hbk.cell 2;rw[e1] at e2;simp at e2;exact⟨e2.1,e2.2.2⟩
   obtain⟨td,nX,rd,sc⟩:=d;obtain⟨x0,x1,x2,x3,x4,x5⟩:=td;obtain⟨L,hL⟩:=ex (xW ⟨(x0,x1,x2,x3,x4,x5),nX,rd,sc⟩);have SZ:Hid (L.length=21):=jj (by rw[hL];rfl);have Vi:Hid (L.toArray.size=21):=jj (by rw[hL];rfl);have LO:Hid (L.toArray.all (·.oneCell')=true):=jj (iN (by rw[hL];simpa using xq [⟨(x0,x1,x2,x3,x4,x5),nX,rd,sc⟩]));have LO2:Hid (∀v∈L,v.oneCell'=true):=jj (by rw[hL];simpa using xq [⟨(x0,x1,x2,x3,x4,x5),nX,rd,sc⟩]);have RG:Hid (wr.rangeAt ga (k*21) L):=jj (fun j v hv=>hcell j v (by have:=(ah.1 hv).1;rw[hL] at this;exact this) (by rw[<-hL];exact hv));have HL:=jj hL;clear hL;have sJ:Hid (k+1<=n0):=jj hlt;clear hcell hrow hbk hS hd hkl hlt hk
   go_upto_region 5 with(first
    |(refine kF rfl 356 (.tmp 13) rfl ga (k*21) rfl L _ RG underlying356 rfl (by rw[SZ.out];kernel_rfl) ?_;try simp only[Act.put])
    |(refine jo rfl 356 (.tmp 5) (.tmp 14) rfl wr.heap.size L.toArray rfl rfl 356 _ (lQ.new _ _ _) (by rw[Vi.out];kernel_rfl) (by rw[Vi.out];kernel_rfl) LO ?_;rw[World.setRow_alloc_new];try simp only[Act.put]))
   obtain⟨w9,mE⟩:=ex (wr.alloc (.cells L.toArray 356));obtain⟨g9,vE⟩:=ex wr.heap.size;rw[<-mE,<-vE];have X9:=xNew mE vE;have Gy:=GN BW mE;have YS:Hid (w9.ownsRow w.heap.size 49 6 (.slice a m c) m (((T.take k).map oO.r).flatMap rA)):=jj (by rw[mE];exact own_below HO nC);clear mE vE;have ST:Hid ((T.take (k+1)).map oO.r=(T.take k).map oO.r++ [(x0,x1,x2,x3,x4,x5)]):=jj (by rw[TK.out,bR];rfl);have p0:J w9 g9 0 (U x0):=(X9.cell 0).trans (by rw[HL.out];rfl);have p1:J w9 g9 1 (U x1):=(X9.cell 1).trans (by rw[HL.out];rfl);have p2:J w9 g9 2 (U x2):=(X9.cell 2).trans (by rw[HL.out];rfl);have p3:J w9 g9 3 (U x3):=(X9.cell 3).trans (by rw[HL.out];rfl);have p4:J w9 g9 4 (U x4):=(X9.cell 4).trans (by rw[HL.out];rfl);have p5:J w9 g9 5 (U x5):=(X9.cell 5).trans (by rw[HL.out];rfl)
   go_wp2_with(first|(at_builtin;refine lZ rfl _ _ _ rfl w.heap.size 49 i0 _ 6 48 underlying46 hi0 hz0 hz1 hz2 rfl lK a m c (((T.take k).map oO.r).flatMap rA) rfl (own_below YS nC) (some ⟨w9.heap.size,0,none⟩) 1 1 (rA (x0,x1,x2,x3,x4,x5)) rfl (mo.nR (n:=1) (s:=6) (lQ.new w9 49 #[U x0,U x1,U x2,U x3,U x4,U x5]) rfl) (by intro u hu;simp[rA] at hu;rcases hu with rfl|rfl|rfl|rfl|rfl|rfl<;>rfl) (by unfold maxLen;omega) lK (by have:=Gy.size;simp;omega) ?_;intro a6 c6 w6 h6;have H6:=jj h6;clear h6))
   have B6:Hid (Be w w6):=jj (H6.below (own_below YS nC) (Gy.alloc Gy.size _) (aF _) (by have:=Gy.size;simp;omega));have O6:Hid (w6.ownsRow w.heap.size 49 6 (.slice a6 (m+1) c6) (m+1) (((T.take (k+1)).map oO.r).flatMap rA)):=jj (by
    have:=H6.own;rw[ST.out,bS];simpa using this)
   have M6:Hid (((T.take (k+1)).map oO.r).length=m+1):=jj (by rw[ST.out,av,HM.out];rfl)
   try go_wp2_with fail
   go_roundw
   case rel=>exact⟨k+1,sJ,by go_num,⟨a6,m+1,c6,by trivial,M6,O6⟩,B6⟩
   have:=sJ.out;simp[intOf];omega
  have i1: ¬(k:Int)<n0:=lK;have TE:Hid (T.take k=T):=jj (dB (by rw[<-AZ.out];omega));rw[TE.out] at HM HO
  go_wp2_with fail
  go_ret;exact⟨⟨a,m,c,by trivial,by simpa using HM.out,HO⟩,BW⟩
theorem ahS(w:World)(f cl:Int)(h1:1<=f)(h4:f<=4)(hc:1<=cl/\cl<=4):
  Y 75 #[U f,U cl] w fun e w'=> ∃gt,e= .returned (.tuple #[(gt:Nat),U 0])/\TabAt w' gt f cl [] [gt]/\w.heap.size<=gt/\Be w w':=by
 have i1: ¬f<1:=lK;have i2: ¬4<f:=lK;have i3: ¬cl<1:=lK;have i4: ¬4<cl:=lK;go_enter func75,ntmps75
 go_wp2_with fail
 go_ret2
 exact⟨w.heap.size,by trivial,⟨none,0,rfl,lQ.new _ _ _,⟨rfl,.inl ⟨rfl,rfl⟩⟩⟩,aF _,nC⟩
end
end Go.Proofs.YtgnhecmnlddjhaaGreat
