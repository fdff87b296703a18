/- TopAlone, part 19 of 24: a proof squeezed by a program. -/
import Derived.Test.YtgnhecmnlddjhaaGreatZ16
import Derived.Maps.RangeWalk
set_option linter.unusedVariables false
set_option linter.unusedSimpArgs false
set_option linter.defProp false
set_option maxRecDepth 100000
set_option maxHeartbeats 6400000
namespace Go.Proofs.YtgnhecmnlddjhaaGreat
open Go.RowKit Go.Proofs.Tryz
variable{a:OA}{e gi m n s x:Nat}{f:Int}{i:tJ}{w:World}{ys:LV}
section
open Go.RowKit Go.Proofs.Tryz Go.Maps
open Go.ChangeMaps (setBlock heap_setBlock_same)
def Part(w:World)(m:Nat)(es:Array MapEntry)(seen:Array Nat):Prop:=
 ∃es' cl',w.heap[m]?=some (.map es' cl')/\(∀e'∈es'.toList,∃e∈es.toList,seen.contains e.born=true/\e'.key=e.key/\e'.val=e.val)/\(∀e∈es.toList,seen.contains e.born=true-> ∃e'∈es'.toList,e'.key=e.key)/\
  (∀e∈es'.toList,e.born<cl')/\(es'.toList.map (·.born)).Nodup/\(es'.toList.map (·.key)).Nodup
structure af2(K:List (Int×List Int))(es:Array MapEntry):Prop where
 size:es.size=K.length
 each: ∀e∈es.toList,∃(i:Nat) (q:Int×List Int),K[i]?=some q/\e.key=kv q/\e.val= U ((i:Int)+1)
 all: ∀q∈K,∃e∈es.toList,e.key=kv q
 ok: ∀q∈K,Ns q
 nd:K.Nodup
 n:K.length<=1048576
 keys:(es.toList.map (·.key)).Nodup
 ZV:(es.toList.map (·.born)).Nodup
theorem Js{α β:Type}{f:α->β}: ∀{l:List α},(l.map f).Nodup-> ∀{x y:α},x∈l->y∈l->f x=f y->x=y
 | [],_,x,y,hx,_,_=>by cases hx
 |z::l,h,x,y,hx,hy,e=>by
  rw[bV,List.nodup_cons] at h;rcases ay.1 hx with hxz|hx1
  ·rcases ay.1 hy with hyz|hy1
   ·rw[hxz,hyz]
   exact absurd (bM.2 ⟨y,hy1,by rw[<-e,hxz]⟩) h.1
  rcases ay.1 hy with hyz|hy1
  ·exact absurd (bM.2 ⟨x,hx1,by rw[e,hyz]⟩) h.1
  exact Js h.2 hx1 hy1 e
section
variable{w w':World}{b m:Nat}{K:List (Int×List Int)}{es:Array MapEntry}{seen:Array Nat}
theorem wM.ents(h:wM w b K): ∃es cl,w.heap[b]?=some (.map es cl)/\af2 K es/\ ∀e∈es.toList,e.born<cl:=by
 obtain⟨es,cl,hb,h1,h2,h3⟩:=h.ex;obtain⟨p1,p2,p3⟩:=h.born es cl hb;exact⟨es,cl,hb,⟨h1,h2,h3,h.ok,h.nd,h.n,p3,p2⟩,p1⟩
theorem Part.only{S:LN}(h:Part w m es seen)(hm:m<w.heap.size)(ho:Only S w w')(hn:m∉S):Part w' m es seen:=by
 obtain⟨es',cl',hb,h⟩:=h;exact⟨es',cl',by rw[ho.block m hm hn];exact hb,h⟩
theorem Part.done(h:Part w m es seen)(E:af2 K es)(h0:(leftOf es seen).size=0):wM w m K:=by
 obtain⟨es',cl',hb,h1,h2,h3,h4,h5⟩:=h;have hs:=all_seen es seen h0;refine⟨⟨es',cl',hb,?_,?_,?_⟩,E.ok,E.nd,E.n,?_⟩
 ·have hp:(es'.toList.map (·.key)).Perm (es.toList.map (·.key)):=(List.perm_ext_iff_of_nodup h5 E.keys).2 fun k=>by
   constructor
   ·intro hk
    obtain⟨e',he',rfl⟩:=bM.1 hk;obtain⟨e,he,_,e1,_⟩:=h1 e' he';exact bM.2 ⟨e,he,e1.symm⟩
   intro hk;obtain⟨e,he,rfl⟩:=bM.1 hk;obtain⟨e',he',e1⟩:=h2 e he (hs e he);exact bM.2 ⟨e',he',e1⟩
  have:=hp.length_eq;simpa[E.size] using this
 ·intro e' he'
  obtain⟨e,he,_,e1,e2⟩:=h1 e' he';obtain⟨i,q,h6,h7,h8⟩:=E.each e he;exact⟨i,q,h6,e1.trans h7,e2.trans h8⟩
 ·intro q hq
  obtain⟨e,he,e1⟩:=E.all q hq;obtain⟨e',he',e2⟩:=h2 e he (hs e he);exact⟨e',he',e2.trans e1⟩
 intro es2 cl2 hb2;rw[hb] at hb2;injection hb2 with hb2;injection hb2 with e1 e2;subst e1;subst e2;exact⟨h3,h4,h5⟩
theorem Part.put(h:Part w m es seen)(E:af2 K es){e:MapEntry}(he:e∈(leftOf es seen).toList):
  ∃w',(Instr.mapUpdate 153 (.map (some m)) e.key e.val).run prog w= .ok () w'/\Part w' m es (seen.push e.born)/\Only [m] w w':=by
 obtain⟨es',cl',hb,h1,h2,h3,h4,h5⟩:=h;obtain⟨hem,hes⟩:=mem_left he;have hkey: ∀x∈es.toList,∃l,keyOf prog 185 x.key=some l:=fun x hx=>by
  obtain⟨i,q,hi,hk,_⟩:=E.each x hx;rw[hk];exact Jh (E.ok q (ak hi))
 obtain⟨l,hl⟩:=hkey e hem;have hes': ∀x∈es'.toList,∃l,keyOf prog 185 x.key=some l:=fun x hx=>by
  obtain⟨y,hy,_,e1,_⟩:=h1 x hx;rw[e1];exact hkey y hy
 have hno: ∀x∈es'.toList,¬x.key=e.key:=fun x hx hk=>by
  obtain⟨y,hy,e0,e1,_⟩:=h1 x hx;obtain rfl:=Js E.keys hy hem (e1.symm.trans hk);rw[hes] at e0;cases e0
 rcases Uh.find w hl es'.toList hes' with⟨f1,f2⟩|⟨j,e0,f1,f2,f3⟩
 ·refine⟨setBlock w m (.map (es'.push ⟨e.key,e.val,cl'⟩) (cl'+1)),?_,⟨_,_,heap_setBlock_same hb _,?_,?_,?_,?_,?_⟩,sO _ _ _⟩
  ·simp[Instr.mapUpdate,fD underlying153,gL hb,Uh.check w false hl,f1,ku _ hb,Result.andThen,setBlock]
  ·intro x hx
   simp only[fK,aQ,au] at hx;rcases hx with hx|rfl
   ·obtain⟨y,hy,e0,e1,e2⟩:=h1 x hx
    exact⟨y,hy,by rw[lu,e0];rfl,e1,e2⟩
   exact⟨e,hem,by rw[lu];simp,rfl,rfl⟩
  ·intro x hx hs
   rw[lu] at hs;by_cases hxe:x.born=e.born
   ·obtain rfl:x=e:=Js E.ZV hx hem hxe
    exact⟨⟨x.key,x.val,cl'⟩,lT,rfl⟩
   have hs':seen.contains x.born=true:=by
    cases hc:seen.contains x.born with
    |true=>rfl
    |false=>rw[hc] at hs;simp[hxe] at hs
   obtain⟨y,hy,e1⟩:=h2 x hx hs';exact⟨y,by simp[hy],e1⟩
  ·intro x hx
   simp only[fK,aQ,au] at hx;rcases hx with hx|rfl
   ·exact Nat.lt_succ_of_lt (h3 x hx)
   exact Nat.lt_succ_self _
  ·rw[fK,bR,ig]
   refine⟨h4,lT,fun x hx y hy e=> ?_⟩;obtain⟨z,hz,rfl⟩:=bM.1 hx;simp only[bV,fu,au] at hy;have:=h3 z hz;omega
  rw[fK,bR,ig];refine⟨h5,lT,fun x hx y hy e=> ?_⟩;obtain⟨z,hz,rfl⟩:=bM.1 hx;simp only[bV,fu,au] at hy;exact hno z hz (by rw[e,hy])
 exact absurd f3 (hno e0 (ak f2))
end
section
variable{P:Program}(w:World){ops:Array Oper}{rest:List Oper}{o:Oper}{a:Act}{Q:Exit->Act->World->Prop}
theorem Fv (hg:o.guard=none) (m:Operand) (t:TypeId) (hop:o.op=Op.range t m) (k e:TypeId) (ht:P.underlying t=some (.map k e)) (b:Nat) (es:Array MapEntry) (cl:Nat)
  (hm:a.eval m= .map (some b)) (hb:w.heap[b]?=some (.map es cl))
  (hK:wpList P ops Q rest (a.put o.dst w.heap.size) (w.alloc (.mapIter (some b) cl #[] cl))):
  wpList P ops Q (o::rest) a w:=by
 refine kr hg fun K' hK'=> ?_;have hrun:=run_range_map (P:=P) w t k e b es cl ht hb;unfold Oper.wp;simp[execOp,hop,hm,hrun,Result.andThen];exact hK' _ _ hK
theorem Gx (hg:o.guard=none) (it:Operand) (hop:o.op=Op.next it false) (r bm since c0:Nat) (seen:Array Nat) (es:Array MapEntry) (clock:Nat)
  (hit:a.eval it= .pointer (some ⟨r,0,none⟩)) (hr:w.heap[r]?=some (.mapIter (some bm) since seen c0)) (hb:w.heap[bm]?=some (.map es clock)) (hold: ∀x∈es.toList,x.born<since) (hsc:since<=c0)
  (hn:(es.toList.map (·.born)).Nodup) (hne:bm≠r) (hsh: ∀e∈es.toList,∃p s v,e.key= .agg #[U p,.string s]/\e.val= U v)
  (hDone:(leftOf es seen).size=0->wpList P ops Q rest (a.put o.dst (.tuple #[false])) w)
  (hMore: ∀e p s v w',e∈(leftOf es seen).toList->e.key= .agg #[U p,.string s]->e.val= U v->w'.heap[r]?=some (.mapIter (some bm) since (seen.push e.born) clock)->Only [r] w w'->
   (Instr.entry r).run P w'= .ok (.tuple #[.agg #[U p,.string s],U v]) w'->wpList P ops Q rest (a.put o.dst (.tuple #[true,.agg #[U p,.string s],U v])) w'):
  wpList P ops Q (o::rest) a w:=by
 refine kr hg fun K' hK'=> ?_;unfold Oper.wp;rcases run_next_at (P:=P) w o.type r bm since c0 seen es clock hr hb hold hsc with⟨h0,hrun⟩|⟨e,he,w1,hal,hrun⟩
 ·simp[execOp,hop,hit,hrun,Result.andThen]
  exact hK' _ _ (hDone h0)
 obtain⟨hem,hes⟩:=mem_left he;obtain⟨p,s,v,e1,e2⟩:=hsh e hem;have hr1:w1.heap[r]?=some (.mapIter (some bm) since seen c0):=by rcases hal with rfl|rfl<;>exact hr
 have hb1:w1.heap[bm]?=some (.map es clock):=by rcases hal with rfl|rfl<;>exact hb
 have ho:Only [r] w (setBlock w1 r (.mapIter (some bm) since (seen.push e.born) clock)):=by
  rcases hal with rfl|rfl
  ·exact sO _ _ _
  exact(Only.refl _ _).drew.trans (sO _ _ _)
 have hr2:(setBlock w1 r (.mapIter (some bm) since (seen.push e.born) clock)).heap[r]?=some (.mapIter (some bm) since (seen.push e.born) clock):=(MapKept.heap_set hr1).1;have hlt:bm<w1.heap.size:=by
  rcases iZ bm w1.heap.size with hlt|hge
  ·exact hlt
  rw[gK hge] at hb1;cases hb1
 have hb2:(setBlock w1 r (.mapIter (some bm) since (seen.push e.born) clock)).heap[bm]?=some (.map es clock):=by
  rw[(sO w1 r _).block bm hlt (mR hne)];exact hb1
 have hen:=run_entry_at (P:=P) _ r bm since seen es clock e hr2 hb2 hem hn;rw[e1,e2] at hen;simp[execOp,hop,hit,hrun,Result.andThen,e1,e2];exact hK' _ _ (hMore e p s v _ he e1 e2 hr2 ho hen)
end
theorem QL(n b:Nat)(K:List (Int×List Int))(w:World)(h:vC w n b K):
  Y 54 #[n] w fun e w'=> ∃m bm,e= .returned (m:Nat)/\vC w' m bm K/\w.heap.size<=m/\w.heap.size<=bm/\Be w w':=by
 obtain⟨es,cl,hb,hE,hold⟩:=h.map.ents;have E:=jj hE;have OLD:=jj hold;have c0:=h.obj.at_ 0;have hbl:=h.map.lt;clear h hE hold;go_enter func54,ntmps54
 go_wp2_with fail
 refine(abg _).mono ?_;rintro e w1 ⟨m,bm,rfl,hN1,hm1,akk,hw1⟩;have c1:=kept hw1 _ _ c0;have hb1:w1.heap[b]?=some (.map es cl):=by rw[(Only.of_below (S:= []) hw1).block b hbl lT];exact hb
 have hne:bm≠m:=fun e=>hN1.ne e.symm;have l1:=hN1.obj.lt;have l2:=hN1.map.lt;have l3:=aB hbl hw1.size;have PT:Part w1 bm es #[]:=by
  obtain⟨es1,cl1,h1,hE1,h3⟩:=hN1.map.ents;have e0:es1.toList= []:=dA (by have:=hE1.size;simpa using this);exact⟨es1,cl1,h1,by simp[e0],lT,h3,hE1.ZV,hE1.keys⟩
 obtain⟨N1,PT1,B1,HB1⟩:=j4 hN1 PT hw1 hb1;clear hN1 PT hw1 hb hb1 c0
 go_wp2_with(first
  |(at_range;refine Fv _ rfl _ _ rfl _ _ underlying153 b es cl rfl HB1 ?_)
  |go_in)
 go_frame
 obtain⟨r,hr⟩:=ex w1.heap.size;obtain⟨w2,hw2⟩:=ex (w1.alloc (.mapIter (some b) cl #[] cl));rw[<-hr,<-hw2];have o2:Only [] w1 w2:=by rw[hw2];exact(Only.refl _ _).alloc _
 have R2:w2.heap[r]?=some (.mapIter (some b) cl #[] cl):=by rw[hw2,hr];exact jI _ _
 have hrl:r<w2.heap.size:=by rw[hw2,hr];simp
 have START:Hid (∃seen c0,w2.heap[r]?=some (.mapIter (some b) cl seen c0)/\cl<=c0/\w2.heap[b]?=some (.map es cl)/\lQ w2 m 155 #[.map (some bm)]/\Part w2 bm es seen/\Be w w2/\w1.heap.size+1<=w2.heap.size):=by
  refine jj ⟨#[],cl,R2,aF _,?_,N1.obj.only o2 lT,PT1.only l2 o2 lT,B1.trans (o2.mY.mono B1.size),by rw[hw2];simp⟩;rw[o2.block b l3 lT];exact HB1.out
 have r1:w1.heap.size<=r:=lC hr.symm;have r2:r<w1.heap.size+1:=lK;clear hw2 o2 R2 hrl c1 hr
 go_loopw [5] (fun _ wr=> ∃seen c0,wr.heap[r]?=some (.mapIter (some b) cl seen c0)/\cl<=c0/\wr.heap[b]?=some (.map es cl)/\lQ wr m 155 #[.map (some bm)]/\Part wr bm es seen/\Be w wr/\w1.heap.size+1<=wr.heap.size)
  (fun _ wr=>wr.rangeLeft b r)
 case atStart=>exact START.out
 case round=>
  obtain⟨seen,c0,hr1,hc0,hb1,hM,hPt,hB,hsz⟩:=hrel;have hleft:wr.rangeLeft b r=(leftOf es seen).size:=by simp[World.rangeLeft,hb1,hr1]
  obtain⟨LEFT,MM,PP,BB,HR,HB⟩:=j6 hleft hM hPt hB hr1 hb1;have SZ:=jj hsz;clear hleft hM hPt hB hr1 hb1 hsz
  go_wp2_with(first
   |(at_next;refine Gx _ rfl _ rfl r b cl c0 seen es cl rfl HR HB OLD hc0 E.ZV lK (fun e he=>by
     obtain⟨i,q,_,h1,h2⟩:=E.each e he;exact⟨q.1,_,_,h1,h2⟩) ?_ ?_)
   |go_in)
  ·intro h0
   go_wp2_with fail
   go_ret;exact⟨m,bm,rfl,⟨MM,PP.done E (by first|exact h0|simp[h0])⟩,hm1,akk,BB⟩
  intro e p s v w3 he ek ev hr3 ho3 hen;have HE:Hid (e∈(leftOf es seen).toList):=jj (by first|exact he|simpa using he);have R3:Hid (w3.heap[r]?=some (.mapIter (some b) cl (seen.push e.born) cl)):=jj hr3;obtain⟨O3,EK,EV⟩:=j3 ho3 ek ev;have l4:=SZ.out;have M3:=jj (MM.only ho3 (by simp;omega));have P3:=jj (PP.only lK ho3 (by simp;omega));have B3:=jj (ho3.below BB BB.size (by simp;have:=B1.size;omega));have HB3:Hid (w3.heap[b]?=some (.map es cl)):=jj (by rw[ho3.block b lK (by simp;omega)];exact HB.out);clear he hr3 ho3 ek ev
  go_upto_region 5 with fail
  generalize hw4:w3.alloc _=w4;generalize hga:w3.heap.size=ga;replace hw4:=hw4.symm;replace hga:=hga.symm;have hA:lQ w4 ga 185 #[U p,.string s]:=by rw[hw4,hga];exact lQ.new _ _ _
  have o4:Only [] w3 w4:=by rw[hw4];exact(Only.refl _ _).alloc _
  obtain⟨a0,a1⟩:=hA.a2;have l5:w1.heap.size+1<=w3.heap.size:=aG SZ O3.size;have M4:=jj (M3.only o4 lT);have m0:=M4.at_ 0;have P4:=jj (P3.only lK o4 lT);have B4:=jj (o4.below B3 B3.size lT);have R4:Hid (w4.heap[r]?=some (.mapIter (some b) cl (seen.push e.born) cl)):=jj (by rw[o4.block r lK lT];exact R3.out);have HB4:Hid (w4.heap[b]?=some (.map es cl)):=jj (by rw[o4.block b lK lT];exact HB3.out);have l6:w1.heap.size+1<=w4.heap.size:=aG l5 o4.size;clear hw4 hga hA o4 hen;have KS: ∀j,J (w4.drewN j) ga 0 (U p)/\J (w4.drewN j) ga 1 (.string s)/\J (w4.drewN j) m 0 (.map (some bm)):=fun j=>⟨a0,a1,m0⟩;refine rP (fun w'=>J w' ga 0 (U p)/\J w' ga 1 (.string s)/\J w' m 0 (.map (some bm))) 6 (tk 0 6 (.one 6 .done)) (KS 1) ?_;intro hS0
  repeat refine' tT ?_
  obtain⟨w5,zM,akL,Kg⟩:=(P4.only (w':=w4.drew) lK (S:= []) ((Only.refl _ _).drew) lT).put E HE;have hup:(Instr.mapUpdate 153 (.map (some bm)) (.agg #[U p,.string s]) (U v)).run prog w4.drew= .ok () w5:=by rw[<-EK.out,<-EV.out];exact zM
  clear zM;refine pL fun KT lS=> ?_;go_simp;refine oL lS ?_;refine lM ?_;have KC:Only [bm] w4 w5:=(Only.refl _ _).drew.trans Kg;have R5:w5.heap[r]?=some (.mapIter (some b) cl (seen.push e.born) cl):=by rw[KC.block r lK (by simp;omega)];exact R4.out
  have HB5:w5.heap[b]?=some (.map es cl):=by rw[KC.block b lK (by simp;omega)];exact HB4.out
  have REL:Hid (∃seen c0,w5.heap[r]?=some (.mapIter (some b) cl seen c0)/\cl<=c0/\w5.heap[b]?=some (.map es cl)/\lQ w5 m 155 #[.map (some bm)]/\Part w5 bm es seen/\Be w w5/\w1.heap.size+1<=w5.heap.size):=
   jj ⟨_,cl,R5,aF _,HB5,M4.only KC (by simp;exact hne.symm),akL,KC.below B4 B4.size (by simp;exact akk),aG l6 KC.size⟩
  have anh:Hid (w5.rangeLeft b r<(leftOf es seen).size):=jj (by
   have:=left_shrinks es seen e HE;simpa[World.rangeLeft,HB5,R5] using this)
  clear R5 HB5 KC Kg akL hup KS hS0
  go_wp2_with fail
  go_roundw
  case rel=>exact REL.out
  rw[LEFT.out];exact anh.out
end
theorem Qb(w:World)(g:Nat)(now:Int)(h:vT w g now):
  Y 92 #[g] w fun e w'=> ∃q,e= .returned (q:Nat)/\Be w w':=by
 obtain⟨i0,hi0⟩: ∃i,prog.info? 434=some i:=jW.1 (by kernel_rfl);have HB:lQ w g 220 _:=h;obtain⟨c0,c1⟩:=HB.a2;clear HB h;go_enter func92,ntmps92
 go_upto_region 1 with fail
 have KS: ∀w',Be w w'->J w' g 0 (U now)/\J w' g 1 ():=fun w' o=>⟨kept o _ _ c0,kept o _ _ c1⟩;have E1:Be w w.drew:=(aC _ _).drew;refine rP (fun w'=>J w' g 0 (U now)/\J w' g 1 ()) 12 (tk 0 8 (.one 8 (.take 9 (.one 10 (.take 11 .done))))) (KS _ E1) ?_;intro hS0
 repeat refine' tT ?_
 refine pO fun KT lS=> ?_;refine rY (by rfl) _ _ _ (by rfl) 434 i0 (by rfl) hi0 none none 0 0 0 (.inl ⟨rfl,rfl,rfl⟩) (aF _) (by rfl) (by rfl) ?_;refine oI lS (KS _ E1) fun _=> ?_
 repeat refine' tT ?_
 refine pO fun KT lS=> ?_;go_simp;refine oI lS (KS _ (E1.alloc E1.size _)) fun _=> ?_
 repeat refine' tT ?_
 refine lM ?_;have FIN:=jj (E1.alloc E1.size (.cells #[U now,()] 220));clear KS hS0
 go_wp2_with fail
 go_ret
 first|exact⟨_,rfl,FIN⟩|exact⟨⟨_,rfl⟩,FIN⟩|exact⟨_,by trivial,FIN⟩
theorem aay(w:World)(g:Nat)(m t:Int)(h:Ld w g m t):
  Y 96 #[g] w fun e w'=> ∃q,e= .returned (q:Nat)/\Be w w':=by
 obtain⟨i0,hi0⟩: ∃i,prog.info? 275=some i:=jW.1 (by kernel_rfl);have HB:lQ w g 239 _:=h;obtain⟨c0,c1,c2⟩:=HB.a3;clear HB h;go_enter func96,ntmps96
 go_upto_region 1 with fail
 have KS: ∀w',Be w w'->J w' g 0 (U m)/\J w' g 1 (U t)/\J w' g 2 ():=fun w' o=>⟨kept o _ _ c0,kept o _ _ c1,kept o _ _ c2⟩;have E1:Be w w.drew:=(aC _ _).drew;refine rP (fun w'=>J w' g 0 (U m)/\J w' g 1 (U t)/\J w' g 2 ()) 16 (tk 0 12 (.one 12 (.take 13 (.one 14 (.take 15 .done))))) (KS _ E1) ?_;intro hS0
 repeat refine' tT ?_
 refine pO fun KT lS=> ?_;refine rY (by rfl) _ _ _ (by rfl) 275 i0 (by rfl) hi0 none none 0 0 0 (.inl ⟨rfl,rfl,rfl⟩) (aF _) (by rfl) (by rfl) ?_;refine oI lS (KS _ E1) fun _=> ?_
 repeat refine' tT ?_
 refine pO fun KT lS=> ?_;go_simp;refine oI lS (KS _ (E1.alloc E1.size _)) fun _=> ?_
 repeat refine' tT ?_
 refine lM ?_;have FIN:=jj (E1.alloc E1.size (.cells #[U m,U t,()] 239));clear KS hS0
 go_wp2_with fail
 go_ret
 first|exact⟨_,rfl,FIN⟩|exact⟨⟨_,rfl⟩,FIN⟩|exact⟨_,by trivial,FIN⟩
theorem RY(L:List Vt): ∀v∈L.flatMap xw,v.oneCell'=true:=by
 intro v hv;obtain⟨p,_,hp⟩:=bg.1 hv;simp[xw] at hp;rcases hp with rfl|rfl|rfl<;>rfl
theorem acC(w:World)(g:Nat)(gl:Nat)(f:Int)(L:List Vt)(h:zQ w g gl f L)(hn:L.length<=13):
  Y 95 #[g] w fun e w'=> ∃q,e= .returned (q:Nat)/\Be w w':=by
 obtain⟨i0,hi0,hz0,hz1,hz2⟩:=bq Mj;obtain⟨cap,HB,k2⟩:=h.ex;obtain⟨n,hnn⟩:=ex L.length;rw[<-hnn] at HB k2 hn;have V:=jj (l9 k2);clear k2 hnn;obtain⟨c0,c1⟩:=HB.a2;clear HB h;go_enter func95,ntmps95
 go_upto_region 1 with fail
 have KS: ∀w',Be w w'->J w' g 0 (U f)/\J w' g 1 (O gl n cap):=fun w' o=>⟨kept o _ _ c0,kept o _ _ c1⟩;have E1:Be w w.drew:=(aC _ _).drew;refine rP (fun w'=>J w' g 0 (U f)/\J w' g 1 (O gl n cap)) 12 (tk 0 8 (.one 8 (.take 9 (.one 10 (.take 11 .done))))) (KS _ E1) ?_;intro hS0
 repeat refine' tT ?_
 refine pO fun KT lS=> ?_;refine oo (by rfl) _ _ _ (by rfl) w.heap.size 364 i0 _ 3 24 underlying234 hi0 hz0 hz1 hz2 rfl lK none 0 0 [] (by rfl) ⟨rfl,.inl ⟨rfl,rfl⟩⟩ (some ⟨gl,0,none⟩) n cap (L.flatMap xw) (by rfl) (V.below E1) (RY L) (by unfold maxLen;omega) lK E1.size ?_;intro a5 k5 w5 h5;have E5:Be w w5:=E1.trans (h5.only.mY.mono E1.size);clear h5;refine oI lS (KS _ E5) fun _=> ?_
 repeat refine' tT ?_
 refine pO fun KT lS=> ?_;go_simp;refine oI lS (KS _ (E5.alloc E5.size _)) fun _=> ?_
 repeat refine' tT ?_
 refine lM ?_;have FIN:=jj (E5.alloc E5.size (.cells #[U f,.slice a5 n k5] 236));clear KS hS0
 go_wp2_with fail
 go_ret
 first|exact⟨_,rfl,FIN⟩|exact⟨⟨_,rfl⟩,FIN⟩|exact⟨_,by trivial,FIN⟩
theorem ach(w:World)(g:Nat)(f cl:Int)(T:List oO)(S:LN)(h:TabAt w g f cl T S)(hn:T.length<=64):
  Y 94 #[g] w fun e w'=> ∃q,e= .returned (q:Nat)/\Be w w':=by
 obtain⟨i0,zi,hi0,hz0,hz1,hz2,hz3⟩:=zq;obtain⟨ta,tc,-,HB,k2⟩:=h.ex;obtain⟨n,hnn⟩:=ex T.length;rw[<-hnn] at HB k2 hn;have V:=jj (l9 k2);clear k2 hnn;obtain⟨c0,c1,c2⟩:=HB.a3;clear HB h;go_enter func94,ntmps94
 go_upto_region 1 with fail
 have KS: ∀w',Be w w'->J w' g 0 (U f)/\J w' g 1 (U cl)/\J w' g 2 (.slice ta n tc):=fun w' o=>⟨kept o _ _ c0,kept o _ _ c1,kept o _ _ c2⟩;have E1:Be w w.drew:=(aC _ _).drew;refine rP (fun w'=>J w' g 0 (U f)/\J w' g 1 (U cl)/\J w' g 2 (.slice ta n tc)) 16 (tk 0 12 (.one 12 (.take 13 (.one 14 (.take 15 .done))))) (KS _ E1) ?_;intro hS0
 repeat refine' tT ?_
 refine pO fun KT lS=> ?_;refine oo (by rfl) _ _ _ (by rfl) w.heap.size 356 i0 _ 21 72 underlying231 hi0 hz0 hz1 hz2 hz3 lK none 0 0 [] (by rfl) ⟨rfl,.inl ⟨rfl,rfl⟩⟩ ta n tc (T.flatMap xW) (by rfl) (V.below E1) (xq T) (by unfold maxLen;omega) lK E1.size ?_;intro a5 k5 w5 h5;have E5:Be w w5:=E1.trans (h5.only.mY.mono E1.size);clear h5;refine oI lS (KS _ E5) fun _=> ?_
 repeat refine' tT ?_
 refine pO fun KT lS=> ?_;go_simp;refine oI lS (KS _ (E5.alloc E5.size _)) fun _=> ?_
 repeat refine' tT ?_
 refine lM ?_;have FIN:=jj (E5.alloc E5.size (.cells #[U f,U cl,.slice a5 n k5] 233));clear KS hS0
 go_wp2_with fail
 go_ret
 first|exact⟨_,rfl,FIN⟩|exact⟨⟨_,rfl⟩,FIN⟩|exact⟨_,by trivial,FIN⟩
theorem QC:(prog.info? 408).map (fun i=>(i.zero,i.size,i.bytes))=some (some (.agg #[false,U 0,()]),3,40):=by kernel_rfl
theorem WO(L:List rC): ∀v∈L.flatMap Ki,v.oneCell'=true:=by
 intro v hv;obtain⟨p,_,hp⟩:=bg.1 hv;simp only[Ki,ay,aI,bK] at hp;rcases hp with rfl|rfl|rfl<;>rfl
theorem ab1(w:World)(g:Nat)(x:Nat)(f:Int)(n:Nat)(s:CQ)(h:mM x w f n g s)(hn:n<=13):
  Y 132 #[g] w fun e w'=> ∃q,e= .returned (q:Nat)/\Be w w':=by
 obtain⟨i0,hi0,hz0,hz1,hz2⟩:=bq QC;have HB:=h.blk;have V:=jj (mo.nR (n:=n) (s:=3) h.bp (by rw[gZ,qj _ 3 BI,h.np]));have U0:=jj (mo.nR (n:=n) (s:=3) h.bc (by rw[gZ,qj _ 3 BI,h.nc]));obtain⟨c0,c1,c2,c3,c4⟩:=HB.a5;clear HB h;go_enter func132,ntmps132
 go_upto_region 1 with fail
 have KS: ∀w',Be w w'->J w' g 0 (U f)/\J w' g 1 s.has/\J w' g 2 (.slice s.ba s.bn s.bc)/\J w' g 3 (O s.gp n n)/\J w' g 4 (O s.gc n n):=fun w' o=>⟨kept o _ _ c0,kept o _ _ c1,kept o _ _ c2,kept o _ _ c3,kept o _ _ c4⟩;have E1:Be w w.drew:=(aC _ _).drew;refine rP (fun w'=>J w' g 0 (U f)/\J w' g 1 s.has/\J w' g 2 (.slice s.ba s.bn s.bc)/\J w' g 3 (O s.gp n n)/\J w' g 4 (O s.gc n n)) 25 (tk 0 16 (tk 17 4 (.one 16 (.one 21 (.take 22 (.one 23 (.take 24 .done))))))) (KS _ E1) ?_;intro hS0
 repeat refine' tT ?_
 refine pO fun KT lS=> ?_;refine oo (by rfl) _ _ _ (by rfl) w.heap.size 408 i0 _ 3 40 underlying269 hi0 hz0 hz1 hz2 rfl lK none 0 0 [] (by rfl) ⟨rfl,.inl ⟨rfl,rfl⟩⟩ (some ⟨s.gp,0,none⟩) n n (s.pr.flatMap Ki) (by rfl) (V.below E1) (WO s.pr) (by unfold maxLen;omega) lK E1.size ?_;intro a5 k5 w5 h5;have E5:Be w w5:=E1.trans (h5.only.mY.mono E1.size);clear h5;refine oI lS (KS _ E5) fun _=> ?_
 repeat refine' tT ?_
 refine pO fun KT lS=> ?_;refine oo (by rfl) _ _ _ (by rfl) w.heap.size 408 i0 _ 3 40 underlying269 hi0 hz0 hz1 hz2 rfl lK none 0 0 [] (by rfl) ⟨rfl,.inl ⟨rfl,rfl⟩⟩ (some ⟨s.gc,0,none⟩) n n (s.co.flatMap Ki) (by rfl) (U0.below E5) (WO s.co) (by unfold maxLen;omega) lK E5.size ?_;intro a6 k6 w6 h6;have E6:Be w w6:=E5.trans (h6.only.mY.mono E5.size);clear h6;refine oI lS (KS _ E6) fun _=> ?_
 repeat refine' tT ?_
 refine pO fun KT lS=> ?_;go_simp;refine oI lS (KS _ (E6.alloc E6.size _)) fun _=> ?_
 repeat refine' tT ?_
 refine lM ?_;have FIN:=jj (E6.alloc E6.size (.cells #[U f,s.has,.slice s.ba s.bn s.bc,.slice a5 n k5,.slice a6 n k6] 271));clear KS hS0
 go_wp2_with fail
 go_ret
 first|exact⟨_,rfl,FIN⟩|exact⟨⟨_,rfl⟩,FIN⟩|exact⟨_,by trivial,FIN⟩
theorem Uw(L:List qm): ∀v∈L.flatMap mH,v.oneCell'=true:=by
 intro v hv;obtain⟨p,_,hp⟩:=bg.1 hv;simp only[mH,ay,aI,bK] at hp;rcases hp with rfl|rfl|rfl|rfl|rfl|rfl|rfl|rfl|rfl|rfl|rfl|rfl|rfl|rfl<;>rfl
theorem VA{α:Type}(f:α->List Value)(s:Nat)(hs: ∀p,(f p).length=s): ∀(L:List α) (k:Nat) (p:α) (j:Nat),L[k]?=some p->j<s->(L.flatMap f)[s*k+j]?=(f p)[j]?
 | [],k,p,j,hk,hj=>by simp at hk
 |a::L,0,p,j,hk,hj=>by
  simp only[List.getElem?_cons_zero,aD] at hk;subst hk;rw[bQ,Nat.mul_zero,aO,bC (by rw[hs];exact hj)]
 |a::L,k+1,p,j,hk,hj=>by
  rw[List.getElem?_cons_succ] at hk;rw[bQ,bN (by rw[hs,Nat.mul_succ];omega),hs,show s*(k+1)+j -s=s*k+j by rw[Nat.mul_succ];omega];exact VA f s hs L k p j hk hj
theorem lY.ajS{num ahead:Int}(h:lY x w f n num ahead gi i){k:Nat}{p:qm}(hk:i.ps[k]?=some p):J w i.gl (k*14) p.g:=by
 have hkl:k<i.ps.length:=(ah.1 hk).1;have e:=VA mH 14 tC i.ps k p 0 hk lN;rw[Nat.add_zero] at e;rw[gX,h.row.cell,cZ,bC (by rw[qj _ 14 tC];omega),e];rfl
theorem lY.apk{num ahead:Int}(h:lY x w f n num ahead gi i):mo w (some ⟨i.gl,0,none⟩) 16 14 (i.ps.flatMap mH):=by
 refine⟨by rw[qj _ 14 tC,h.len],fun _=>⟨i.gl,0,rfl,h.row.lt,fun k v hv=> ?_⟩⟩;rw[aO,h.row.cell k,cZ,bC (ah.1 hv).1,hv]
theorem aaR(x:Nat)(w:World)(f:Int)(n:Nat)(num ahead:Int)(gi:Nat)(i:tJ)(h:lY x w f n num ahead gi i)(hn:n<=13):
  Y 93 #[gi] w fun e w'=> ∃q,e= .returned (q:Nat)/\Be w w':=by
 obtain⟨i0,hi0,hz0,hz1,hz2⟩:=bq FH;have H:=jj h;have HN:=jj hn;clear h hn;go_enter func93,ntmps93
 go_upto_region 2 with(refine gU rfl 223 (.tmp 6) rfl gi rfl 223 #[U f,U num,U ahead,U i.vw,i.on,O i.gl 16 i.cap] (0,0) _ H.blk underlying223 rfl (by kernel_rfl) ?_;try simp only[Act.put])
 generalize hw1:w.alloc _=w1;generalize hq:w.heap.size=q;replace hw1:=hw1.symm;replace hq:=hq.symm;have hk1:=xNew hw1 hq;have BX:=tQ hw1;have QE:=jj hq;clear hw1 hq;have c5:J w1 gi 5 (O i.gl 16 i.cap):=(H.below BX).blk.cell 5;have V1:=jj (H.below BX).apk
 go_upto_region 3 with(at_builtin;refine lZ rfl _ _ _ rfl w1.heap.size 230 i0 _ 14 168 underlying221 hi0 hz0 hz1 hz2 rfl lK none 0 0 [] rfl ⟨rfl,.inl ⟨rfl,rfl⟩⟩ (some ⟨i.gl,0,none⟩) 16 i.cap (i.ps.flatMap mH) rfl V1 (Uw i.ps) (by unfold maxLen;omega) lK (aF _) ?_;intro a2 d2 w2 h8;have k2:=hk1.below h8.only.mY hk1.lt;have BY:Hid (Be w w2):=jj (BX.trans (h8.only.mY.mono BX.size));have OW:Hid (w2.ownsRow w1.heap.size 230 14 (.slice a2 16 d2) 16 (i.ps.flatMap mH)):=jj h8.own;clear h8;have f5:=k2.frozen 5;have g5:J w2 q 5 (O i.gl 16 i.cap):=k2.cell 5;have K2:=jj k2;clear k2;try simp only[Act.put])
 have KX:=jj (K2.mg 5 (.slice a2 16 d2));have BZ:=jj (BY.setCell (p:=⟨q,5,none⟩) (by rw[QE.out];exact aF _) (.slice a2 16 d2));obtain⟨w3,hw3⟩:=ex (w2.setCell ⟨q,5,none⟩ (.slice a2 16 d2))
 first|rw[<-hw3]|(simp only[aO];rw[<-hw3])
 rw[<-hw3] at KX BZ;obtain⟨c3,hc3⟩:=ex ((afC f num ahead i).setIfInBounds 5 (.slice a2 16 d2));have C3:Hid (c3[5]?=some (.slice a2 16 d2)):=jj (by rw[hc3];rfl);have KY:Hid (lQ w3 q 223 c3):=jj (by rw[hc3];exact KX.out);clear KX;obtain⟨ga,rfl⟩: ∃ga,a2=some ⟨ga,0,none⟩:=by
  rcases rF OW with h|h
  ·omega
  exact h
 have RW:=jj (Row.sG OW);obtain⟨cur,hcur,hdc,-,hcs,-⟩:=RW.parts;have CU:Hid (∃cs,lQ w3 ga 230 cs/\224<=cs.size):=jj ⟨cur,by
  rw[hw3];exact lQ.only hcur ((Only.refl [q] w2).setCell (.inl lT) _) (by simp only[au];exact(K2.nY hcur lN).symm),by rw[hcs];omega⟩
 have GA:Hid (w.heap.size<=ga):=jj (aG BX.size (OW.lt ga rfl).1);have GQ:Hid (w.heap.size<=q):=jj (by rw[QE.out];exact aF _);clear hw3 hc3 K2 OW RW hcur hcs BY BX V1 c5 f5 g5 hk1 QE;have s5:J w3 q 5 (O ga 16 d2):=(KY.cell 5).trans C3
 go_wp2_with fail
 go_loopw [17] (fun z wr=> ∃k:Nat,k<=16/\z= U k/\Be w wr/\lQ wr q 223 c3/\ ∃cs,lQ wr ga 230 cs/\224<=cs.size) (fun z _=>16 -(intOf z).toNat)
 case atStart=>exact⟨0,lK,by first|rfl|simp,BZ,KY,CU⟩
 case round=>
  obtain⟨k,hk,rfl,hb,hkx,cs,hcs,hcz⟩:=hrel;obtain⟨BW,KW,CW,CZ⟩:=j4 hb hkx hcs hcz;clear hb hkx hcs hcz s5 KY BZ CU;by_cases hlt:k<16
  ·have i1:(k:Int)<16:=lK
   have i2:(0:Int)<=k:=lK;obtain⟨p,hp⟩: ∃p,i.ps[k]?=some p:=⟨_,aj (by rw[H.len];exact hlt)⟩;have PS:=jj (H.at_ p (ak hp));have e5:=H.blk.at_ 5;have ep:=H.ajS hp;have KS: ∀w',Be wr w'->J w' q 5 (O ga 16 d2)/\J w' gi 5 (O i.gl 16 i.cap)/\J w' i.gl (k*14) p.g:=fun w' o=>⟨kept o _ _ ((KW.cell 5).trans C3),kept o _ _ (kept BW _ _ e5),kept o _ _ (kept BW _ _ ep)⟩;clear hp e5 ep
   go_upto_region 6 with fail
   refine rP (fun w'=>J w' q 5 (O ga 16 d2)/\J w' gi 5 (O i.gl 16 i.cap)/\J w' i.gl (k*14) p.g) 14 (tk 0 11 (.one 11 (.one 12 (.take 13 (.one 14 .done))))) (KS _ (aC _ _).drew) ?_;intro hS0;obtain⟨v0,hv0⟩:=ex wr.drew;have B0:Be wr v0:=by rw[hv0];exact(aC _ _).drew
   rw[<-hv0] at hS0|-;clear hv0
   repeat refine' tT ?_
   refine pO fun KT lS=> ?_;go_simp;refine(ab1 _ p.g x f n p.sl (PS.slot.below (BW.trans (B0.mono BW.size))) HN).mono ?_;rintro e w5 ⟨r,rfl,hb5⟩;have B5:Be wr w5:=B0.trans (hb5.mono B0.size);refine oI lS (KS _ B5) fun _=> ?_;have C5:=jj (CW.below B5 CW.lt);have f9:=C5.frozen (k*14);obtain⟨u9,g9⟩: ∃u,J w5 ga (k*14) u:=⟨_,(C5.cell (k*14)).trans (bD (tL CZ.out))⟩;refine pO fun KT lS=> ?_;go_simp;refine oI lS (KS _ B5) fun _=> ?_
   repeat refine' tT ?_
   refine pL fun KT lS=> ?_;go_simp;refine oL lS ?_;refine lM ?_;clear hS0 KS;obtain⟨w6,zN⟩:=ex (w5.setCell ⟨ga,k*14,none⟩ r);rw[<-zN];have o6:Only [ga] w5 w6:=by rw[zN];exact(Only.refl [ga] _).setCell (.inl lT) _
   have K6:=jj ((KW.below B5 KW.lt).only o6 (fun hm=>by simp only[au] at hm;subst hm;exact absurd ((KW.below B5 KW.lt).nY C5 lN rfl) id));have C6:Hid (∃cs,lQ w6 ga 230 cs/\224<=cs.size):=jj ⟨_,by rw[zN];exact C5.mg _ _,by simpa using CZ.out⟩;have B6:Hid (Be w w6):=jj (by rw[zN];exact(BW.trans (B5.mono BW.size)).setCell (p:=⟨ga,k*14,none⟩) GA _);clear zN o6 f9 g9
   go_wp2_with fail
   go_roundw
   case rel=>exact⟨k+1,lK,by go_num,B6,K6,C6⟩
   simp[intOf];omega
  obtain rfl:k=16:=lK
  go_wp2_with fail
  go_ret
  first|exact⟨_,rfl,BW⟩|exact⟨⟨_,rfl⟩,BW⟩
theorem nZ{w':World}{g:Nat}{t:TypeId}{cs:AV}(h:lQ w g t cs)(hb:Be w w'):lQ w' g t cs:=h.below hb h.lt
theorem aaV(x:Nat)(w:World)(f id:Int)(gk:Nat)(d:sI)(h:qF x w f id gk d)(hil:d.il.length<=4096)(hal:d.al.length<=4096)(hel:d.el.length<=4096)(hol:d.ol.length<=4096)(gn:Nat):
  Y 53 #[gk,gn] w fun e w'=> ∃q,e= .returned (q:Nat)/\(∃cs ia ic ea ec,lQ w' q 120 cs/\cs[19]?=some (.slice ia d.il.length ic)/\mo w' ia d.il.length 6 (d.il.flatMap rA)/\cs[22]?=some (.slice ea d.el.length ec)/\mo w' ea d.el.length 7 (d.el.flatMap EO))/\Be w w':=by
 obtain⟨i0,hi0,hz0,hz1,hz2⟩:=bq Mf;obtain⟨j0,hj0,hy0,hy1,hy2⟩:=bq wD;obtain⟨H,L1,L2⟩:=j3 h hil hel;obtain⟨cs,hcs⟩:=ex (Nz f id d);have HK:Hid (lQ w gk 120 cs):=jj (by rw[hcs];exact h.blk);have HS:Hid (cs.size=24):=jj (by rw[hcs];rfl);have A17:Hid (cs[17]?=some (.pointer (some ⟨d.gt,0,none⟩))):=jj (by rw[hcs];rfl);have A16:Hid (cs[16]?=some (.pointer (some ⟨d.nn,0,none⟩))):=jj (by rw[hcs];rfl);have A19:Hid (cs[19]?=some (.slice d.ia d.il.length d.ic)):=jj (by rw[hcs];rfl);have A21:Hid (cs[21]?=some (.slice d.aa d.al.length d.ac)):=jj (by rw[hcs];rfl);have A22:Hid (cs[22]?=some (.slice d.ea d.el.length d.ec)):=jj (by rw[hcs];rfl);have A23:Hid (cs[23]?=some (.slice d.oa d.ol.length d.oc)):=jj (by rw[hcs];rfl);have af4:Hid (cs.all (·.oneCell')=true):=jj (by rw[hcs];simp[Nz,Value.oneCell']);clear h hil hel hcs;go_enter func53,ntmps53
 go_upto_region 2 with(refine gU rfl 120 (.tmp 7) rfl gk rfl 120 cs (0,0) _ HK underlying120 rfl (by rw[HS.out];kernel_rfl) ?_;try simp only[Act.put])
 rw[run_storeCells_new w 120 _ cs (by rw[HS.out];kernel_rfl) (by rw[HS.out];rfl) af4,Result.andThen_ok]
 go_upto_region 2 with fail
 obtain⟨w1,hw1⟩:=ex (w.alloc (.cells cs 120));obtain⟨q,hq⟩:=ex w.heap.size;rw[<-hw1,<-hq];have hk1:=xNew hw1 hq;have BX:=tQ hw1;have QE:=jj hq;clear hw1 hq;have c17:J w1 gk 17 d.gt:=((nZ HK BX).cell 17).trans A17
 go_wp2_with fail
 refine(Qb _ d.gt d.now (nZ H.Bc BX)).mono ?_;rintro e w2 ⟨g2,rfl,b2⟩;have B2:=nO BX b2;have K2:=jj (nZ hk1 b2);clear b2 BX hk1 c17;have f16:=K2.frozen 16;have f17:=K2.frozen 17;have g16:J w2 q 16 d.nn:=(K2.cell 16).trans A16;have g17:J w2 q 17 d.gt:=(K2.cell 17).trans A17
 go_upto_region 3 with fail
 obtain⟨w3,hw3⟩:=ex ((w2.setCell ⟨q,16,none⟩ gn).setCell ⟨q,17,none⟩ g2);rw[<-hw3];obtain⟨c3,hc3⟩:=ex ((cs.setIfInBounds 16 gn).setIfInBounds 17 g2);have K3:Hid (lQ w3 q 120 c3):=jj (by rw[hw3,hc3];exact(K2.mg 16 _).mg 17 _);have B3:Hid (Be w w3):=jj (by rw[hw3];exact(B2.setCell (p:=⟨q,16,none⟩) (by rw[QE.out];exact aF _) _).setCell (p:=⟨q,17,none⟩) (by rw[QE.out];exact aF _) _);have Z3:Hid (c3.size=24):=jj (by rw[hc3];simpa using HS.out);clear hw3 hc3 f16 f17 g16 g17 K2 B2
 go_wp2_with fail
 refine(Ml _ gk cs (nZ HK B3) d.ia d.il.length d.ic d.il A19 ((l9 H.yK).below B3) L1).mono ?_;rintro e w4 ⟨⟨ia,ic,rfl,hia⟩,b4⟩;have B4:=nO B3 b4;have I4:=jj hia;have K4:=jj (nZ K3 b4);clear b4 hia B3 K3
 go_wp2_with fail
 refine(Aa _ gk cs (nZ HK B4) d.ea d.el.length d.ec d.el A22 ((l9 H.acc).below B4) L2).mono ?_;rintro e w5 ⟨⟨ea,ec,rfl,hea⟩,b5⟩;have B5:=nO B4 b5;have I5:=jj (own_below I4 b5);have E5:=jj hea;have K5:=jj (nZ K4 b5);clear b5 hea B4 K4 I4;have f19:=K5.frozen 19;have f22:=K5.frozen 22;obtain⟨yL,g19⟩: ∃u,J w5 q 19 u:=⟨_,(K5.cell 19).trans (bD (by rw[Z3.out];omega))⟩;obtain⟨u22,g22⟩: ∃u,J w5 q 22 u:=⟨_,(K5.cell 22).trans (bD (by rw[Z3.out];omega))⟩
 go_upto_region 4 with fail
 obtain⟨w6,zN⟩:=ex ((w5.setCell ⟨q,19,none⟩ (.slice ia d.il.length ic)).setCell ⟨q,22,none⟩ (.slice ea d.el.length ec));rw[<-zN];obtain⟨c6,hc6⟩:=ex ((c3.setIfInBounds 19 (.slice ia d.il.length ic)).setIfInBounds 22 (.slice ea d.el.length ec));have K6:Hid (lQ w6 q 120 c6):=jj (by rw[zN,hc6];exact(K5.mg 19 _).mg 22 _);have B6:Hid (Be w w6):=jj (by rw[zN];exact(B5.setCell (p:=⟨q,19,none⟩) (by rw[QE.out];exact aF _) _).setCell (p:=⟨q,22,none⟩) (by rw[QE.out];exact aF _) _);have o6:Only [q] w5 w6:=by rw[zN];exact((Only.refl [q] _).setCell (.inl lT) _).setCell (.inl lT) _
 have I6:=jj (mh I5 o6 K5 lN);have E6:=jj (mh E5 o6 K5 lN);have Z6:Hid (c6.size=24):=jj (by rw[hc6];simpa using Z3.out);have P19:Hid (c6[19]?=some (.slice ia d.il.length ic)):=jj (by rw[hc6,aW lN,bZ,aV (by rw[Z3.out];decide)]);have P22:Hid (c6[22]?=some (.slice ea d.el.length ec)):=jj (by rw[hc6,bZ,aV (by rw[iy,Z3.out];decide)]);clear zN hc6 o6 K5 I5 E5 B5 f19 f22 g19 g22;have p21:J w6 gk 21 (.slice d.aa d.al.length d.ac):=((nZ HK B6).cell 21).trans A21;have V21:=jj ((l9 H.ans).below B6)
 go_upto_region 5 with(at_builtin;refine lZ rfl _ _ _ rfl w6.heap.size 253 i0 _ 2 16 underlying118 hi0 hz0 hz1 hz2 rfl lK none 0 0 [] rfl ⟨rfl,.inl ⟨rfl,rfl⟩⟩ d.aa d.al.length d.ac _ rfl V21 (PX d.al) (by unfold maxLen;omega) lK (aF _) ?_;intro a7 d7 w7 h8;have b8:=h8.only.mY;have B7:Hid (Be w w7):=jj (B6.trans (b8.mono B6.size));have K7:=jj (nZ K6 b8);have I7:=jj (own_below I6 b8);have E7:=jj (own_below E6 b8);clear h8 b8;have f21:=K7.frozen 21;obtain⟨u21,g21⟩: ∃u,J w7 q 21 u:=⟨_,(K7.cell 21).trans (bD (by rw[Z6.out];omega))⟩;try simp only[Act.put])
 obtain⟨w8,hw8⟩:=ex (w7.setCell ⟨q,21,none⟩ (.slice a7 (0+d.al.length) d7))
 first|rw[<-hw8]|(simp only[aO] at hw8|-;rw[<-hw8])
 obtain⟨c8,hc8⟩:=ex (c6.setIfInBounds 21 (.slice a7 d.al.length d7));have o8:Only [q] w7 w8:=by rw[hw8];exact(Only.refl [q] _).setCell (.inl lT) _
 have K8:Hid (lQ w8 q 120 c8):=jj (by rw[hw8,hc8];simpa using K7.mg 21 _);have B8:Hid (Be w w8):=jj (by rw[hw8];exact B7.setCell (p:=⟨q,21,none⟩) (by rw[QE.out];exact aF _) _);have I8:=jj (mh I7 o8 K7 lN);have E8:=jj (mh E7 o8 K7 lN);have Z8:Hid (c8.size=24):=jj (by rw[hc8];simpa using Z6.out);have anu:Hid (c8[19]?=some (.slice ia d.il.length ic)):=jj (by rw[hc8,aW lN];exact P19.out);have anv:Hid (c8[22]?=some (.slice ea d.el.length ec)):=jj (by rw[hc8,aW lN];exact P22.out);clear hw8 hc8 o8 K7 B7 I7 E7 f21 g21 p21 V21 K6 B6 I6 E6 Z6;have p23:J w8 gk 23 (.slice d.oa d.ol.length d.oc):=((nZ HK B8).cell 23).trans A23;have V23:=jj ((l9 H.out.out.own).below B8)
 go_upto_region 6 with(at_builtin;refine lZ rfl _ _ _ rfl w8.heap.size 179 j0 _ 2 32 underlying109 hj0 hy0 hy1 hy2 rfl lK none 0 0 [] rfl ⟨rfl,.inl ⟨rfl,rfl⟩⟩ d.oa d.ol.length d.oc _ rfl V23 (Ec d.ol) (by unfold maxLen;omega) lK (aF _) ?_;intro a9 d9 w9 h8;have b8:=h8.only.mY;have B9:Hid (Be w w9):=jj (B8.trans (b8.mono B8.size));have K9:=jj (nZ K8 b8);have I9:=jj (own_below I8 b8);have E9:=jj (own_below E8 b8);clear h8 b8;have f23:=K9.frozen 23;obtain⟨u23,g23⟩: ∃u,J w9 q 23 u:=⟨_,(K9.cell 23).trans (bD (by rw[Z8.out];omega))⟩;try simp only[Act.put])
 obtain⟨w10,TS⟩:=ex (w9.setCell ⟨q,23,none⟩ (.slice a9 (0+d.ol.length) d9))
 first|rw[<-TS]|(simp only[aO] at TS|-;rw[<-TS])
 obtain⟨c10,Kz⟩:=ex (c8.setIfInBounds 23 (.slice a9 d.ol.length d9));have o10:Only [q] w9 w10:=by rw[TS];exact(Only.refl [q] _).setCell (.inl lT) _
 have YV:Hid (lQ w10 q 120 c10):=jj (by rw[TS,Kz];simpa using K9.mg 23 _);have B10:Hid (Be w w10):=jj (by rw[TS];exact B9.setCell (p:=⟨q,23,none⟩) (by rw[QE.out];exact aF _) _);have I10:=jj (mh I9 o10 K9 lN);have E10:=jj (mh E9 o10 K9 lN);have Z10:Hid (c10.size=24):=jj (by rw[Kz];simpa using Z8.out);have ajo:Hid (c10[19]?=some (.slice ia d.il.length ic)):=jj (by rw[Kz,aW lN];exact anu.out);have ajp:Hid (c10[22]?=some (.slice ea d.el.length ec)):=jj (by rw[Kz,aW lN];exact anv.out);clear TS Kz o10 K9 B9 I9 E9 f23 g23 p23 V23 K8 B8 I8 E8 Z8
 go_wp2_with fail
 go_ret;refine⟨q,by trivial,⟨c10,ia,ic,ea,ec,YV,ajo,l9 I10,ajp,l9 E10⟩,B10⟩
theorem IY:(prog.info? 164).map (fun i=>(i.zero,i.size,i.bytes))=some (some (.pointer none),1,8):=by kernel_rfl
theorem FE:(prog.info? 35).map (fun i=>(i.zero,i.size,i.bytes))=some (some (.slice none 0 0),1,24):=by kernel_rfl
theorem Bh:(prog.info? 3).map (fun i=>(i.zero,i.size,i.bytes))=some (some (U 0),1,8):=by kernel_rfl
structure xZ(w wr:World)(q:Nat)(c:AV)(a1:OA)(d1 k1:Nat)(a2:OA)(d2 k2:Nat)(a3:OA)(d3 k3:Nat):Prop where
 below:Be w wr
 ge:w.heap.size<=q
 blk:lQ wr q 131 c
 size:c.size=40
 c1:c[18]?=some (.slice a1 k1 d1)
 c2:c[26]?=some (.slice a2 k2 d2)
 c3:c[27]?=some (.slice a3 k3 d3)
 o1: ∃xs,wr.ownsRow w.heap.size 164 1 (.slice a1 k1 d1) k1 xs
 o2: ∃xs,wr.ownsRow w.heap.size 35 1 (.slice a2 k2 d2) k2 xs
 o3: ∃xs,wr.ownsRow w.heap.size 35 1 (.slice a3 k3 d3) k3 xs
 ne: ∀g,a2.map (·.block)=some g->a3.map (·.block)≠some g
section
variable{w wr w':World}{q:Nat}{c:AV}{a1 a2 a3 a':OA}{d1 k1 d2 k2 d3 k3 n cap:Nat}{xs:LV}
theorem xZ.keep(h:xZ w wr q c a1 d1 k1 a2 d2 k2 a3 d3 k3)(hb:Be wr w'):xZ w w' q c a1 d1 k1 a2 d2 k2 a3 d3 k3:=by
 obtain⟨x1,o1⟩:=h.o1;obtain⟨x2,o2⟩:=h.o2;obtain⟨x3,o3⟩:=h.o3;exact⟨h.below.trans (hb.mono h.below.size),h.ge,h.blk.below hb h.blk.lt,h.size,h.c1,h.c2,h.c3,⟨x1,own_below o1 hb⟩,⟨x2,own_below o2 hb⟩,⟨x3,own_below o3 hb⟩,h.ne⟩
theorem xZ.cell(h:xZ w wr q c a1 d1 k1 a2 d2 k2 a3 d3 k3)(hb:Be wr w'):J w' q 18 (.slice a1 k1 d1)/\J w' q 26 (.slice a2 k2 d2)/\J w' q 27 (.slice a3 k3 d3):=
 ⟨((h.keep hb).blk.cell 18).trans h.c1,((h.keep hb).blk.cell 26).trans h.c2,((h.keep hb).blk.cell 27).trans h.c3⟩
theorem xZ.q6(h:xZ w wr q c a1 d1 k1 a2 d2 k2 a3 d3 k3){t:TypeId}(ho:wr.ownsRow w.heap.size t 1 (.slice a m e) m ys)(ht:t≠131)(hA:qQ wr w' w.heap.size t 1 a a' n cap xs):lQ w' q 131 c:=
 h.blk.only hA.only fun hm=>mG ho h.blk ht (by rw[lV];exact aJ.1 hm)
theorem xZ.b6(h:xZ w wr q c a1 d1 k1 a2 d2 k2 a3 d3 k3){t:TypeId}(ho:wr.ownsRow w.heap.size t 1 (.slice a m e) m ys)(hA:qQ wr w' w.heap.size t 1 a a' n cap xs):Be w w':=
 hA.only.below h.below h.below.size fun k hk=>(dG ho k (by rw[lV];exact aJ.1 hk)).1
theorem vR{base t:Nat}{a0:OA}(h:wr.ownsRow base t s (.slice a m e) m ys)(ho:Only (a0.map (·.block)).toList wr w')(hd: ∀g,a.map (·.block)=some g->a0.map (·.block)≠some g):w'.ownsRow base t s (.slice a m e) m ys:=
 mK h ho fun g hg hm=>hd g (by rw[<-lV];exact hg) (aJ.1 hm)
theorem xZ.step1(h:xZ w wr q c a1 d1 k1 a2 d2 k2 a3 d3 k3)(hA:qQ wr w' w.heap.size 164 1 a1 a' n cap xs):xZ w (w'.setCell ⟨q,18,none⟩ (.slice a' n cap)) q (c.setIfInBounds 18 (.slice a' n cap)) a' cap n a2 d2 k2 a3 d3 k3:=by
 obtain⟨x1,o1⟩:=h.o1;obtain⟨x2,o2⟩:=h.o2;obtain⟨x3,o3⟩:=h.o3;have K:=h.q6 o1 lN hA;have B:=h.b6 o1 hA;have O0:Only [q] w' (w'.setCell ⟨q,18,none⟩ (.slice a' n cap)):=(Only.refl [q] _).setCell (.inl lT) _;have p2:=mh (vR o2 hA.only (fun g hg hm=>uP o2 o1 lN g (aJ.2 hg) (aJ.2 hm))) O0 K lN;have p3:=mh (vR o3 hA.only (fun g hg hm=>uP o3 o1 lN g (aJ.2 hg) (aJ.2 hm))) O0 K lN;have p1:=mh hA.own O0 K lN;exact⟨B.setCell (p:=⟨q,18,none⟩) h.ge _,h.ge,K.mg 18 _,by rw[iy];exact h.size,by rw[bZ,aV (by rw[h.size];decide)],by rw[aW lN];exact h.c2,by rw[aW lN];exact h.c3,⟨_,p1⟩,⟨_,p2⟩,⟨_,p3⟩,h.ne⟩
theorem xZ.step2(h:xZ w wr q c a1 d1 k1 a2 d2 k2 a3 d3 k3)(hA:qQ wr w' w.heap.size 35 1 a2 a' n cap xs):xZ w (w'.setCell ⟨q,26,none⟩ (.slice a' n cap)) q (c.setIfInBounds 26 (.slice a' n cap)) a1 d1 k1 a' cap n a3 d3 k3:=by
 obtain⟨x1,o1⟩:=h.o1;obtain⟨x2,o2⟩:=h.o2;obtain⟨x3,o3⟩:=h.o3;have K:=h.q6 o2 lN hA;have B:=h.b6 o2 hA;have O0:Only [q] w' (w'.setCell ⟨q,26,none⟩ (.slice a' n cap)):=(Only.refl [q] _).setCell (.inl lT) _;have p1:=mh (vR o1 hA.only (fun g hg hm=>uP o1 o2 lN g (aJ.2 hg) (aJ.2 hm))) O0 K lN;have p3:=mh (vR o3 hA.only (fun g hg hm=>h.ne g hm hg)) O0 K lN;have p2:=mh hA.own O0 K lN;exact⟨B.setCell (p:=⟨q,26,none⟩) h.ge _,h.ge,K.mg 26 _,by rw[iy];exact h.size,by rw[aW lN];exact h.c1,by rw[bZ,aV (by rw[h.size];decide)],by rw[aW lN];exact h.c3,⟨_,p1⟩,⟨_,p2⟩,⟨_,p3⟩,fun g hg hm=>(hA.at_ g hg).elim (fun e=>h.ne g e hm) fun e=>by have:=(dG o3 g (by rw[lV];exact hm)).2;omega⟩
theorem xZ.alc(h:xZ w wr q c a1 d1 k1 a2 d2 k2 a3 d3 k3)(hA:qQ wr w' w.heap.size 35 1 a3 a' n cap xs):xZ w (w'.setCell ⟨q,27,none⟩ (.slice a' n cap)) q (c.setIfInBounds 27 (.slice a' n cap)) a1 d1 k1 a2 d2 k2 a' cap n:=by
 obtain⟨x1,o1⟩:=h.o1;obtain⟨x2,o2⟩:=h.o2;obtain⟨x3,o3⟩:=h.o3;have K:=h.q6 o3 lN hA;have B:=h.b6 o3 hA;have O0:Only [q] w' (w'.setCell ⟨q,27,none⟩ (.slice a' n cap)):=(Only.refl [q] _).setCell (.inl lT) _;have p1:=mh (vR o1 hA.only (fun g hg hm=>uP o1 o3 lN g (aJ.2 hg) (aJ.2 hm))) O0 K lN;have p2:=mh (vR o2 hA.only h.ne) O0 K lN;have p3:=mh hA.own O0 K lN;exact⟨B.setCell (p:=⟨q,27,none⟩) h.ge _,h.ge,K.mg 27 _,by rw[iy];exact h.size,by rw[aW lN];exact h.c1,by rw[aW lN];exact h.c2,by rw[bZ,aV (by rw[h.size];decide)],⟨_,p1⟩,⟨_,p2⟩,⟨_,p3⟩,fun g hg hm=>(hA.at_ g hm).elim (fun e=>h.ne g hg e) fun e=>by have:=(dG o2 g (by rw[lV];exact hg)).2;omega⟩
end
theorem Uf:(prog.info? 290).any (fun i=>i.size==5&&decide (i.bytes<=1000)&&i.zero.any fun z=>z.cells.size==5)=true:=by kernel_rfl
theorem QA:(prog.info? 292).any (fun i=>i.size==11&&decide (i.bytes<=1000)&&i.zero.any fun z=>z.cells.size==11)=true:=by kernel_rfl
theorem Lj{o:Option TypeInfo}(h:o.any (fun i=>i.size==s&&decide (i.bytes<=1000)&&i.zero.any fun z=>z.cells.size==s)=true): ∃i z,o=some i/\i.zero=some z/\i.size=s/\i.bytes<=1000/\z.cells.size=s:=by
 cases o with
 |none=>simp at h
 |some i=>
  cases hz:i.zero with
  |none=>simp[hz] at h
  |some z=>
   simp[hz] at h;exact⟨i,z,rfl,hz,h.1.1,h.1.2,h.2⟩
theorem QH(l:LI): ∀v∈(ints l).toList,v.oneCell'=true:=by
 intro v hv;simp only[ints,bM] at hv;obtain⟨z,_,rfl⟩:=hv;rfl
theorem abb (x:Nat) (w:World) (f:Int) (n id gx b:Nat) (d:lU) (K:KS) (h:qE x w f n id gx b d K) (hn:n<=13) (h5:d.is.length<=5) (hp:d.nN.length=d.is.length) (hc:d.nG.length=d.is.length) (hpl: ∀p∈d.nN,p.2.length<=64) (hcl: ∀p∈d.nG,p.2.length<=64)
  (hT:d.T.length<=64) (hV:d.V.length<=13) (hes:d.es.length<=4096) (hga:1<=d.ga.length/\d.ga.length<=5) (hol:d.ol.length<=4096) (np nb:Nat) (hpc:d.xU.length=np*5) (hbc:d.vZ.length=nb*11) (hnp:np<=64) (hnb:nb<=64) (afz: ∀v∈d.xU,v.oneCell'=true) (afv: ∀v∈d.vZ,v.oneCell'=true) (gn:Nat):
  Y 55 #[gx,gn] w fun e w'=> ∃q,e= .returned (q:Nat)/\(∃c S' Md,lQ w' q 131 c/\c[22]?=some (.pointer (some ⟨Md,0,none⟩))/\Er w' S' Md 2 d.es d.st d.ct)/\Be w w':=by
 obtain⟨ip,hip,hp0,hp1,hp2⟩:=bq IY;obtain⟨ir,hir,hr0,hr1,hr2⟩:=bq FE;obtain⟨ii,hii,hi0,hi1,hi2⟩:=bq Bh;obtain⟨j0,hj0,hy0,hy1,hy2⟩:=bq wD;have H:=jj h;have HN:=jj hn;obtain⟨n0,hn0⟩:=ex d.is.length;have N0:=jj hn0;have L5:n0<=5:=lK;have LP:Hid (d.nN.length=n0):=jj lK;have LC:Hid (d.nG.length=n0):=jj lK;obtain⟨PL,CL,LT,LV,LE,LG⟩:=j6 hpl hcl hT hV hes hga;obtain⟨LO,PC,BC,P1,Q1⟩:=j5 hol hpc hbc afz afv;have A24:Hid (J w gx 24 (O d.gp np np)):=jj (by rw[h.blk.cell 24,show np=d.xU.length/5 by omega];rfl);have A25:Hid (J w gx 25 (O d.gb nb nb)):=jj (by rw[h.blk.cell 25,show nb=d.vZ.length/11 by omega];rfl);obtain⟨ia,za,hia,hza,hsa,hba,hca⟩:=Lj Uf;obtain⟨ib,zb,hib,hzb,hsb,hbb,hcb⟩:=Lj QA;obtain⟨cs,hcs⟩:=ex (yB f id d);have HK:Hid (lQ w gx 131 cs):=jj (by rw[hcs];exact h.blk);have HS:Hid (cs.size=40):=jj (by rw[hcs];rfl);have af4:Hid (cs.all (·.oneCell')=true):=jj (by rw[hcs];simp[yB,Value.oneCell']);have A18:Hid (cs[18]?=some (.slice (some ⟨d.gr,0,none⟩) n0 d.rX)):=jj (by rw[hcs,hn0];rfl);clear hpc hbc afz afv h hn h5 hp hc hpl hcl hT hV hes hga hol hcs hn0;go_enter func55,ntmps55
 go_upto_region 2 with(refine gU rfl 131 (.tmp 9) rfl gx rfl 131 cs (0,0) _ HK underlying131 rfl (by rw[HS.out];kernel_rfl) ?_;try simp only[Act.put])
 rw[run_storeCells_new w 131 _ cs (by rw[HS.out];kernel_rfl) (by rw[HS.out];rfl) af4,Result.andThen_ok]
 go_upto_region 2 with fail
 obtain⟨w1,hw1⟩:=ex (w.alloc (.cells cs 131));obtain⟨q,hq⟩:=ex w.heap.size;rw[<-hw1,<-hq];have k1:lQ w1 q 131 cs:=by rw[hw1,hq];exact lQ.new _ _ _
 have BX:=tQ hw1;have QE:=jj hq;clear hw1 hq;have f16:=k1.frozen 16;obtain⟨u16,g16⟩: ∃u,J w1 q 16 u:=⟨_,(k1.cell 16).trans (bD (by rw[HS.out];omega))⟩
 go_upto_region 3 with fail
 obtain⟨w2,hw2⟩:=ex (w1.setCell ⟨q,16,none⟩ gn);rw[<-hw2];obtain⟨c2,hc2⟩:=ex (cs.setIfInBounds 16 gn);have K2:Hid (lQ w2 q 131 c2):=jj (by rw[hw2,hc2];exact k1.mg 16 _);have B2:Hid (Be w w2):=jj (by rw[hw2];exact BX.setCell (p:=⟨q,16,none⟩) (by rw[QE.out];exact aF _) _);have Z2:Hid (c2.size=40):=jj (by rw[hc2];simpa using HS.out);clear hw2 hc2 f16 g16 k1 BX;have y17:J w2 gx 17 d.gt:=(H.below B2.out).blk.cell 17
 go_wp2_with fail
 refine(Qb _ d.gt d.now (H.below B2.out).Bc).mono ?_;rintro e w3 ⟨g3,rfl,b3⟩;have B3:=nO B2 b3;have K3:=jj (nZ K2 b3);clear b3 B2 K2 y17;have f17:=K3.frozen 17;have f18:=K3.frozen 18;have f26:=K3.frozen 26;have f27:=K3.frozen 27;obtain⟨Fp,g17⟩: ∃u,J w3 q 17 u:=⟨_,(K3.cell 17).trans (bD (by rw[Z2.out];omega))⟩;obtain⟨Fq,g18⟩: ∃u,J w3 q 18 u:=⟨_,(K3.cell 18).trans (bD (by rw[Z2.out];omega))⟩;obtain⟨u26,g26⟩: ∃u,J w3 q 26 u:=⟨_,(K3.cell 26).trans (bD (by rw[Z2.out];omega))⟩;obtain⟨u27,g27⟩: ∃u,J w3 q 27 u:=⟨_,(K3.cell 27).trans (bD (by rw[Z2.out];omega))⟩
 go_upto_region 5 with fail
 obtain⟨w4,hw4⟩:=ex ((((w3.setCell ⟨q,17,none⟩ g3).setCell ⟨q,18,none⟩ ()).setCell ⟨q,26,none⟩ ()).setCell ⟨q,27,none⟩ ());rw[<-hw4];have N4:Hid (∃c,xZ w w4 q c none 0 0 none 0 0 none 0 0):=jj ⟨(((c2.setIfInBounds 17 g3).setIfInBounds 18 ()).setIfInBounds 26 ()).setIfInBounds 27 (),by
  have Q: ∀k,w.heap.size<=(⟨q,k,none⟩:Addr).block:=fun k=>by show w.heap.size<=q;rw[QE.out];exact aF _
  refine⟨by rw[hw4];exact(((B3.out.setCell (Q 17) _).setCell (Q 18) _).setCell (Q 26) _).setCell (Q 27) _,Q 0,by rw[hw4];exact(((K3.mg 17 _).mg 18 _).mg 26 _).mg 27 _,by simpa using Z2.out,?_,?_,?_,⟨[],rfl,.inl ⟨rfl,rfl⟩⟩,⟨[],rfl,.inl ⟨rfl,rfl⟩⟩,⟨[],rfl,.inl ⟨rfl,rfl⟩⟩,fun g hg=>by simp at hg⟩
  ·rw[aW lN,aW lN,bZ,aV (by simp[Z2.out])]
  ·rw[aW lN,bZ,aV (by simp[Z2.out])]
  rw[bZ,aV (by simp[Z2.out])]⟩
 clear hw4 f17 f18 f26 f27 g17 g18 g26 g27 K3 B3;obtain⟨c4,n4⟩:=N4.out;have y18:J w4 gx 18 (O d.gr n0 d.rX):=((nZ HK n4.below).cell 18).trans A18;clear n4
 go_wp2_with fail
 go_loopw [27] (fun z wr=> ∃k:Nat,k<=n0/\z= U k/\ ∃c a1 d1 a2 d2 a3 d3,xZ w wr q c a1 d1 k a2 d2 k a3 d3 k) (fun z _=>n0 -(intOf z).toNat)
 case atStart=>exact⟨0,lK,by first|rfl|simp,by obtain⟨c,hh⟩:=N4.out;exact⟨c,_,_,_,_,_,_,hh⟩⟩
 case round=>
  obtain⟨k,hk,rfl,c,a1,d1,a2,d2,a3,d3,hN⟩:=hrel;have NW:=jj hN;clear hN y18 N4;by_cases hlt:k<n0
  ·have i1:(k:Int)<n0:=lK
   have i2:(0:Int)<=k:=lK;obtain⟨⟨gi,I⟩,hI⟩: ∃p,d.is[k]?=some p:=⟨_,aj (by rw[<-N0.out];exact hlt)⟩;obtain⟨⟨g20,Sn⟩,h20⟩: ∃p,d.nN[k]?=some p:=⟨_,aj (by rw[LP.out];exact hlt)⟩;obtain⟨⟨g30,Sq⟩,h30⟩: ∃p,d.nG[k]?=some p:=⟨_,aj (by rw[LC.out];exact hlt)⟩;obtain⟨HI,H20,H30⟩:=j3 hI h20 h30;have M2:Hid (Sn.length<=64):=jj (PL.out _ (ak h20));have M3:Hid (Sq.length<=64):=jj (CL.out _ (ak h30));clear hI h20 h30;have yr:J wr d.gr k gi:=(H.below NW.below).ptr HI
   go_upto_region 8 with fail
   obtain⟨x1,o1⟩:=NW.o1;have O1:=jj o1;have KS: ∀w',Be wr w'->J w' q 18 (.slice a1 k d1):=fun w' o=>(NW.cell o).1;clear o1 yr;refine rP (fun w'=>J w' q 18 (.slice a1 k d1)) 7 (tk 0 3 (.one 3 (.one 4 (.one 5 (.take 6 (.one 7 .done)))))) (KS _ (aC _ _).drew) ?_;intro hS0;have B0:Be wr wr.drew:=(aC _ _).drew;obtain⟨u0,hu0⟩:=ex wr.drew;rw[<-hu0] at hS0 B0|-;clear hu0
   repeat refine' tT ?_
   refine pO fun KT lS=> ?_;go_simp;refine(aaR x _ f n k 4 gi I ((H.below (NW.keep B0).below).inst HI) HN).mono ?_;rintro e u5 ⟨r,rfl,hb5⟩;have B5:Be wr u5:=B0.trans (hb5.mono B0.size);clear hb5;refine oI lS (KS _ B5) fun _=> ?_;refine pO fun KT lS=> ?_;refine wK (by rfl) 122 1 _ (by rfl) #[(0,.pointer (some ⟨r,0,none⟩))] (by go_simp) _ (yj 122 164 ip _ underlying122 hip hp0 hp1 r rfl _) ?_;have B6:=B5.alloc B5.size (.cells #[r] 164);refine oI lS (KS _ B6) fun _=> ?_;refine pO fun KT lS=> ?_;refine oo (by rfl) _ _ _ (by rfl) w.heap.size 164 ip _ 1 8 underlying122 hip hp0 hp1 hp2 rfl lK a1 k d1 x1 (by rfl) (own_below O1 B6) (some ⟨u5.heap.size,0,none⟩) 1 1 [r] (by rfl) (qC _ _ _) (by simp[Value.oneCell']) (by unfold maxLen;omega) lK (VZ NW.below.size B6.size) ?_;intro e8 c8 u8 h8;have N6:=NW.keep B6;have Q8:=jj (N6.q6 (own_below O1 B6) lN h8);have S8:J u8 q 18 (.slice a1 k d1):=(Q8.cell 18).trans N6.c1;have f8:=Q8.frozen 18;refine oI lS S8 fun _=> ?_
   repeat refine' tT ?_
   refine pL fun KT lS=> ?_;go_simp;refine oL lS ?_;refine lM ?_;clear hS0 KS f8;have N8:=jj (N6.step1 h8);obtain⟨v8,hv8⟩:=ex (u8.setCell ⟨q,18,none⟩ (.slice e8 (k+1) c8));rw[<-hv8] at N8|-;clear hv8 h8 S8 Q8 N6 B6 B5 B0 O1
   go_upto_region 9 with fail
   obtain⟨x2,o2⟩:=N8.o2;have O2:=jj o2;have HR2:Hid (lQ v8 g20 3 (ints Sn)):=jj (((H.below N8.below).nN.KI _ (ak H20)));have KS: ∀w',Be v8 w'->J w' q 26 (.slice a2 k d2)/\J w' gx 26 (O d.xL d.nN.length d.Aq)/\J w' d.xL k (O g20 Sn.length Sn.length):=fun w' o=>⟨(N8.cell o).2.1,(H.below (N8.keep o).below).blk.cell 26,(H.below (N8.keep o).below).nN.out.cell (by rw[aS,H20.out];rfl)⟩;have j2:(k:Int)<d.nN.length:=by have:=(ah.1 H20).1;omega
   clear o2;refine rP (fun w'=>J w' q 26 (.slice a2 k d2)/\J w' gx 26 (O d.xL d.nN.length d.Aq)/\J w' d.xL k (O g20 Sn.length Sn.length)) 13 (tk 0 9 (.one 9 (.one 10 (.one 11 (.take 12 (.one 13 .done)))))) (KS _ (aC _ _).drew) ?_;intro hS0;have B0:Be v8 v8.drew:=(aC _ _).drew;obtain⟨u0,hu0⟩:=ex v8.drew;rw[<-hu0] at hS0 B0|-;clear hu0
   repeat refine' tT ?_
   refine pO fun KT lS=> ?_;refine oo (by rfl) _ _ _ (by rfl) u0.heap.size 3 ii _ 1 8 underlying35 hii hi0 hi1 hi2 rfl lK none 0 0 [] (by rfl) ⟨rfl,.inl ⟨rfl,rfl⟩⟩ (some ⟨g20,0,none⟩) Sn.length Sn.length ((ints Sn).toList) (by rfl) ((mo.nR HR2 (by simp[ints])).below B0) (QH Sn) (by unfold maxLen;have:=M2.out;omega) (tL M2.out) (aF _) ?_;intro e5 c5 u5 h5;have B5:Be v8 u5:=B0.trans (h5.only.mY.mono B0.size);clear h5;rw[aO];refine oI lS (KS _ B5) fun _=> ?_;refine pO fun KT lS=> ?_;refine wK (by rfl) 129 1 _ (by rfl) #[(0,.slice e5 Sn.length c5)] (by go_simp) _ (yj 129 35 ir _ underlying129 hir hr0 hr1 (.slice e5 Sn.length c5) rfl _) ?_;have B6:=B5.alloc B5.size (.cells #[.slice e5 Sn.length c5] 35);refine oI lS (KS _ B6) fun _=> ?_;refine pO fun KT lS=> ?_;refine oo (by rfl) _ _ _ (by rfl) w.heap.size 35 ir _ 1 24 underlying129 hir hr0 hr1 hr2 rfl lK a2 k d2 x2 (by rfl) (own_below O2 B6) (some ⟨u5.heap.size,0,none⟩) 1 1 [.slice e5 Sn.length c5] (by rfl) (qC _ _ _) (by simp[Value.oneCell']) (by unfold maxLen;omega) lK (VZ N8.below.size B6.size) ?_;intro e8 c8 u8 h8;have N6:=N8.keep B6;have Q8:=jj (N6.q6 (own_below O2 B6) lN h8);have S8:J u8 q 26 (.slice a2 k d2)/\J u8 gx 26 (O d.xL d.nN.length d.Aq)/\J u8 d.xL k (O g20 Sn.length Sn.length):=⟨(Q8.cell 26).trans N6.c2,(H.below (N6.b6 (own_below O2 B6) h8)).blk.cell 26,(H.below (N6.b6 (own_below O2 B6) h8)).nN.out.cell (by rw[aS,H20.out];rfl)⟩;have f8:=Q8.frozen 26;refine oI lS S8 fun _=> ?_
   repeat refine' tT ?_
   refine pL fun KT lS=> ?_;go_simp;refine oL lS ?_;refine lM ?_;clear hS0 KS f8;have N9:=jj (N6.step2 h8);obtain⟨v9,CR⟩:=ex (u8.setCell ⟨q,26,none⟩ (.slice e8 (k+1) c8));rw[<-CR] at N9|-;clear CR h8 S8 Q8 N6 B6 B5 B0 O2 HR2 N8
   go_upto_region 10 with fail
   obtain⟨x3,o3⟩:=N9.o3;have O3:=jj o3;have HR3:Hid (lQ v9 g30 3 (ints Sq)):=jj (((H.below N9.below).nG.KI _ (ak H30)));have KS: ∀w',Be v9 w'->J w' q 27 (.slice a3 k d3)/\J w' gx 27 (O d.xK d.nG.length d.zR)/\J w' d.xK k (O g30 Sq.length Sq.length):=fun w' o=>⟨(N9.cell o).2.2,(H.below (N9.keep o).below).blk.cell 27,(H.below (N9.keep o).below).nG.out.cell (by rw[aS,H30.out];rfl)⟩;have j3:(k:Int)<d.nG.length:=by have:=(ah.1 H30).1;omega
   clear o3;refine rP (fun w'=>J w' q 27 (.slice a3 k d3)/\J w' gx 27 (O d.xK d.nG.length d.zR)/\J w' d.xK k (O g30 Sq.length Sq.length)) 13 (tk 0 9 (.one 9 (.one 10 (.one 11 (.take 12 (.one 13 .done)))))) (KS _ (aC _ _).drew) ?_;intro hS0;have B0:Be v9 v9.drew:=(aC _ _).drew;obtain⟨u0,hu0⟩:=ex v9.drew;rw[<-hu0] at hS0 B0|-;clear hu0
   repeat refine' tT ?_
   refine pO fun KT lS=> ?_;refine oo (by rfl) _ _ _ (by rfl) u0.heap.size 3 ii _ 1 8 underlying35 hii hi0 hi1 hi2 rfl lK none 0 0 [] (by rfl) ⟨rfl,.inl ⟨rfl,rfl⟩⟩ (some ⟨g30,0,none⟩) Sq.length Sq.length ((ints Sq).toList) (by rfl) ((mo.nR HR3 (by simp[ints])).below B0) (QH Sq) (by unfold maxLen;have:=M3.out;omega) (tL M3.out) (aF _) ?_;intro e5 c5 u5 h5;have B5:Be v9 u5:=B0.trans (h5.only.mY.mono B0.size);clear h5;rw[aO];refine oI lS (KS _ B5) fun _=> ?_;refine pO fun KT lS=> ?_;refine wK (by rfl) 129 1 _ (by rfl) #[(0,.slice e5 Sq.length c5)] (by go_simp) _ (yj 129 35 ir _ underlying129 hir hr0 hr1 (.slice e5 Sq.length c5) rfl _) ?_;have B6:=B5.alloc B5.size (.cells #[.slice e5 Sq.length c5] 35);refine oI lS (KS _ B6) fun _=> ?_;refine pO fun KT lS=> ?_;refine oo (by rfl) _ _ _ (by rfl) w.heap.size 35 ir _ 1 24 underlying129 hir hr0 hr1 hr2 rfl lK a3 k d3 x3 (by rfl) (own_below O3 B6) (some ⟨u5.heap.size,0,none⟩) 1 1 [.slice e5 Sq.length c5] (by rfl) (qC _ _ _) (by simp[Value.oneCell']) (by unfold maxLen;omega) lK (VZ N9.below.size B6.size) ?_;intro e8 c8 u8 h8;have N6:=N9.keep B6;have Q8:=jj (N6.q6 (own_below O3 B6) lN h8);have S8:J u8 q 27 (.slice a3 k d3)/\J u8 gx 27 (O d.xK d.nG.length d.zR)/\J u8 d.xK k (O g30 Sq.length Sq.length):=⟨(Q8.cell 27).trans N6.c3,(H.below (N6.b6 (own_below O3 B6) h8)).blk.cell 27,(H.below (N6.b6 (own_below O3 B6) h8)).nG.out.cell (by rw[aS,H30.out];rfl)⟩;have f8:=Q8.frozen 27;refine oI lS S8 fun _=> ?_
   repeat refine' tT ?_
   refine pL fun KT lS=> ?_;go_simp;refine oL lS ?_;refine lM ?_;clear hS0 KS f8;have N10:=jj (N6.alc h8);obtain⟨v10,akR⟩:=ex (u8.setCell ⟨q,27,none⟩ (.slice e8 (k+1) c8));rw[<-akR] at N10|-;clear akR h8 S8 Q8 N6 B6 B5 B0 O3 HR3 N9
   go_wp2_with fail
   go_roundw
   case rel=>exact⟨k+1,lK,by go_num,_,_,_,_,_,_,_,N10⟩
   simp[intOf];omega
  obtain rfl:k=n0:=lK;obtain⟨KQ,ZQ,BQ,QG⟩:=j4 NW.blk NW.size NW.below NW.ge;have KS: ∀w',Be w w'->J w' gx 19 d.nH/\J w' gx 20 d.gv/\J w' gx 21 d.gg:=fun w' o=>⟨(H.below o).blk.cell 19,(H.below o).blk.cell 20,(H.below o).blk.cell 21⟩;clear NW
  go_upto_region 12 with fail
  refine rP (fun w'=>J w' gx 19 d.nH/\J w' gx 20 d.gv/\J w' gx 21 d.gg) 20 (tk 0 4 (tk 5 4 (tk 10 4 (.one 4 (.one 9 (.one 14 (.take 15 (.one 16 (.take 17 (.one 18 (.take 19 (.one 20 .done)))))))))))) (KS _ (BQ.trans (aC _ _).drew)) ?_;intro hS0;have B0:Be w wr.drew:=BQ.trans (aC _ _).drew;obtain⟨u0,hu0⟩:=ex wr.drew;have K0:=jj KQ.drew;rw[<-hu0] at hS0 B0 K0|-;clear hu0 KQ BQ
  repeat refine' tT ?_
  refine pO fun KT lS=> ?_;go_simp;refine(ach _ d.nH f 2 d.T d.ST (H.below B0).tab LT).mono ?_;rintro e u1 ⟨r1,rfl,b1⟩;have B1:=B0.trans (b1.mono B0.size);have K1:=jj (nZ K0 b1);clear b1;refine oI lS (KS _ B1) fun _=> ?_;refine pO fun KT lS=> ?_;go_simp;refine(acC _ d.gv d.Iz f d.V (H.below B1).vot LV).mono ?_;rintro e u2 ⟨r2,rfl,b2⟩;have B2:=B1.trans (b2.mono B1.size);have K2:=jj (nZ K1 b2);clear b2;refine oI lS (KS _ B2) fun _=> ?_;refine pO fun KT lS=> ?_;go_simp;refine(aay _ d.gg 8 8 (H.below B2).grd).mono ?_;rintro e u3 ⟨r3,rfl,b3⟩;have B3:=B2.trans (b3.mono B2.size);have K3:=jj (nZ K2 b3);clear b3 K0 K1 K2 B0 B1 B2;refine oI lS (KS _ B3) fun _=> ?_;have f19:=K3.frozen 19;have f20:=K3.frozen 20;have f21:=K3.frozen 21;obtain⟨yL,g19⟩: ∃u,J u3 q 19 u:=⟨_,(K3.cell 19).trans (bD (by rw[ZQ.out];omega))⟩;obtain⟨u20,g20⟩: ∃u,J u3 q 20 u:=⟨_,(K3.cell 20).trans (bD (by rw[ZQ.out];omega))⟩;obtain⟨u21,g21⟩: ∃u,J u3 q 21 u:=⟨_,(K3.cell 21).trans (bD (by rw[ZQ.out];omega))⟩;have B4:=B3.setCell (p:=⟨q,19,none⟩) QG r1;have B5:=B4.setCell (p:=⟨q,20,none⟩) QG r2;have B6:=B5.setCell (p:=⟨q,21,none⟩) QG r3
  repeat refine' tT ?_
  refine pO fun KT lS=> ?_;go_simp;refine oI lS (KS _ B4) fun _=> ?_
  repeat refine' tT ?_
  refine pO fun KT lS=> ?_;go_simp;refine oI lS (KS _ B5) fun _=> ?_
  repeat refine' tT ?_
  refine pL fun KT lS=> ?_;go_simp;refine oL lS ?_;refine lM ?_;clear hS0 KS f19 f20 f21 g19 g20 g21;obtain⟨v12,ahb⟩:=ex (((u3.setCell ⟨q,19,none⟩ r1).setCell ⟨q,20,none⟩ r2).setCell ⟨q,21,none⟩ r3);obtain⟨c12,Qu⟩:=ex (((c.setIfInBounds 19 r1).setIfInBounds 20 r2).setIfInBounds 21 r3);have K12:Hid (lQ v12 q 131 c12):=jj (by rw[ahb,Qu];exact((K3.mg 19 _).mg 20 _).mg 21 _);have Z12:Hid (c12.size=40):=jj (by rw[Qu];simpa using ZQ.out);rw[<-ahb] at B6|-;have B12:=jj B6;clear ahb Qu B3 B4 B5 B6 K3 ZQ;have KS: ∀w',Be w w'->J w' gx 22 d.gd/\J w' gx 23 d.gm:=fun w' o=>⟨(H.below o).blk.cell 22,(H.below o).blk.cell 23⟩
  go_upto_region 13 with fail
  refine rP (fun w'=>J w' gx 22 d.gd/\J w' gx 23 d.gm) 13 (tk 0 4 (tk 5 4 (.one 4 (.one 9 (.take 10 (.one 11 (.take 12 (.one 13 .done)))))))) (KS _ (B12.trans (aC _ _).drew)) ?_;intro hS0;have B0:Be w v12.drew:=B12.trans (aC _ _).drew;obtain⟨u0,hu0⟩:=ex v12.drew;have K0:=jj K12.drew;rw[<-hu0] at hS0 B0 K0|-;clear hu0 K12 B12
  repeat refine' tT ?_
  refine pO fun KT lS=> ?_;go_simp;refine(QJ d.SL d.gd 2 d.es d.st d.ct _ (H.below B0).led LE).mono ?_;rintro e u1 ⟨SL,gy,rfl,hL1,hge,b1⟩;have B1:=B0.trans (b1.mono B0.size);have K1:=jj (nZ K0 b1);have QN:Hid (∀k∈SL,k∉ [q]):=jj (fun k hk hm=>by simp only[au] at hm;have:=hge k hk;have:=K0.lt;omega);clear b1 hge;refine oI lS (KS _ B1) fun _=> ?_;refine pO fun KT lS=> ?_;go_simp;refine(aa5 d.gm d.Dl d.ga _ (H.below B1).met LG.1 LG.2).mono ?_;rintro e u2 ⟨gmd,gmk,rfl,-,-,-,b2⟩;have B2:=B1.trans (b2.mono B1.size);have K2:=jj (nZ K1 b2);have L2:=hL1.below b2;clear b2 K0 K1 B0 B1 hL1;refine oI lS (KS _ B2) fun _=> ?_;have f22:=K2.frozen 22;have f23:=K2.frozen 23;obtain⟨u22,g22⟩: ∃u,J u2 q 22 u:=⟨_,(K2.cell 22).trans (bD (by rw[Z12.out];omega))⟩;obtain⟨u23,g23⟩: ∃u,J u2 q 23 u:=⟨_,(K2.cell 23).trans (bD (by rw[Z12.out];omega))⟩;have B3:=B2.setCell (p:=⟨q,22,none⟩) QG gy;have B4:=B3.setCell (p:=⟨q,23,none⟩) QG gmd
  repeat refine' tT ?_
  refine pO fun KT lS=> ?_;go_simp;refine oI lS (KS _ B3) fun _=> ?_
  repeat refine' tT ?_
  refine pL fun KT lS=> ?_;go_simp;refine oL lS ?_;refine lM ?_;clear hS0 KS f22 f23 g22 g23;obtain⟨v13,adP⟩:=ex ((u2.setCell ⟨q,22,none⟩ gy).setCell ⟨q,23,none⟩ gmd);obtain⟨c13,adH⟩:=ex ((c12.setIfInBounds 22 gy).setIfInBounds 23 gmd);have K13:Hid (lQ v13 q 131 c13):=jj (by rw[adP,adH];exact(K2.mg 22 _).mg 23 _);have Z13:Hid (c13.size=40):=jj (by rw[adH];simpa using Z12.out);have P13:Hid (c13[22]?=some (.pointer (some ⟨gy,0,none⟩))):=jj (by rw[adH,aW lN,bZ,aV (by rw[Z12.out];decide)]);have L13:Hid (Er v13 SL gy 2 d.es d.st d.ct):=jj (by rw[adP];exact L2.only (((Only.refl [q] _).setCell (.inl lT) _).setCell (.inl lT) _) QN);rw[<-adP] at B4|-;have B13:=jj B4;clear adP adH B2 B3 B4 K2 Z12 L2;have y24:J v13 gx 24 (O d.gp np np):=kept B13 _ _ A24;have V24:=jj ((mo.nR (n:=np) (s:=5) H.parts (by rw[gZ,PC.out])).below B13)
  go_upto_region 15 with(at_builtin;refine lZ rfl _ _ _ rfl v13.heap.size 290 ia _ 5 ia.bytes underlying127 hia hza hsa rfl hca lK none 0 0 [] rfl ⟨rfl,.inl ⟨rfl,rfl⟩⟩ (some ⟨d.gp,0,none⟩) np np _ rfl V24 (fun v hv=>P1.out v (mR hv)) (by unfold maxLen;omega) (aG (jK (show 0+np<=64 by omega) hba) lN) (aF _) ?_;intro a14 d14 CS h8;have b8:=h8.only.mY;have E14:Hid (Be w CS):=jj (B13.trans (b8.mono B13.size));have J14:=jj (nZ K13 b8);have T14:=jj (L13.below b8);clear h8 b8;have f24:=J14.frozen 24;obtain⟨z24,g24⟩: ∃u,J CS q 24 u:=⟨_,(J14.cell 24).trans (bD (by rw[Z13.out];omega))⟩;try simp only[Act.put])
  obtain⟨v14,TJ⟩:=ex (CS.setCell ⟨q,24,none⟩ (.slice a14 (0+np) d14))
  first|rw[<-TJ]|(simp only[aO] at TJ|-;rw[<-TJ])
  obtain⟨c14,adI⟩:=ex (c13.setIfInBounds 24 (.slice a14 np d14));have K14:Hid (lQ v14 q 131 c14):=jj (by rw[TJ,adI];simpa using J14.mg 24 _);have B14:Hid (Be w v14):=jj (by rw[TJ];exact E14.setCell (p:=⟨q,24,none⟩) QG _);have L14:Hid (Er v14 SL gy 2 d.es d.st d.ct):=jj (by rw[TJ];exact T14.only ((Only.refl [q] _).setCell (.inl lT) _) QN);have Z14:Hid (c14.size=40):=jj (by rw[adI];simpa using Z13.out);have P14:Hid (c14[22]?=some (.pointer (some ⟨gy,0,none⟩))):=jj (by rw[adI,aW lN];exact P13.out);clear TJ adI J14 E14 T14 f24 g24 y24 V24 K13 B13 L13 Z13 P13;have y25:J v14 gx 25 (O d.gb nb nb):=kept B14 _ _ A25;have V25:=jj ((mo.nR (n:=nb) (s:=11) H.begun (by rw[gZ,BC.out])).below B14)
  go_upto_region 16 with(at_builtin;refine lZ rfl _ _ _ rfl v14.heap.size 292 ib _ 11 ib.bytes underlying128 hib hzb hsb rfl hcb lK none 0 0 [] rfl ⟨rfl,.inl ⟨rfl,rfl⟩⟩ (some ⟨d.gb,0,none⟩) nb nb _ rfl V25 (fun v hv=>Q1.out v (mR hv)) (by unfold maxLen;omega) (aG (jK (show 0+nb<=64 by omega) hbb) lN) (aF _) ?_;intro a15 d15 CX h8;have b8:=h8.only.mY;have E15:Hid (Be w CX):=jj (B14.trans (b8.mono B14.size));have J15:=jj (nZ K14 b8);have T15:=jj (L14.below b8);clear h8 b8;have f25:=J15.frozen 25;obtain⟨z25,g25⟩: ∃u,J CX q 25 u:=⟨_,(J15.cell 25).trans (bD (by rw[Z14.out];omega))⟩;try simp only[Act.put])
  obtain⟨v15,TP⟩:=ex (CX.setCell ⟨q,25,none⟩ (.slice a15 (0+nb) d15))
  first|rw[<-TP]|(simp only[aO] at TP|-;rw[<-TP])
  obtain⟨c15,adJ⟩:=ex (c14.setIfInBounds 25 (.slice a15 nb d15));have K15:Hid (lQ v15 q 131 c15):=jj (by rw[TP,adJ];simpa using J15.mg 25 _);have B15:Hid (Be w v15):=jj (by rw[TP];exact E15.setCell (p:=⟨q,25,none⟩) QG _);have L15:Hid (Er v15 SL gy 2 d.es d.st d.ct):=jj (by rw[TP];exact T15.only ((Only.refl [q] _).setCell (.inl lT) _) QN);have Z15:Hid (c15.size=40):=jj (by rw[adJ];simpa using Z14.out);have P15:Hid (c15[22]?=some (.pointer (some ⟨gy,0,none⟩))):=jj (by rw[adJ,aW lN];exact P14.out);clear TP adJ J15 E15 T15 f25 g25 y25 V25 K14 B14 L14 Z14 P14;have y34:J v15 gx 34 (.slice d.oa d.ol.length d.oc):=kept B15 _ _ (H.blk.cell 34);have V34:=jj ((l9 H.out.out.own).below B15)
  go_upto_region 17 with(at_builtin;refine lZ rfl _ _ _ rfl v15.heap.size 179 j0 _ 2 32 underlying109 hj0 hy0 hy1 hy2 rfl lK none 0 0 [] rfl ⟨rfl,.inl ⟨rfl,rfl⟩⟩ d.oa d.ol.length d.oc _ rfl V34 (Ec d.ol) (by unfold maxLen;have:=LO.out;omega) (tL LO.out) (aF _) ?_;intro a16 d16 u16 h8;have b8:=h8.only.mY;have E16:Hid (Be w u16):=jj (B15.trans (b8.mono B15.size));have J16:=jj (nZ K15 b8);have T16:=jj (L15.below b8);clear h8 b8;have f34:=J16.frozen 34;obtain⟨z34,g34⟩: ∃u,J u16 q 34 u:=⟨_,(J16.cell 34).trans (bD (by rw[Z15.out];omega))⟩;try simp only[Act.put])
  obtain⟨v16,TQ⟩:=ex (u16.setCell ⟨q,34,none⟩ (.slice a16 (0+d.ol.length) d16))
  first|rw[<-TQ]|(simp only[aO] at TQ|-;rw[<-TQ])
  obtain⟨c16,hc16⟩:=ex (c15.setIfInBounds 34 (.slice a16 d.ol.length d16));have K16:Hid (lQ v16 q 131 c16):=jj (by rw[TQ,hc16];simpa using J16.mg 34 _);have B16:Hid (Be w v16):=jj (by rw[TQ];exact E16.setCell (p:=⟨q,34,none⟩) QG _);have L16:Hid (Er v16 SL gy 2 d.es d.st d.ct):=jj (by rw[TQ];exact T16.only ((Only.refl [q] _).setCell (.inl lT) _) QN);have Z16:Hid (c16.size=40):=jj (by rw[hc16];simpa using Z15.out);have P16:Hid (c16[22]?=some (.pointer (some ⟨gy,0,none⟩))):=jj (by rw[hc16,aW lN];exact P15.out);clear TQ hc16 J16 E16 T16 f34 g34 y34 V34 K15 B15 L15 Z15 P15
  go_wp2_with fail
  go_ret;exact⟨q,by trivial,⟨c16,SL,gy,K16,P16,L16⟩,B16⟩
end Go.Proofs.YtgnhecmnlddjhaaGreat
