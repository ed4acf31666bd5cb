/- append, copy, make. -/
import Derived.Test.YtcdbmkidaecdiaaGreatAy5
namespace Go.Ay
open Go
section
variable {e t u:TypeId} {ns:List Value} {n k:Nat} {i:TypeInfo} {z y:Value}
section
variable {P:Program} {m:M} {h:H} {w:World}
theorem Zb {s b:Nat}(d:iG P e=some s)(c:Ba P e=some b): ∃i,P.info? e=some i/\i.size=s/\i.bytes=b:=by
 unfold iG Ba at*;simp only[lT] at*;obtain⟨i,hi,rfl⟩:=d;obtain⟨j,a,rfl⟩:=c;rw[hi] at a;cases a;exact⟨i,hi,rfl,rfl⟩
theorem Ex {s:Nat}(h:BX P e s=true): ∃i z,P.info? e=some i/\i.zero=some z/\z.cells.size=s:=by
 unfold BX at h
 cases hi:P.info? e with
 |none=>simp [hi] at h
 |some i=>
  cases hz:i.zero with
  |none=>simp [hi,hz] at h
  |some z=>simp [hi,hz] at h;exact⟨i,z,rfl,hz,h⟩
theorem Li (z:Array Value)(n:Nat):(Builtin.zeroCells z n).size=n*z.size:=by simp [Builtin.zeroCells]
theorem FB (J:HR P m h w)(q:fW m h.next){xs g:List V}{c:List Value}(F:gJ m xs c)(B:gJ m g ns)(l: ∀v∈xs,v.one=true)(j: ∀v∈g,v.one=true)
  {sz a:Nat} (r:c.length=n*sz) (x:ns.length=k*sz) (f:n+k<=a) {z:Array Value} (G:z.size=sz) (b:TypeId) (d:Nat):
  ∃m',VR m' (.sl h.next 0 (n+k) (.un sz)) (.slice (some ⟨w.heap.size,0,none⟩) (n+k) a)/\
   iC P m h w m' (h.new (.cells false (xs++g))) (({w with drawn:=d}:World).alloc (.cells (c.toArray++ns.toArray++Builtin.zeroCells z (a-(n+k))) b)):=by
 have p:=iC.drawn J q d
 have o:=wU (w:={w with drawn:=d}) p.rel q (Builtin.zeroCells z (a-(n+k))).toList (F.append B) (by
  intro v A;rcases kT.1 A with h|h
  ·exact l v h
  ·exact j v h) b
 have s:(c++ns++(Builtin.zeroCells z (a-(n+k))).toList).toArray=c.toArray++ns.toArray++Builtin.zeroCells z (a-(n+k)):=by
  apply Array.toList_inj.1;simp
 rw[s] at o
 refine⟨_,⟨(w.heap.size,0,c.length+ns.length+(Builtin.zeroCells z (a-(n+k))).size),a,0,by simp [M.set],rfl,f,λ_=>rfl,?_⟩,p.trans o⟩
 simp only[Li,G,r,x]
 have:a*sz=(n*sz+k*sz)+(a-(n+k))*sz:=by rw[←Nat.add_mul,←Nat.add_mul];congr 1;omega
 omega
structure aeE (P:Program)(w:World)(u:TypeId)(elem:TypeId)(i:TypeInfo)(z:Value)(k:Nat)(y:Value)(ns:List Value):Prop where
 len:ns.length=k*i.size
 run:(∃e',P.underlying u=some (.slice e')/\(Builtin.lenOf y).run P w= .ok k w/\ ∀d,(Builtin.firstCells i.size k y).run P {w with drawn:=d}= .ok ns.toArray {w with drawn:=d})∨
  (∃kk,P.underlying u=some (.int kk)/\y= .int .i64 (k:Int)/\(k:Int)*i.bytes<=2^48/\(k:Int)<2^62/\(k*i.size≠0->ns.toArray=Builtin.zeroCells z.cells k))
theorem pM (h:(n:Int)<2^62):IntKind.i64.wrap n=n:=by
 unfold IntKind.wrap;simp only[IntKind.bits,IntKind.signed];have:(n:Int)%2^64=n:=Int.emod_eq_of_lt om om;simp only[this];rw[bL];simp;omega
theorem Ai {ty:TypeId}(s:P.underlying t=some (.slice e))(hi:P.info? e=some i)(B:i.zero=some z)
  {base:Option Addr} {c:Nat}   (j:aeE P w u e i z k y ns) (f:n+k<=c) {w':World}
  (g:match base with|some a=>(storeCells (a.add (n*i.size)) ns).run P w= .ok () w'|none=>w'=w):
  (Builtin.append_ #[t,u] ty #[.slice base n c,y]).run P w= .ok (.slice base (n+k) c) w':=by
 rcases j.run with ⟨J,r,p,o⟩|⟨G,r,rfl,F,b,x⟩
 ·have A:=o w.drawn
  cases base with
  |none=>simp only at g;subst g;simp [Builtin.append_,run_underlying s,run_underlying r,sizeOf,typeInfo,hi,p,A,f]
  |some a=>simp only at g;simp [Builtin.append_,run_underlying s,run_underlying r,sizeOf,typeInfo,hi,p,A,f,g]
 ·have l: ¬((k:Int)<0):=om
  have v: ¬(281474976710656<(k:Int)*i.bytes):=om
  by_cases d:k*i.size=0
  ·have q:ns= []:=WE (by rw[j.len,d])
   subst q
   cases base with
   |none=>simp only at g;subst g;simp [Builtin.append_,run_underlying s,run_underlying r,sizeOf,typeInfo,hi,asInt,asIntOf,pM b,l,v,f,d]
   |some a=>simp only at g;simp [Builtin.append_,run_underlying s,run_underlying r,sizeOf,typeInfo,hi,asInt,asIntOf,pM b,l,v,f,d,g]
  ·have q:=x d
   cases base with
   |none=>simp only at g;subst g;simp [Builtin.append_,run_underlying s,run_underlying r,sizeOf,typeInfo,zeroValue,hi,B,asInt,asIntOf,pM b,l,v,f,d]
   |some a=>
    have:(Builtin.zeroCells z.cells k).toList=ns:=by rw[←q]
    simp only at g;simp [Builtin.append_,run_underlying s,run_underlying r,sizeOf,typeInfo,zeroValue,hi,B,asInt,asIntOf,pM b,l,v,f,d,this,g]
theorem AZ {ty:TypeId}(F:P.underlying t=some (.slice e))(hi:P.info? e=some i)(L:i.zero=some z)
  {base:Option Addr} {c:Nat}  {J:List Value} (g:aeE P w u e i z k y ns) (A: ∀d,(Builtin.firstCells i.size n (.slice base n c)).run P {w with drawn:=d}= .ok J.toArray {w with drawn:=d})
  (B:c<n+k) (N:(2*(n+k)+1000)*i.bytes<=2^48) (U:n+k<2^62):
  ∃cap d,n+k<=cap/\(Builtin.append_ #[t,u] ty #[.slice base n c,y]).run P w= .ok (.slice (some ⟨w.heap.size,0,none⟩) (n+k) cap)
   (({w with drawn:=d}:World).alloc (.cells (J.toArray++ns.toArray++Builtin.zeroCells z.cells (cap-(n+k))) e)):=by
 have b: ¬(Builtin.nextslicecap (n+k) c*i.bytes>2^48):=by
  have Y:=nextslicecap_le B;have Q:Builtin.nextslicecap (n+k) c*i.bytes<=(2*(n+k)+1000)*i.bytes:=Nat.mul_le_mul_right _ om;omega
 have a:(Question.appendCap (n+k) c e).forced=false:=rfl
 have r: ¬(9223372036854775807<(n:Int)+(k:Int)):=om
 have j:IntKind.i64.max=9223372036854775807:=by decide
 refine⟨(Question.appendCap (n+k) c e).cut (w.tape w.drawn (.appendCap (n+k) c e)),w.drawn+1,by simp [Question.cut],?_⟩
 have f: ¬(n+k<=c):=om
 have G:(Builtin.firstCells i.size n (.slice base n c)).run P w.drew= .ok J.toArray w.drew:=A (w.drawn+1)
 rcases g.run with ⟨Z,x,v,l⟩|⟨W,x,rfl,R,p,K⟩
 ·have Q:(Builtin.firstCells i.size k y).run P w.drew= .ok ns.toArray w.drew:=l (w.drawn+1)
  simp [Builtin.append_,run_underlying F,run_underlying x,sizeOf,typeInfo,zeroValue,hi,L,v,f,r,j,b,a,G,Q,newRow]
  congr 2
  apply Array.toList_inj.1
  simp
 ·have s: ¬((k:Int)<0):=om
  have O: ¬(281474976710656<(k:Int)*i.bytes):=om
  by_cases o:k*i.size=0
  ·have q:ns= []:=WE (by rw[g.len,o])
   subst q
   simp [Builtin.append_,run_underlying F,run_underlying x,sizeOf,typeInfo,zeroValue,hi,L,asInt,asIntOf,pM p,s,O,f,r,j,b,a,G,newRow,o]
  ·have q:=K o
   simp [Builtin.append_,run_underlying F,run_underlying x,sizeOf,typeInfo,zeroValue,hi,L,asInt,asIntOf,pM p,s,O,f,r,j,b,a,G,newRow,o,q]
theorem Ry (hr:HR P m h w)(hf:fW m h.next){sz bytes:Nat}(ht:P.underlying t=some (.slice e))(hi:P.info? e=some i)(hz:i.zero=some z)
  (hs:i.size=sz) (hb:i.bytes=bytes) (d0:z.cells.size=sz) {v r:V} {x:Value}  {R:List V}  {h':H} (U:VR m v x) (hy:gJ m R ns) (W: ∀v∈R,v.one=true)
  (a:aeE P w u e i z k y ns) (g:yA h sz bytes v k R=some (r,h')) (ty:TypeId):
  aT P m h w (Builtin.append_ #[t,u] ty #[x,y]) r h':=by
 subst hs
 subst hb
 unfold yA at g
 split at g
 ·rename_i n xs hn a8
  obtain⟨os,c6,b5,b9,c0⟩:=Lb hr U hn a8
  obtain⟨Z,c,rfl⟩:=tA U hn
  have a7:R.length=k*i.size:=(gJ.length hy).trans a.len
  split at g
  ·rename_i hk
   cases g
   subst hk
   have c3:ns= []:=WE (by rw[a.len];simp)
   subst c3
   have b7:n+0<=c:=by
    cases v<;>simp only[uB] at hn<;>try cases hn
    ·obtain⟨p,c',G,_,N,b7,_⟩:=U;cases N;omega
    ·cases U;omega
    ·cases U;omega
   refine aT.still hr hf (Ai ht hi hz a b7 (w':=w) ?_) U
   cases Z<;>simp [storeCells]
  ·split at g
   ·rename_i d7 a4
    have L:c<n+k-> ∀(hh:H),hh=h.new (.cells false (xs++R))->aT P m h w (Builtin.append_ #[t,u] ty #[.slice Z n c,y]) (.sl h.next 0 (n+k) (.un i.size)) hh:=by
     intro d2 hh c7;subst c7;obtain⟨c1,d,s,b0⟩:=AZ ht hi hz a c6 d2 a4.1 a4.2 (ty:=ty);obtain⟨m',h1,h2⟩:=FB hr hf b5 hy b9 W c0 a.len s d0 e d;exact⟨_,_,m',b0,h1,h2⟩
    cases v<;>simp only[uB] at hn<;>try cases hn
    ·rename_i id d3 c1
     obtain⟨p,c',G,hp,N,d8,ho,s⟩:=U
     cases N
     cases c1 with
     |kn c2=>
      simp only at s g;obtain⟨s,rfl⟩:=s;subst s;split at g
      ·rename_i f
       cases hput:h.put id (G+n*i.size) R with
       |none=>simp [hput] at g
       |some h2=>
        simp only[hput] at g;cases g;obtain⟨w',iB,a9⟩:=Cc hr hf hput hy W hp;refine⟨_,w',m,Ai ht hi hz a f (w':=w') ?_,⟨p,_,_,hp,rfl,f,λ_=>rfl,rfl,rfl⟩,a9⟩;simp only;rw[jW,Nat.add_assoc];exact iB
      ·rename_i f
       cases g;exact L om _ rfl
     |un e2=>
      simp only at s g;split at g
      ·rename_i vs hg
       split at g
       ·rename_i d1
        subst d1;cases g
        by_cases f:n+k<=c
        ·--in place
         obtain⟨p',c5,cc,K,fr,e1,d5,e3,e4,e5⟩:=hr.live id _ hg;rw[hp] at c5;cases c5;have c9:=e5 rfl;subst c9
         have c8: ∀x∈ns,x.oneCell'=true:=by
          intro x U;obtain⟨j,F,rfl⟩:=List.getElem_of_mem U;have b8:j<R.length:=by rw[gJ.length hy];exact F
          obtain⟨y',Q,a5⟩:=hy.get (dF b8);rw[dF F] at Q;cases Q;exact a5.one (W _ (Bu b8))
         have d6:(n+k)*i.size<=c*i.size:=Nat.mul_le_mul_right _ f;have d4:(n+k)*i.size=n*i.size+k*i.size:=Nat.add_mul _ _ _;have O:p.2.1+G+n*i.size+ns.length<=cc.size:=by rw[a.len];omega
         have iB:=run_storeCells_at P p.1 (p.2.1+G+n*i.size) K ns 0 cc w e1 (by simpa using O) c8;simp only[Nat.add_zero] at iB;have B:h.row id d3 (n*i.size)=some xs:=a8;unfold H.row at B;rw[hg] at B;simp only at B;obtain⟨N,d9,a0⟩:=sub_eq B
         refine⟨.slice (some ⟨p.1,p.2.1+G,none⟩) (n+k) c,w.setRow p.1 (cc.toList.take (p.2.1+G+n*i.size)++ns++cc.toList.drop (p.2.1+G+n*i.size+ns.length)).toArray,
          m.set h.next (p.1,p.2.1+G,p.2.2),Ai ht hi hz a f ?_,⟨(p.1,p.2.1+G,p.2.2),c,0,?_,rfl,f,λ_=>rfl,?_⟩,?_⟩
         ·simp only
          rw[jW];exact iB
         ·simp [M.set]
         ·simp only;omega
         ·have hb:=setRow_heap w p.1 cc (cc.toList.take (p.2.1+G+n*i.size)++ns++cc.toList.drop (p.2.1+G+n*i.size+ns.length)).toArray K (0,0) e1
          refine iC.ajH hr hf hg rfl rfl hp rfl (λm' c4=>⟨_,K,(0,0),hb,?_,?_,λj v J=>?_,λ_=>rfl⟩) rfl rfl rfl (by simp) (λb a6=>setRow_other w p.1 b _ a6)
          ·rw[Hm _ _ _ O];exact d5
          ·simp only[iA,a0,a7];omega
          ·rw[Oo _ _ _ O]
           by_cases F:j<n*i.size
           ·rw[Ej om] at J
            obtain rfl:=ho (by
                       rcases Nat.eq_zero_or_pos n with h0|h0;· rw[h0,Nat.zero_mul] at F;omega
                       ·exact h0)
            rw[bJ (by simp only;omega)];rw[N,List.getElem?_take,bJ F,List.getElem?_drop] at J;obtain⟨a1,x2,a2,a3⟩:=e4 _ v J;exact⟨a1,x2,by rw[←Nat.add_assoc] at a2;exact a2,VR.mono c4 _ _ a3⟩
           ·rw[Eb om,a0] at J
            obtain⟨y',Q,a5⟩:=hy.get J;have b6:j-n*i.size<ns.length:=(zG.1 Q).1;refine⟨W v (EV J),y',?_,VR.mono c4 _ _ a5⟩;rw[bL (by simp only;omega),bJ (by simp only;omega)];rw[show (p.2.1+G,p.2.2).1+j-(p.2.1+G+n*i.size)=j-n*i.size from by simp only;omega];exact Q
        ·obtain⟨x2,w2,m2,r1,r2,Y⟩:=L om _ rfl
         refine⟨x2,w2,m2,r1,r2,?_⟩
         have a6:id≠h.next:=λe=>by
          have this:m h.next=none:=hf;rw[←e,hp] at this;cases this
         have A: ∀j o,((h.set id none).new (.cells false (xs++R))).get j=some o->(h.new (.cells false (xs++R))).get j=some o:=by
          intro j o F;simp only[H.iW,H.cH,H.jQ,H.aU] at F ⊢
          by_cases e1:j=h.next
          ·simpa [e1] using F
          ·by_cases e2:j=id
           ·simp [e1,e2] at F
            exact absurd F.1 a6
           ·simpa [e1,e2] using F
         refine⟨Y.ext,⟨λj o F=>Y.rel.live j o (A j o F),λj l oj ol pj pl b6 F hl=>Y.rel.inj j l oj ol pj pl b6 (A _ _ F) (A _ _ hl)⟩,Y.fresh,Y.kept,λb hb=>?_,Y.next,λb hb=>?_,λj F hn=>?_⟩
         ·obtain⟨j,o,q,b1,b2,b3,b4⟩:=hb
          exact Y.fp b ⟨j,o,q,A _ _ b1,b2,b3,b4⟩
         ·obtain⟨j,o,q,b1,b3,b4⟩:=hb
          exact Y.lb b ⟨j,o,q,A _ _ b1,b3,b4⟩
         ·cases hg2:((h.set id none).new (.cells false (xs++R))).get j with
          |none=>rfl
          |some o=>have h9:=A j o hg2;rw[Y.old j F hn] at h9;cases h9
       ·cases g
      ·cases g
    ·cases U
     simp only at g
     cases g
     exact L om _ rfl
    ·simp only at g
     cases g
   ·cases g
 ·cases g
end
end
end Go.Ay
