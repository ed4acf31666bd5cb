/- append, copy, make. -/
import Derived.Test.YtcdbmkidaecdiaaGreatAy5
namespace Go.Ay
open Go
section
variable {e t u:TypeId} {ns:List Value} {n k:Nat} {i:TypeInfo} {z y:Value}
section
variable {P:Program} {m:M} {h:H} {w:World}
theorem Zz {s b:Nat}(c:iV P e=some s)(d:zW P e=some b): ∃i,P.info? e=some i/\i.size=s/\i.bytes=b:=by
 unfold iV zW at*;simp only[mJ] at*;obtain⟨i,hi,rfl⟩:=c;obtain⟨j,a,rfl⟩:=d;rw[hi] at a;cases a;exact⟨i,hi,rfl,rfl⟩
theorem Gn {s:Nat}(h:AP P e s=true): ∃i z,P.info? e=some i/\i.zero=some z/\z.cells.size=s:=by
 unfold AP at h
 cases hi:P.info? e with
 |none=>simp [hi] at h
 |some i=>
  cases hz:i.zero with
  |none=>simp [hi,hz] at h
  |some z=>simp [hi,hz] at h;exact⟨i,z,rfl,hz,h⟩
theorem Kt (z:Array Value)(n:Nat):(Builtin.zeroCells z n).size=n*z.size:=by simp [Builtin.zeroCells]
theorem BX (B:HR P m h w)(q:gK m h.next){xs l:List V}{c:List Value}(s:gZ m xs c)(A:gZ m l ns)(g: ∀v∈xs,v.one=true)(j: ∀v∈l,v.one=true)
  {sz a:Nat} (F:c.length=n*sz) (J:ns.length=k*sz) (f:n+k<=a) {z:Array Value} (x:z.size=sz) (b:TypeId) (d:Nat):
  ∃m',VR m' (.sl h.next 0 (n+k) (.un sz)) (.slice (some ⟨w.heap.size,0,none⟩) (n+k) a)/\
   iO P m h w m' (h.new (.cells false (xs++l))) (({w with drawn:=d}:World).alloc (.cells (c.toArray++ns.toArray++Builtin.zeroCells z (a-(n+k))) b)):=by
 have p:=iO.drawn B q d
 have o:=wQ (w:={w with drawn:=d}) p.rel q (Builtin.zeroCells z (a-(n+k))).toList (s.append A) (by
  intro v G;rcases pH.1 G with h|h
  ·exact g v h
  ·exact j v h) b
 have r:(c++ns++(Builtin.zeroCells z (a-(n+k))).toList).toArray=c.toArray++ns.toArray++Builtin.zeroCells z (a-(n+k)):=by
  apply Array.toList_inj.1;simp
 rw[r] at o
 refine⟨_,⟨(w.heap.size,0,c.length+ns.length+(Builtin.zeroCells z (a-(n+k))).size),a,0,by simp [M.set],rfl,f,λ_=>rfl,?_⟩,p.trans o⟩
 simp only[Kt,x,F,J]
 have:a*sz=(n*sz+k*sz)+(a-(n+k))*sz:=by rw[←Nat.add_mul,←Nat.add_mul];congr 1;omega
 omega
structure ZF (P:Program)(w:World)(u:TypeId)(elem:TypeId)(i:TypeInfo)(z:Value)(k:Nat)(y:Value)(ns:List Value):Prop where
 len:ns.length=k*i.size
 run:(∃e',P.underlying u=some (.slice e')/\(Builtin.lenOf y).run P w= .ok k w/\ ∀d,(Builtin.firstCells i.size k y).run P {w with drawn:=d}= .ok ns.toArray {w with drawn:=d})∨
  (∃kk,P.underlying u=some (.int kk)/\y= .int .i64 (k:Int)/\(k:Int)*i.bytes<=2^48/\(k:Int)<2^62/\(k*i.size≠0->ns.toArray=Builtin.zeroCells z.cells k))
theorem qE (h:(n:Int)<2^62):IntKind.i64.wrap n=n:=by
 unfold IntKind.wrap;simp only[IntKind.bits,IntKind.signed];have:(n:Int)%2^64=n:=Int.emod_eq_of_lt om om;simp only[this];rw[bI];simp;omega
theorem Bq {ty:TypeId}(s:P.underlying t=some (.slice e))(hi:P.info? e=some i)(B:i.zero=some z)
  {base:Option Addr} {c:Nat}   (j:ZF P w u e i z k y ns) (f:n+k<=c) {w':World}
  (g:match base with|some a=>(storeCells (a.add (n*i.size)) ns).run P w= .ok () w'|none=>w'=w):
  (Builtin.append_ #[t,u] ty #[.slice base n c,y]).run P w= .ok (.slice base (n+k) c) w':=by
 rcases j.run with ⟨J,r,p,l⟩|⟨G,r,rfl,F,b,x⟩
 ·have A:=l w.drawn
  cases base with
  |none=>simp only at g;subst g;simp [Builtin.append_,run_underlying s,run_underlying r,sizeOf,typeInfo,hi,p,A,f]
  |some a=>simp only at g;simp [Builtin.append_,run_underlying s,run_underlying r,sizeOf,typeInfo,hi,p,A,f,g]
 ·have o: ¬((k:Int)<0):=om
  have v: ¬(281474976710656<(k:Int)*i.bytes):=om
  by_cases d:k*i.size=0
  ·have q:ns= []:=WJ (by rw[j.len,d])
   subst q
   cases base with
   |none=>simp only at g;subst g;simp [Builtin.append_,run_underlying s,run_underlying r,sizeOf,typeInfo,hi,asInt,asIntOf,qE b,o,v,f,d]
   |some a=>simp only at g;simp [Builtin.append_,run_underlying s,run_underlying r,sizeOf,typeInfo,hi,asInt,asIntOf,qE b,o,v,f,d,g]
  ·have q:=x d
   cases base with
   |none=>simp only at g;subst g;simp [Builtin.append_,run_underlying s,run_underlying r,sizeOf,typeInfo,zeroValue,hi,B,asInt,asIntOf,qE b,o,v,f,d]
   |some a=>
    have:(Builtin.zeroCells z.cells k).toList=ns:=by rw[←q]
    simp only at g;simp [Builtin.append_,run_underlying s,run_underlying r,sizeOf,typeInfo,zeroValue,hi,B,asInt,asIntOf,qE b,o,v,f,d,this,g]
theorem Wu {ty:TypeId}(J:P.underlying t=some (.slice e))(hi:P.info? e=some i)(K:i.zero=some z)
  {base:Option Addr} {c:Nat}  {G:List Value} (j:ZF P w u e i z k y ns) (A: ∀d,(Builtin.firstCells i.size n (.slice base n c)).run P {w with drawn:=d}= .ok G.toArray {w with drawn:=d})
  (B:c<n+k) (Q:(2*(n+k)+1000)*i.bytes<=2^48) (U:n+k<2^62):
  ∃cap d,n+k<=cap/\(Builtin.append_ #[t,u] ty #[.slice base n c,y]).run P w= .ok (.slice (some ⟨w.heap.size,0,none⟩) (n+k) cap)
   (({w with drawn:=d}:World).alloc (.cells (G.toArray++ns.toArray++Builtin.zeroCells z.cells (cap-(n+k))) e)):=by
 have b: ¬(Builtin.nextslicecap (n+k) c*i.bytes>2^48):=by
  have Y:=nextslicecap_le B;have N:Builtin.nextslicecap (n+k) c*i.bytes<=(2*(n+k)+1000)*i.bytes:=Nat.mul_le_mul_right _ om;omega
 have a:(Question.appendCap (n+k) c e).forced=false:=rfl
 have q: ¬(9223372036854775807<(n:Int)+(k:Int)):=om
 have f:IntKind.i64.max=9223372036854775807:=by decide
 refine⟨(Question.appendCap (n+k) c e).cut (w.tape w.drawn (.appendCap (n+k) c e)),w.drawn+1,by simp [Question.cut],?_⟩
 have g: ¬(n+k<=c):=om
 have F:(Builtin.firstCells i.size n (.slice base n c)).run P w.drew= .ok G.toArray w.drew:=A (w.drawn+1)
 rcases j.run with ⟨Z,x,s,o⟩|⟨W,x,rfl,R,p,L⟩
 ·have N:(Builtin.firstCells i.size k y).run P w.drew= .ok ns.toArray w.drew:=o (w.drawn+1)
  simp [Builtin.append_,run_underlying J,run_underlying x,sizeOf,typeInfo,zeroValue,hi,K,s,g,q,f,b,a,F,N,newRow]
  congr 2
  apply Array.toList_inj.1
  simp
 ·have v: ¬((k:Int)<0):=om
  have O: ¬(281474976710656<(k:Int)*i.bytes):=om
  by_cases l:k*i.size=0
  ·have r:ns= []:=WJ (by rw[j.len,l])
   subst r
   simp [Builtin.append_,run_underlying J,run_underlying x,sizeOf,typeInfo,zeroValue,hi,K,asInt,asIntOf,qE p,v,O,g,q,f,b,a,F,newRow,l]
  ·have r:=L l
   simp [Builtin.append_,run_underlying J,run_underlying x,sizeOf,typeInfo,zeroValue,hi,K,asInt,asIntOf,qE p,v,O,g,q,f,b,a,F,newRow,l,r]
theorem Sg (hr:HR P m h w)(hf:gK m h.next){sz bytes:Nat}(ht:P.underlying t=some (.slice e))(hi:P.info? e=some i)(hz:i.zero=some z)
  (hs:i.size=sz) (hb:i.bytes=bytes) (c8:z.cells.size=sz) {v r:V} {x:Value}  {R:List V}  {h':H} (U:VR m v x) (hy:gZ m R ns) (W: ∀v∈R,v.one=true)
  (a:ZF P w u e i z k y ns) (g:yB h sz bytes v k R=some (r,h')) (ty:TypeId):
  aT P m h w (Builtin.append_ #[t,u] ty #[x,y]) r h':=by
 subst hs
 subst hb
 unfold yB at g
 split at g
 ·rename_i n xs hn a9
  obtain⟨os,d4,b5,c1,a8⟩:=Km hr U hn a9
  obtain⟨Z,c,rfl⟩:=tW U hn
  have a6:R.length=k*i.size:=(gZ.length hy).trans a.len
  split at g
  ·rename_i hk
   cases g
   subst hk
   have c5:ns= []:=WJ (by rw[a.len];simp)
   subst c5
   have b8:n+0<=c:=by
    cases v<;>simp only[sW] at hn<;>try cases hn
    ·obtain⟨p,c',G,_,L,b8,_⟩:=U;cases L;omega
    ·cases U;omega
    ·cases U;omega
   refine aT.still hr hf (Bq ht hi hz a b8 (w':=w) ?_) U
   cases Z<;>simp [storeCells]
  ·split at g
   ·rename_i d9 a4
    have Q:c<n+k-> ∀(hh:H),hh=h.new (.cells false (xs++R))->aT P m h w (Builtin.append_ #[t,u] ty #[.slice Z n c,y]) (.sl h.next 0 (n+k) (.un i.size)) hh:=by
     intro d2 hh d3;subst d3;obtain⟨b0,d,s,b9⟩:=Wu ht hi hz a d4 d2 a4.1 a4.2 (ty:=ty);obtain⟨m',h1,h2⟩:=BX hr hf b5 hy c1 W a8 a.len s c8 e d;exact⟨_,_,m',b9,h1,h2⟩
    cases v<;>simp only[sW] at hn<;>try cases hn
    ·rename_i id d1 b0
     obtain⟨p,c',G,hp,L,d8,ho,s⟩:=U
     cases L
     cases b0 with
     |kn c2=>
      simp only at s g;obtain⟨s,rfl⟩:=s;subst s;split at g
      ·rename_i f
       cases hput:h.put id (G+n*i.size) R with
       |none=>simp [hput] at g
       |some h2=>
        simp only[hput] at g;cases g;obtain⟨w',iP,b7⟩:=Bx hr hf hput hy W hp;refine⟨_,w',m,Bq ht hi hz a f (w':=w') ?_,⟨p,_,_,hp,rfl,f,λ_=>rfl,rfl,rfl⟩,b7⟩;simp only;rw[kS,Nat.add_assoc];exact iP
      ·rename_i f
       cases g;exact Q om _ rfl
     |un e2=>
      simp only at s g;split at g
      ·rename_i vs hg
       split at g
       ·rename_i c9
        subst c9;cases g
        by_cases f:n+k<=c
        ·--in place
         obtain⟨p',b6,cc,O,fr,e1,c7,e3,e4,e5⟩:=hr.live id _ hg;rw[hp] at b6;cases b6;have d0:=e5 rfl;subst d0
         have c6: ∀x∈ns,x.oneCell'=true:=by
          intro x U;obtain⟨j,F,rfl⟩:=List.getElem_of_mem U;have c4:j<R.length:=by rw[gZ.length hy];exact F
          obtain⟨y',N,a7⟩:=hy.get (dD c4);rw[dD F] at N;cases N;exact a7.one (W _ (zG c4))
         have d6:(n+k)*i.size<=c*i.size:=Nat.mul_le_mul_right _ f;have d5:(n+k)*i.size=n*i.size+k*i.size:=Nat.add_mul _ _ _;have K:p.2.1+G+n*i.size+ns.length<=cc.size:=by rw[a.len];omega
         have iP:=run_storeCells_at P p.1 (p.2.1+G+n*i.size) O ns 0 cc w e1 (by simpa using K) c6;simp only[Nat.add_zero] at iP;have B:h.row id d1 (n*i.size)=some xs:=a9;unfold H.row at B;rw[hg] at B;simp only at B;obtain⟨L,d7,a0⟩:=sub_eq B
         refine⟨.slice (some ⟨p.1,p.2.1+G,none⟩) (n+k) c,w.setRow p.1 (cc.toList.take (p.2.1+G+n*i.size)++ns++cc.toList.drop (p.2.1+G+n*i.size+ns.length)).toArray,
          m.set h.next (p.1,p.2.1+G,p.2.2),Bq ht hi hz a f ?_,⟨(p.1,p.2.1+G,p.2.2),c,0,?_,rfl,f,λ_=>rfl,?_⟩,?_⟩
         ·simp only
          rw[kS];exact iP
         ·simp [M.set]
         ·simp only;omega
         ·have hb:=setRow_heap w p.1 cc (cc.toList.take (p.2.1+G+n*i.size)++ns++cc.toList.drop (p.2.1+G+n*i.size+ns.length)).toArray O (0,0) e1
          refine iO.ahW hr hf hg rfl rfl hp rfl (λm' c3=>⟨_,O,(0,0),hb,?_,?_,λj v J=>?_,λ_=>rfl⟩) rfl rfl rfl (by simp) (λb a5=>setRow_other w p.1 b _ a5)
          ·rw[Hy _ _ _ K];exact c7
          ·simp only[jZ,a0,a6];omega
          ·rw[Od _ _ _ K]
           by_cases F:j<n*i.size
           ·rw[Dv om] at J
            obtain rfl:=ho (by
                       rcases Nat.eq_zero_or_pos n with h0|h0;· rw[h0,Nat.zero_mul] at F;omega
                       ·exact h0)
            rw[bF (by simp only;omega)];rw[L,List.getElem?_take,bF F,List.getElem?_drop] at J;obtain⟨a1,x2,a2,a3⟩:=e4 _ v J;exact⟨a1,x2,by rw[←Nat.add_assoc] at a2;exact a2,VR.mono c3 _ _ a3⟩
           ·rw[Kk om,a0] at J
            obtain⟨y',N,a7⟩:=hy.get J;have c0:j-n*i.size<ns.length:=(Ax.1 N).1;refine⟨W v (AW J),y',?_,VR.mono c3 _ _ a7⟩;rw[bI (by simp only;omega),bF (by simp only;omega)];rw[show (p.2.1+G,p.2.2).1+j-(p.2.1+G+n*i.size)=j-n*i.size from by simp only;omega];exact N
        ·obtain⟨x2,w2,m2,r1,r2,Y⟩:=Q om _ rfl
         refine⟨x2,w2,m2,r1,r2,?_⟩
         have a5:id≠h.next:=λe=>by
          have this:m h.next=none:=hf;rw[←e,hp] at this;cases this
         have A: ∀j o,((h.set id none).new (.cells false (xs++R))).get j=some o->(h.new (.cells false (xs++R))).get j=some o:=by
          intro j o F;simp only[H.jB,H.bY,H.kF,H.aU] at F ⊢
          by_cases e1:j=h.next
          ·simpa [e1] using F
          ·by_cases e2:j=id
           ·simp [e1,e2] at F
            exact absurd F.1 a5
           ·simpa [e1,e2] using F
         refine⟨Y.ext,⟨λj o F=>Y.rel.live j o (A j o F),λj l oj ol pj pl c0 F hl=>Y.rel.inj j l oj ol pj pl c0 (A _ _ F) (A _ _ hl)⟩,Y.fresh,Y.kept,λb hb=>?_,Y.next,λb hb=>?_,λj F hn=>?_⟩
         ·obtain⟨j,o,q,b1,b2,b3,b4⟩:=hb
          exact Y.fp b ⟨j,o,q,A _ _ b1,b2,b3,b4⟩
         ·obtain⟨j,o,q,b1,b3,b4⟩:=hb
          exact Y.lb b ⟨j,o,q,A _ _ b1,b3,b4⟩
         ·cases hg2:((h.set id none).new (.cells false (xs++R))).get j with
          |none=>rfl
          |some o=>have h9:=A j o hg2;rw[Y.old j F hn] at h9;cases h9
       ·cases g
      ·cases g
    ·cases U
     simp only at g
     cases g
     exact Q om _ rfl
    ·simp only at g
     cases g
   ·cases g
 ·cases g
end
end
end Go.Ay
