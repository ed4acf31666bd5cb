/- append, copy, make. -/
import Derived.Test.YtapfcpkecmmagaaGreatAy5
namespace Go.Ay
open Go
section
variable {e t u:TypeId} {ns:List Value} {n k:Nat} {i:TypeInfo} {z y:Value}
section
variable {P:Program} {m:M} {h:H} {w:World}
theorem Kt {s b:Nat}(c:gE P e=some s)(d:rF P e=some b): ∃i,P.info? e=some i/\i.size=s/\i.bytes=b:=by
 unfold gE rF at*;simp only[jA] at*;obtain⟨i,hi,rfl⟩:=c;obtain⟨j,a,rfl⟩:=d;rw[hi] at a;cases a;exact⟨i,hi,rfl,rfl⟩
theorem uV {s:Nat}(h:Lf P e s=true): ∃i z,P.info? e=some i/\i.zero=some z/\z.cells.size=s:=by
 unfold Lf at h
 cases hi:P.info? e with
 |none=>simp [hi] at h
 |some i=>
  cases hz:i.zero with
  |none=>simp [hi,hz] at h
  |some z=>simp [hi,hz] at h;exact⟨i,z,rfl,hz,h⟩
theorem yY (z:Array Value)(n:Nat):(Builtin.zeroCells z n).size=n*z.size:=by simp [Builtin.zeroCells]
theorem Lu (B:HR P m h w)(p:fL m h.next){xs l:List V}{c:List Value}(s:fP m xs c)(r:fP m l ns)(g: ∀v∈xs,v.one=true)(j: ∀v∈l,v.one=true)
  {sz a:Nat} (F:c.length=n*sz) (A:ns.length=k*sz) (f:n+k<=a) {z:Array Value} (x:z.size=sz) (b:TypeId) (d:Nat):
  ∃m',VR m' (.sl h.next 0 (n+k) (.un sz)) (.slice (some ⟨w.heap.size,0,none⟩) (n+k) a)/\
   fY P m h w m' (h.new (.cells false (xs++l))) (({w with drawn:=d}:World).alloc (.cells (c.toArray++ns.toArray++Builtin.zeroCells z (a-(n+k))) b)):=by
 have o:=fY.drawn B p d
 have q:=pP (w:={w with drawn:=d}) o.rel p (Builtin.zeroCells z (a-(n+k))).toList (s.append r) (by
  intro v G;rcases sZ.1 G with h|h
  ·exact g v h
  ·exact j v h) b
 have G:(c++ns++(Builtin.zeroCells z (a-(n+k))).toList).toArray=c.toArray++ns.toArray++Builtin.zeroCells z (a-(n+k)):=by
  apply Array.toList_inj.1;simp
 rw[G] at q
 refine⟨_,⟨(w.heap.size,0,c.length+ns.length+(Builtin.zeroCells z (a-(n+k))).size),a,0,by simp [M.set],rfl,f,λ_=>rfl,?_⟩,o.trans q⟩
 simp only[yY,x,F,A]
 have:a*sz=(n*sz+k*sz)+(a-(n+k))*sz:=by rw[←Nat.add_mul,←Nat.add_mul];congr 1;omega
 omega
structure CQ (P:Program)(w:World)(u:TypeId)(elem:TypeId)(i:TypeInfo)(z:Value)(k:Nat)(y:Value)(ns:List Value):Prop where
 len:ns.length=k*i.size
 run:(∃e',P.underlying u=some (.slice e')/\(Builtin.lenOf y).run P w= .ok k w/\ ∀d,(Builtin.firstCells i.size k y).run P {w with drawn:=d}= .ok ns.toArray {w with drawn:=d})∨
  (∃kk,P.underlying u=some (.int kk)/\y= .int .i64 (k:Int)/\(k:Int)*i.bytes<=2^48/\(k:Int)<2^62/\(k*i.size≠0->ns.toArray=Builtin.zeroCells z.cells k))
theorem lF (h:(n:Int)<2^62):IntKind.i64.wrap n=n:=by
 unfold IntKind.wrap;simp only[IntKind.bits,IntKind.signed];have:(n:Int)%2^64=n:=Int.emod_eq_of_lt om om;simp only[this];rw[aZ];simp;omega
theorem rV {ty:TypeId}(s:P.underlying t=some (.slice e))(hi:P.info? e=some i)(A:i.zero=some z)
  {base:Option Addr} {c:Nat}   (j:CQ P w u e i z k y ns) (f:n+k<=c) {w':World}
  (g:match base with|some a=>(storeCells (a.add (n*i.size)) ns).run P w= .ok () w'|none=>w'=w):
  (Builtin.append_ #[t,u] ty #[.slice base n c,y]).run P w= .ok (.slice base (n+k) c) w':=by
 rcases j.run with ⟨F,q,p,o⟩|⟨F,q,rfl,F,b,x⟩
 ·have B:=o w.drawn
  cases base with
  |none=>simp only at g;subst g;simp [Builtin.append_,run_underlying s,run_underlying q,sizeOf,typeInfo,hi,p,B,f]
  |some a=>simp only at g;simp [Builtin.append_,run_underlying s,run_underlying q,sizeOf,typeInfo,hi,p,B,f,g]
 ·have l: ¬((k:Int)<0):=om
  have v: ¬(281474976710656<(k:Int)*i.bytes):=om
  by_cases d:k*i.size=0
  ·have r:ns= []:=Yx (by rw[j.len,d])
   subst r
   cases base with
   |none=>simp only at g;subst g;simp [Builtin.append_,run_underlying s,run_underlying q,sizeOf,typeInfo,hi,asInt,asIntOf,lF b,l,v,f,d]
   |some a=>simp only at g;simp [Builtin.append_,run_underlying s,run_underlying q,sizeOf,typeInfo,hi,asInt,asIntOf,lF b,l,v,f,d,g]
  ·have r:=x d
   cases base with
   |none=>simp only at g;subst g;simp [Builtin.append_,run_underlying s,run_underlying q,sizeOf,typeInfo,zeroValue,hi,A,asInt,asIntOf,lF b,l,v,f,d]
   |some a=>
    have:(Builtin.zeroCells z.cells k).toList=ns:=by rw[←r]
    simp only at g;simp [Builtin.append_,run_underlying s,run_underlying q,sizeOf,typeInfo,zeroValue,hi,A,asInt,asIntOf,lF b,l,v,f,d,this,g]
theorem Jk {ty:TypeId}(B:P.underlying t=some (.slice e))(hi:P.info? e=some i)(G:i.zero=some z)
  {base:Option Addr} {c:Nat}  {A:List Value} (f:CQ P w u e i z k y ns) (F: ∀d,(Builtin.firstCells i.size n (.slice base n c)).run P {w with drawn:=d}= .ok A.toArray {w with drawn:=d})
  (K:c<n+k) (N:(2*(n+k)+1000)*i.bytes<=2^48) (U:n+k<2^62):
  ∃cap d,n+k<=cap/\(Builtin.append_ #[t,u] ty #[.slice base n c,y]).run P w= .ok (.slice (some ⟨w.heap.size,0,none⟩) (n+k) cap)
   (({w with drawn:=d}:World).alloc (.cells (A.toArray++ns.toArray++Builtin.zeroCells z.cells (cap-(n+k))) e)):=by
 have b: ¬(Builtin.nextslicecap (n+k) c*i.bytes>2^48):=by
  have R:=nextslicecap_le K;have Q:Builtin.nextslicecap (n+k) c*i.bytes<=(2*(n+k)+1000)*i.bytes:=Nat.mul_le_mul_right _ om;omega
 have a:(Question.appendCap (n+k) c e).forced=false:=rfl
 have q: ¬(9223372036854775807<(n:Int)+(k:Int)):=om
 have g:IntKind.i64.max=9223372036854775807:=by decide
 refine⟨(Question.appendCap (n+k) c e).cut (w.tape w.drawn (.appendCap (n+k) c e)),w.drawn+1,by simp [Question.cut],?_⟩
 have j: ¬(n+k<=c):=om
 have J:(Builtin.firstCells i.size n (.slice base n c)).run P w.drew= .ok A.toArray w.drew:=F (w.drawn+1)
 rcases f.run with ⟨R,x,v,o⟩|⟨R,x,rfl,R,p,L⟩
 ·have Q:(Builtin.firstCells i.size k y).run P w.drew= .ok ns.toArray w.drew:=o (w.drawn+1)
  simp [Builtin.append_,run_underlying B,run_underlying x,sizeOf,typeInfo,zeroValue,hi,G,v,j,q,g,b,a,J,Q,newRow]
  congr 2
  apply Array.toList_inj.1
  simp
 ·have s: ¬((k:Int)<0):=om
  have O: ¬(281474976710656<(k:Int)*i.bytes):=om
  by_cases l:k*i.size=0
  ·have r:ns= []:=Yx (by rw[f.len,l])
   subst r
   simp [Builtin.append_,run_underlying B,run_underlying x,sizeOf,typeInfo,zeroValue,hi,G,asInt,asIntOf,lF p,s,O,j,q,g,b,a,J,newRow,l]
  ·have r:=L l
   simp [Builtin.append_,run_underlying B,run_underlying x,sizeOf,typeInfo,zeroValue,hi,G,asInt,asIntOf,lF p,s,O,j,q,g,b,a,J,newRow,l,r]
theorem Ea (hr:HR P m h w)(hf:fL m h.next){sz bytes:Nat}(ht:P.underlying t=some (.slice e))(hi:P.info? e=some i)(hz:i.zero=some z)
  (hs:i.size=sz) (hb:i.bytes=bytes) (d4:z.cells.size=sz) {v r:V} {x:Value}  {U:List V}  {h':H} (R:VR m v x) (hy:fP m U ns) (W: ∀v∈U,v.one=true)
  (a:CQ P w u e i z k y ns) (s:oT h sz bytes v k U=some (r,h')) (ty:TypeId):
  aU P m h w (Builtin.append_ #[t,u] ty #[x,y]) r h':=by
 subst hs
 subst hb
 unfold oT at s
 split at s
 ·rename_i n xs hn b6
  obtain⟨os,c7,b5,b8,c4⟩:=yD hr R hn b6
  obtain⟨a0,c,rfl⟩:=nL R hn
  have a5:U.length=k*i.size:=(fP.length hy).trans a.len
  split at s
  ·rename_i hk
   cases s
   subst hk
   have b9:ns= []:=Yx (by rw[a.len];simp)
   subst b9
   have c3:n+0<=c:=by
    cases v<;>simp only[mG] at hn<;>try cases hn
    ·obtain⟨p,c',G,_,K,c3,_⟩:=R;cases K;omega
    ·cases R;omega
    ·cases R;omega
   refine aU.still hr hf (rV ht hi hz a c3 (w':=w) ?_) R
   cases a0<;>simp [storeCells]
  ·split at s
   ·rename_i d9 a4
    have L:c<n+k-> ∀(hh:H),hh=h.new (.cells false (xs++U))->aU P m h w (Builtin.append_ #[t,u] ty #[.slice a0 n c,y]) (.sl h.next 0 (n+k) (.un i.size)) hh:=by
     intro d1 hh d2;subst d2;obtain⟨b7,d,g,a8⟩:=Jk ht hi hz a c7 d1 a4.1 a4.2 (ty:=ty);obtain⟨m',h1,h2⟩:=Lu hr hf b5 hy b8 W c4 a.len g d4 e d;exact⟨_,_,m',a8,h1,h2⟩
    cases v<;>simp only[mG] at hn<;>try cases hn
    ·rename_i id c9 b7
     obtain⟨p,c',G,hp,K,d7,ho,g⟩:=R
     cases K
     cases b7 with
     |kn c2=>
      simp only at g s;obtain⟨g,rfl⟩:=g;subst g;split at s
      ·rename_i f
       cases hput:h.put id (G+n*i.size) U with
       |none=>simp [hput] at s
       |some h2=>
        simp only[hput] at s;cases s;obtain⟨w',iA,a9⟩:=sP hr hf hput hy W hp;refine⟨_,w',m,rV ht hi hz a f (w':=w') ?_,⟨p,_,_,hp,rfl,f,λ_=>rfl,rfl,rfl⟩,a9⟩;simp only;rw[iU,Nat.add_assoc];exact iA
      ·rename_i f
       cases s;exact L om _ rfl
     |un e2=>
      simp only at g s;split at s
      ·rename_i vs hg
       split at s
       ·rename_i d5
        subst d5;cases s
        by_cases f:n+k<=c
        ·--in place
         obtain⟨p',c1,cc,N,fr,e1,c8,e3,e4,e5⟩:=hr.live id _ hg;rw[hp] at c1;cases c1;have d3:=e5 rfl;subst d3
         have c6: ∀x∈ns,x.oneCell'=true:=by
          intro x R;obtain⟨j,F,rfl⟩:=List.getElem_of_mem R;have c0:j<U.length:=by rw[fP.length hy];exact F
          obtain⟨y',Q,a7⟩:=hy.get (eV c0);rw[eV F] at Q;cases Q;exact a7.one (W _ (xR c0))
         have d6:(n+k)*i.size<=c*i.size:=Nat.mul_le_mul_right _ f;have d0:(n+k)*i.size=n*i.size+k*i.size:=Nat.add_mul _ _ _;have O:p.2.1+G+n*i.size+ns.length<=cc.size:=by rw[a.len];omega
         have iA:=run_storeCells_at P p.1 (p.2.1+G+n*i.size) N ns 0 cc w e1 (by simpa using O) c6;simp only[Nat.add_zero] at iA;have B:h.row id c9 (n*i.size)=some xs:=b6;unfold H.row at B;rw[hg] at B;simp only at B;obtain⟨K,d8,Z⟩:=sub_eq B
         refine⟨.slice (some ⟨p.1,p.2.1+G,none⟩) (n+k) c,w.setRow p.1 (cc.toList.take (p.2.1+G+n*i.size)++ns++cc.toList.drop (p.2.1+G+n*i.size+ns.length)).toArray,
          m.set h.next (p.1,p.2.1+G,p.2.2),rV ht hi hz a f ?_,⟨(p.1,p.2.1+G,p.2.2),c,0,?_,rfl,f,λ_=>rfl,?_⟩,?_⟩
         ·simp only
          rw[iU];exact iA
         ·simp [M.set]
         ·simp only;omega
         ·have hb:=setRow_heap w p.1 cc (cc.toList.take (p.2.1+G+n*i.size)++ns++cc.toList.drop (p.2.1+G+n*i.size+ns.length)).toArray N (0,0) e1
          refine fY.II hr hf hg rfl rfl hp rfl (λm' b0=>⟨_,N,(0,0),hb,?_,?_,λj v J=>?_,λ_=>rfl⟩) rfl rfl rfl (by simp) (λb a6=>setRow_other w p.1 b _ a6)
          ·rw[uM _ _ _ O];exact c8
          ·simp only[iZ,Z,a5];omega
          ·rw[Bj _ _ _ O]
           by_cases F:j<n*i.size
           ·rw[wE om] at J
            obtain rfl:=ho (by
                       rcases Nat.eq_zero_or_pos n with h0|h0;· rw[h0,Nat.zero_mul] at F;omega
                       ·exact h0)
            rw[aV (by simp only;omega)];rw[K,List.getElem?_take,aV F,List.getElem?_drop] at J;obtain⟨a1,x2,a2,a3⟩:=e4 _ v J;exact⟨a1,x2,by rw[←Nat.add_assoc] at a2;exact a2,VR.mono b0 _ _ a3⟩
           ·rw[Cq om,Z] at J
            obtain⟨y',Q,a7⟩:=hy.get J;have c5:j-n*i.size<ns.length:=(xI.1 Q).1;refine⟨W v (Sg J),y',?_,VR.mono b0 _ _ a7⟩;rw[aZ (by simp only;omega),aV (by simp only;omega)];rw[show (p.2.1+G,p.2.2).1+j-(p.2.1+G+n*i.size)=j-n*i.size from by simp only;omega];exact Q
        ·obtain⟨x2,w2,m2,r1,r2,Y⟩:=L om _ rfl
         refine⟨x2,w2,m2,r1,r2,?_⟩
         have a6:id≠h.next:=λe=>by
          have this:m h.next=none:=hf;rw[←e,hp] at this;cases this
         have A: ∀j o,((h.set id none).new (.cells false (xs++U))).get j=some o->(h.new (.cells false (xs++U))).get j=some o:=by
          intro j o F;simp only[H.gK,H.dE,H.iQ,H.aX] at F ⊢
          by_cases e1:j=h.next
          ·simpa [e1] using F
          ·by_cases e2:j=id
           ·simp [e1,e2] at F
            exact absurd F.1 a6
           ·simpa [e1,e2] using F
         refine⟨Y.ext,⟨λj o F=>Y.rel.live j o (A j o F),λj l oj ol pj pl c5 F hl=>Y.rel.inj j l oj ol pj pl c5 (A _ _ F) (A _ _ hl)⟩,Y.fresh,Y.kept,λb hb=>?_,Y.next,λb hb=>?_,λj F hn=>?_⟩
         ·obtain⟨j,o,q,b1,b2,b3,b4⟩:=hb
          exact Y.fp b ⟨j,o,q,A _ _ b1,b2,b3,b4⟩
         ·obtain⟨j,o,q,b1,b3,b4⟩:=hb
          exact Y.lb b ⟨j,o,q,A _ _ b1,b3,b4⟩
         ·cases hg2:((h.set id none).new (.cells false (xs++U))).get j with
          |none=>rfl
          |some o=>have h9:=A j o hg2;rw[Y.old j F hn] at h9;cases h9
       ·cases s
      ·cases s
    ·cases R
     simp only at s
     cases s
     exact L om _ rfl
    ·simp only at s
     cases s
   ·cases s
 ·cases s
end
end
end Go.Ay
