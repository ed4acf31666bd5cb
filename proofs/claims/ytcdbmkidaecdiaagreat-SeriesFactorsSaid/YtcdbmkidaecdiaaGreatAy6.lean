/- append, copy, make. -/
import Derived.Test.YtcdbmkidaecdiaaGreatAy5
namespace Go.Ay
open Go
section
variable {e t u:TypeId} {ns:List Value} {n k:Nat} {i:TypeInfo} {z y:Value}
section
variable {P:Program} {m:M} {h:H} {w:World}
theorem Zz {s b:Nat}(c:iV P e=some s)(d:zW P e=some b): ∃i,P.info? e=some i/\i.size=s/\i.bytes=b:=by
 unfold iV zW at*;simp only[mJ] at*;obtain⟨i,hi,rfl⟩:=c;obtain⟨j,a,rfl⟩:=d;rw[hi] at a;cases a;exact⟨i,hi,rfl,rfl⟩
theorem Gn {s:Nat}(h:mC P e s=true): ∃i z,P.info? e=some i/\i.zero=some z/\z.cells.size=s:=by
 unfold mC at h
 cases hi:P.info? e with
 |none=>simp [hi] at h
 |some i=>
  cases hz:i.zero with
  |none=>simp [hi,hz] at h
  |some z=>simp [hi,hz] at h;exact⟨i,z,rfl,hz,h⟩
theorem Kt (z:Array Value)(n:Nat):(Builtin.zeroCells z n).size=n*z.size:=by simp [Builtin.zeroCells]
theorem BX (J:HR P m h w)(q:Al m h.next){xs o:List V}{c:List Value}(F:gZ m xs c)(B:gZ m o ns)(l: ∀v∈xs,v.one=true)(j: ∀v∈o,v.one=true)
  {sz a:Nat} (K:c.length=n*sz) (x:ns.length=k*sz) (f:n+k<=a) {z:Array Value} (A:z.size=sz) (b:TypeId) (d:Nat):
  ∃m',VR m' (.sl h.next 0 (n+k) (.un sz)) (.slice (some ⟨w.heap.size,0,none⟩) (n+k) a)/\
   iO P m h w m' (h.new (.cells false (xs++o))) (({w with drawn:=d}:World).alloc (.cells (c.toArray++ns.toArray++Builtin.zeroCells z (a-(n+k))) b)):=by
 have p:=iO.drawn J q d
 have r:=wQ (w:={w with drawn:=d}) p.rel q (Builtin.zeroCells z (a-(n+k))).toList (F.append B) (by
  intro v s;rcases pH.1 s with h|h
  ·exact l v h
  ·exact j v h) b
 have G:(c++ns++(Builtin.zeroCells z (a-(n+k))).toList).toArray=c.toArray++ns.toArray++Builtin.zeroCells z (a-(n+k)):=by
  apply Array.toList_inj.1;simp
 rw[G] at r
 refine⟨_,⟨(w.heap.size,0,c.length+ns.length+(Builtin.zeroCells z (a-(n+k))).size),a,0,by simp [M.set],rfl,f,λ_=>rfl,?_⟩,p.trans r⟩
 simp only[Kt,A,K,x]
 have:a*sz=(n*sz+k*sz)+(a-(n+k))*sz:=by rw[←Nat.add_mul,←Nat.add_mul];congr 1;omega
 omega
structure ZF (P:Program)(w:World)(u:TypeId)(elem:TypeId)(i:TypeInfo)(z:Value)(k:Nat)(y:Value)(ns:List Value):Prop where
 len:ns.length=k*i.size
 run:(∃e',P.underlying u=some (.slice e')/\(Builtin.lenOf y).run P w= .ok k w/\ ∀d,(Builtin.firstCells i.size k y).run P {w with drawn:=d}= .ok ns.toArray {w with drawn:=d})∨
  (∃kk,P.underlying u=some (.int kk)/\y= .int .i64 (k:Int)/\(k:Int)*i.bytes<=2^48/\(k:Int)<2^62/\(k*i.size≠0->ns.toArray=Builtin.zeroCells z.cells k))
theorem qE (h:(n:Int)<2^62):IntKind.i64.wrap n=n:=by
 unfold IntKind.wrap;simp only[IntKind.bits,IntKind.signed];have:(n:Int)%2^64=n:=Int.emod_eq_of_lt om om;simp only[this];rw[bI];simp;omega
theorem Bq {ty:TypeId}(v:P.underlying t=some (.slice e))(hi:P.info? e=some i)(F:i.zero=some z)
  {base:Option Addr} {c:Nat}   (l:ZF P w u e i z k y ns) (d:n+k<=c) {w':World}
  (j:match base with|some a=>(storeCells (a.add (n*i.size)) ns).run P w= .ok () w'|none=>w'=w):
  (Builtin.append_ #[t,u] ty #[.slice base n c,y]).run P w= .ok (.slice base (n+k) c) w':=by
 rcases l.run with ⟨J,r,q,p⟩|⟨K,r,rfl,G,b,A⟩
 ·have B:=p w.drawn
  cases base with
  |none=>simp only at j;subst j;simp [Builtin.append_,run_underlying v,run_underlying r,sizeOf,typeInfo,hi,q,B,d]
  |some a=>simp only at j;simp [Builtin.append_,run_underlying v,run_underlying r,sizeOf,typeInfo,hi,q,B,d,j]
 ·have o: ¬((k:Int)<0):=om
  have x: ¬(281474976710656<(k:Int)*i.bytes):=om
  by_cases f:k*i.size=0
  ·have s:ns= []:=WJ (by rw[l.len,f])
   subst s
   cases base with
   |none=>simp only at j;subst j;simp [Builtin.append_,run_underlying v,run_underlying r,sizeOf,typeInfo,hi,asInt,asIntOf,qE b,o,x,d,f]
   |some a=>simp only at j;simp [Builtin.append_,run_underlying v,run_underlying r,sizeOf,typeInfo,hi,asInt,asIntOf,qE b,o,x,d,f,j]
  ·have s:=A f
   cases base with
   |none=>simp only at j;subst j;simp [Builtin.append_,run_underlying v,run_underlying r,sizeOf,typeInfo,zeroValue,hi,F,asInt,asIntOf,qE b,o,x,d,f]
   |some a=>
    have:(Builtin.zeroCells z.cells k).toList=ns:=by rw[←s]
    simp only at j;simp [Builtin.append_,run_underlying v,run_underlying r,sizeOf,typeInfo,zeroValue,hi,F,asInt,asIntOf,qE b,o,x,d,f,this,j]
theorem Wu {ty:TypeId}(F:P.underlying t=some (.slice e))(hi:P.info? e=some i)(B:i.zero=some z)
  {base:Option Addr} {c:Nat}  {N:List Value} (j:ZF P w u e i z k y ns) (J: ∀d,(Builtin.firstCells i.size n (.slice base n c)).run P {w with drawn:=d}= .ok N.toArray {w with drawn:=d})
  (G:c<n+k) (R:(2*(n+k)+1000)*i.bytes<=2^48) (W:n+k<2^62):
  ∃cap d,n+k<=cap/\(Builtin.append_ #[t,u] ty #[.slice base n c,y]).run P w= .ok (.slice (some ⟨w.heap.size,0,none⟩) (n+k) cap)
   (({w with drawn:=d}:World).alloc (.cells (N.toArray++ns.toArray++Builtin.zeroCells z.cells (cap-(n+k))) e)):=by
 have b: ¬(Builtin.nextslicecap (n+k) c*i.bytes>2^48):=by
  have h1:=nextslicecap_le G;have O:Builtin.nextslicecap (n+k) c*i.bytes<=(2*(n+k)+1000)*i.bytes:=Nat.mul_le_mul_right _ om;omega
 have a:(Question.appendCap (n+k) c e).forced=false:=rfl
 have r: ¬(9223372036854775807<(n:Int)+(k:Int)):=om
 have f:IntKind.i64.max=9223372036854775807:=by decide
 refine⟨(Question.appendCap (n+k) c e).cut (w.tape w.drawn (.appendCap (n+k) c e)),w.drawn+1,by simp [Question.cut],?_⟩
 have l: ¬(n+k<=c):=om
 have K:(Builtin.firstCells i.size n (.slice base n c)).run P w.drew= .ok N.toArray w.drew:=J (w.drawn+1)
 rcases j.run with ⟨Y,A,x,o⟩|⟨Z,A,rfl,U,q,L⟩
 ·have O:(Builtin.firstCells i.size k y).run P w.drew= .ok ns.toArray w.drew:=o (w.drawn+1)
  simp [Builtin.append_,run_underlying F,run_underlying A,sizeOf,typeInfo,zeroValue,hi,B,x,l,r,f,b,a,K,O,newRow]
  congr 2
  apply Array.toList_inj.1
  simp
 ·have v: ¬((k:Int)<0):=om
  have Q: ¬(281474976710656<(k:Int)*i.bytes):=om
  by_cases p:k*i.size=0
  ·have s:ns= []:=WJ (by rw[j.len,p])
   subst s
   simp [Builtin.append_,run_underlying F,run_underlying A,sizeOf,typeInfo,zeroValue,hi,B,asInt,asIntOf,qE q,v,Q,l,r,f,b,a,K,newRow,p]
  ·have s:=L p
   simp [Builtin.append_,run_underlying F,run_underlying A,sizeOf,typeInfo,zeroValue,hi,B,asInt,asIntOf,qE q,v,Q,l,r,f,b,a,K,newRow,p,s]
theorem Sg (hr:HR P m h w)(hf:Al m h.next){sz bytes:Nat}(ht:P.underlying t=some (.slice e))(hi:P.info? e=some i)(hz:i.zero=some z)
  (hs:i.size=sz) (hb:i.bytes=bytes) (d1:z.cells.size=sz) {v r:V} {x:Value}  {U:List V}  {h':H} (W:VR m v x) (hy:gZ m U ns) (Y: ∀v∈U,v.one=true)
  (a:ZF P w u e i z k y ns) (s:yB h sz bytes v k U=some (r,h')) (ty:TypeId):
  aT P m h w (Builtin.append_ #[t,u] ty #[x,y]) r h':=by
 subst hs
 subst hb
 unfold yB at s
 split at s
 ·rename_i n xs hn c0
  obtain⟨os,d3,b8,c1,c6⟩:=Km hr W hn c0
  obtain⟨a5,c,rfl⟩:=tW W hn
  have a7:U.length=k*i.size:=(gZ.length hy).trans a.len
  split at s
  ·rename_i hk
   cases s
   subst hk
   have c5:ns= []:=WJ (by rw[a.len];simp)
   subst c5
   have b7:n+0<=c:=by
    cases v<;>simp only[sW] at hn<;>try cases hn
    ·obtain⟨p,c',J,_,R,b7,_⟩:=W;cases R;omega
    ·cases W;omega
    ·cases W;omega
   refine aT.still hr hf (Bq ht hi hz a b7 (w':=w) ?_) W
   cases a5<;>simp [storeCells]
  ·split at s
   ·rename_i d8 a0
    have Q:c<n+k-> ∀(hh:H),hh=h.new (.cells false (xs++U))->aT P m h w (Builtin.append_ #[t,u] ty #[.slice a5 n c,y]) (.sl h.next 0 (n+k) (.un i.size)) hh:=by
     intro d5 hh d2;subst d2;obtain⟨b5,d,A,c3⟩:=Wu ht hi hz a d3 d5 a0.1 a0.2 (ty:=ty);obtain⟨m',h1,h2⟩:=BX hr hf b8 hy c1 Y c6 a.len A d1 e d;exact⟨_,_,m',c3,h1,h2⟩
    cases v<;>simp only[sW] at hn<;>try cases hn
    ·rename_i id d0 b5
     obtain⟨p,c',J,hp,R,e0,ho,A⟩:=W
     cases R
     cases b5 with
     |kn c2=>
      simp only at A s;obtain⟨A,rfl⟩:=A;subst A;split at s
      ·rename_i f
       cases hput:h.put id (J+n*i.size) U with
       |none=>simp [hput] at s
       |some h2=>
        simp only[hput] at s;cases s;obtain⟨w',iP,a9⟩:=Bx hr hf hput hy Y hp;refine⟨_,w',m,Bq ht hi hz a f (w':=w') ?_,⟨p,_,_,hp,rfl,f,λ_=>rfl,rfl,rfl⟩,a9⟩;simp only;rw[Ew,Nat.add_assoc];exact iP
      ·rename_i f
       cases s;exact Q om _ rfl
     |un e2=>
      simp only at A s;split at s
      ·rename_i vs hg
       split at s
       ·rename_i d4
        subst d4;cases s
        by_cases f:n+k<=c
        ·--in place
         obtain⟨p',b9,cc,O,fr,e1,c9,e3,e4,e5⟩:=hr.live id _ hg;rw[hp] at b9;cases b9;have d6:=e5 rfl;subst d6
         have c7: ∀x∈ns,x.oneCell'=true:=by
          intro x W;obtain⟨j,G,rfl⟩:=List.getElem_of_mem W;have c4:j<U.length:=by rw[gZ.length hy];exact G
          obtain⟨y',N,a6⟩:=hy.get (dD c4);rw[dD G] at N;cases N;exact a6.one (Y _ (zG c4))
         have d7:(n+k)*i.size<=c*i.size:=Nat.mul_le_mul_right _ f;have c8:(n+k)*i.size=n*i.size+k*i.size:=Nat.add_mul _ _ _;have L:p.2.1+J+n*i.size+ns.length<=cc.size:=by rw[a.len];omega
         have iP:=run_storeCells_at P p.1 (p.2.1+J+n*i.size) O ns 0 cc w e1 (by simpa using L) c7;simp only[Nat.add_zero] at iP;have F:h.row id d0 (n*i.size)=some xs:=c0;unfold H.row at F;rw[hg] at F;simp only at F;obtain⟨R,d9,a4⟩:=sub_eq F
         refine⟨.slice (some ⟨p.1,p.2.1+J,none⟩) (n+k) c,w.setRow p.1 (cc.toList.take (p.2.1+J+n*i.size)++ns++cc.toList.drop (p.2.1+J+n*i.size+ns.length)).toArray,
          m.set h.next (p.1,p.2.1+J,p.2.2),Bq ht hi hz a f ?_,⟨(p.1,p.2.1+J,p.2.2),c,0,?_,rfl,f,λ_=>rfl,?_⟩,?_⟩
         ·simp only
          rw[Ew];exact iP
         ·simp [M.set]
         ·simp only;omega
         ·have hb:=setRow_heap w p.1 cc (cc.toList.take (p.2.1+J+n*i.size)++ns++cc.toList.drop (p.2.1+J+n*i.size+ns.length)).toArray O (0,0) e1
          refine iO.ahW hr hf hg rfl rfl hp rfl (λm' b0=>⟨_,O,(0,0),hb,?_,?_,λj v K=>?_,λ_=>rfl⟩) rfl rfl rfl (by simp) (λb a8=>setRow_other w p.1 b _ a8)
          ·rw[Hy _ _ _ L];exact c9
          ·simp only[jZ,a4,a7];omega
          ·rw[Od _ _ _ L]
           by_cases G:j<n*i.size
           ·rw[Dv om] at K
            obtain rfl:=ho (by
                       rcases Nat.eq_zero_or_pos n with h0|h0;· rw[h0,Nat.zero_mul] at G;omega
                       ·exact h0)
            rw[bF (by simp only;omega)];rw[R,List.getElem?_take,bF G,List.getElem?_drop] at K;obtain⟨a1,x2,a2,a3⟩:=e4 _ v K;exact⟨a1,x2,by rw[←Nat.add_assoc] at a2;exact a2,VR.mono b0 _ _ a3⟩
           ·rw[Sj om,a4] at K
            obtain⟨y',N,a6⟩:=hy.get K;have b6:j-n*i.size<ns.length:=(Ax.1 N).1;refine⟨Y v (AW K),y',?_,VR.mono b0 _ _ a6⟩;rw[bI (by simp only;omega),bF (by simp only;omega)];rw[show (p.2.1+J,p.2.2).1+j-(p.2.1+J+n*i.size)=j-n*i.size from by simp only;omega];exact N
        ·obtain⟨x2,w2,m2,r1,r2,Z⟩:=Q om _ rfl
         refine⟨x2,w2,m2,r1,r2,?_⟩
         have a8:id≠h.next:=λe=>by
          have this:m h.next=none:=hf;rw[←e,hp] at this;cases this
         have B: ∀j o,((h.set id none).new (.cells false (xs++U))).get j=some o->(h.new (.cells false (xs++U))).get j=some o:=by
          intro j o G;simp only[H.jB,H.bY,H.kF,H.aU] at G ⊢
          by_cases e1:j=h.next
          ·simpa [e1] using G
          ·by_cases e2:j=id
           ·simp [e1,e2] at G
            exact absurd G.1 a8
           ·simpa [e1,e2] using G
         refine⟨Z.ext,⟨λj o G=>Z.rel.live j o (B j o G),λj l oj ol pj pl b6 G hl=>Z.rel.inj j l oj ol pj pl b6 (B _ _ G) (B _ _ hl)⟩,Z.fresh,Z.kept,λb hb=>?_,Z.next,λb hb=>?_,λj G hn=>?_⟩
         ·obtain⟨j,o,q,b1,b2,b3,b4⟩:=hb
          exact Z.fp b ⟨j,o,q,B _ _ b1,b2,b3,b4⟩
         ·obtain⟨j,o,q,b1,b3,b4⟩:=hb
          exact Z.lb b ⟨j,o,q,B _ _ b1,b3,b4⟩
         ·cases hg2:((h.set id none).new (.cells false (xs++U))).get j with
          |none=>rfl
          |some o=>have h9:=B j o hg2;rw[Z.old j G hn] at h9;cases h9
       ·cases s
      ·cases s
    ·cases W
     simp only at s
     cases s
     exact Q om _ rfl
    ·simp only at s
     cases s
   ·cases s
 ·cases s
end
end
end Go.Ay
