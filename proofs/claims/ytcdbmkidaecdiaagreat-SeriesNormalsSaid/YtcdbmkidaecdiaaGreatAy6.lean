/- append, copy, make. -/
import Derived.Test.YtcdbmkidaecdiaaGreatAy5
namespace Go.Ay
open Go
section
variable {e t u:TypeId} {ns:List Value} {n k:Nat} {i:TypeInfo} {z y:Value}
section
variable {P:Program} {m:M} {h:H} {w:World}
theorem BK {s b:Nat}(d:jL P e=some s)(c:Ba P e=some b): ∃i,P.info? e=some i/\i.size=s/\i.bytes=b:=by
 unfold jL Ba at*;simp only[oU] at*;obtain⟨i,hi,rfl⟩:=d;obtain⟨j,a,rfl⟩:=c;rw[hi] at a;cases a;exact⟨i,hi,rfl,rfl⟩
theorem Jd {s:Nat}(h:BL P e s=true): ∃i z,P.info? e=some i/\i.zero=some z/\z.cells.size=s:=by
 unfold BL at h
 cases hi:P.info? e with
 |none=>simp [hi] at h
 |some i=>
  cases hz:i.zero with
  |none=>simp [hi,hz] at h
  |some z=>simp [hi,hz] at h;exact⟨i,z,rfl,hz,h⟩
theorem Mf (z:Array Value)(n:Nat):(Builtin.zeroCells z n).size=n*z.size:=by simp [Builtin.zeroCells]
theorem DE (A:HR P m h w)(o:iY m h.next){xs g:List V}{c:List Value}(s:iR m xs c)(G:iR m g ns)(l: ∀v∈xs,v.one=true)(j: ∀v∈g,v.one=true)
  {sz a:Nat} (F:c.length=n*sz) (r:ns.length=k*sz) (f:n+k<=a) {z:Array Value} (J:z.size=sz) (b:TypeId) (d:Nat):
  ∃m',VR m' (.sl h.next 0 (n+k) (.un sz)) (.slice (some ⟨w.heap.size,0,none⟩) (n+k) a)/\
   jR P m h w m' (h.new (.cells false (xs++g))) (({w with drawn:=d}:World).alloc (.cells (c.toArray++ns.toArray++Builtin.zeroCells z (a-(n+k))) b)):=by
 have q:=jR.drawn A o d
 have p:=xU (w:={w with drawn:=d}) q.rel o (Builtin.zeroCells z (a-(n+k))).toList (s.append G) (by
  intro v B;rcases oD.1 B with h|h
  ·exact l v h
  ·exact j v h) b
 have x:(c++ns++(Builtin.zeroCells z (a-(n+k))).toList).toArray=c.toArray++ns.toArray++Builtin.zeroCells z (a-(n+k)):=by
  apply Array.toList_inj.1;simp
 rw[x] at p
 refine⟨_,⟨(w.heap.size,0,c.length+ns.length+(Builtin.zeroCells z (a-(n+k))).size),a,0,by simp [M.set],rfl,f,λ_=>rfl,?_⟩,q.trans p⟩
 simp only[Mf,J,F,r]
 have:a*sz=(n*sz+k*sz)+(a-(n+k))*sz:=by rw[←Nat.add_mul,←Nat.add_mul];congr 1;omega
 omega
structure agR (P:Program)(w:World)(u:TypeId)(elem:TypeId)(i:TypeInfo)(z:Value)(k:Nat)(y:Value)(ns:List Value):Prop where
 len:ns.length=k*i.size
 run:(∃e',P.underlying u=some (.slice e')/\(Builtin.lenOf y).run P w= .ok k w/\ ∀d,(Builtin.firstCells i.size k y).run P {w with drawn:=d}= .ok ns.toArray {w with drawn:=d})∨
  (∃kk,P.underlying u=some (.int kk)/\y= .int .i64 (k:Int)/\(k:Int)*i.bytes<=2^48/\(k:Int)<2^62/\(k*i.size≠0->ns.toArray=Builtin.zeroCells z.cells k))
theorem wrap_small (h:(n:Int)<2^62):IntKind.i64.wrap n=n:=by
 unfold IntKind.wrap;simp only[IntKind.bits,IntKind.signed];have:(n:Int)%2^64=n:=Int.emod_eq_of_lt om om;simp only[this];rw[bU];simp;omega
theorem Az {ty:TypeId}(s:P.underlying t=some (.slice e))(hi:P.info? e=some i)(B:i.zero=some z)
  {base:Option Addr} {c:Nat}   (j:agR P w u e i z k y ns) (d:n+k<=c) {w':World}
  (g:match base with|some a=>(storeCells (a.add (n*i.size)) ns).run P w= .ok () w'|none=>w'=w):
  (Builtin.append_ #[t,u] ty #[.slice base n c,y]).run P w= .ok (.slice base (n+k) c) w':=by
 rcases j.run with ⟨G,r,p,o⟩|⟨J,r,rfl,F,b,x⟩
 ·have A:=o w.drawn
  cases base with
  |none=>simp only at g;subst g;simp [Builtin.append_,run_underlying s,run_underlying r,sizeOf,typeInfo,hi,p,A,d]
  |some a=>simp only at g;simp [Builtin.append_,run_underlying s,run_underlying r,sizeOf,typeInfo,hi,p,A,d,g]
 ·have l: ¬((k:Int)<0):=om
  have v: ¬(281474976710656<(k:Int)*i.bytes):=om
  by_cases f:k*i.size=0
  ·have q:ns= []:=ON (by rw[j.len,f])
   subst q
   cases base with
   |none=>simp only at g;subst g;simp [Builtin.append_,run_underlying s,run_underlying r,sizeOf,typeInfo,hi,asInt,asIntOf,wrap_small b,l,v,d,f]
   |some a=>simp only at g;simp [Builtin.append_,run_underlying s,run_underlying r,sizeOf,typeInfo,hi,asInt,asIntOf,wrap_small b,l,v,d,f,g]
  ·have q:=x f
   cases base with
   |none=>simp only at g;subst g;simp [Builtin.append_,run_underlying s,run_underlying r,sizeOf,typeInfo,zeroValue,hi,B,asInt,asIntOf,wrap_small b,l,v,d,f]
   |some a=>
    have:(Builtin.zeroCells z.cells k).toList=ns:=by rw[←q]
    simp only at g;simp [Builtin.append_,run_underlying s,run_underlying r,sizeOf,typeInfo,zeroValue,hi,B,asInt,asIntOf,wrap_small b,l,v,d,f,this,g]
theorem AZ {ty:TypeId}(F:P.underlying t=some (.slice e))(hi:P.info? e=some i)(L:i.zero=some z)
  {base:Option Addr} {c:Nat}  {A:List Value} (j:agR P w u e i z k y ns) (K: ∀d,(Builtin.firstCells i.size n (.slice base n c)).run P {w with drawn:=d}= .ok A.toArray {w with drawn:=d})
  (G:c<n+k) (O:(2*(n+k)+1000)*i.bytes<=2^48) (R:n+k<2^62):
  ∃cap d,n+k<=cap/\(Builtin.append_ #[t,u] ty #[.slice base n c,y]).run P w= .ok (.slice (some ⟨w.heap.size,0,none⟩) (n+k) cap)
   (({w with drawn:=d}:World).alloc (.cells (A.toArray++ns.toArray++Builtin.zeroCells z.cells (cap-(n+k))) e)):=by
 have b: ¬(Builtin.nextslicecap (n+k) c*i.bytes>2^48):=by
  have W:=nextslicecap_le G;have N:Builtin.nextslicecap (n+k) c*i.bytes<=(2*(n+k)+1000)*i.bytes:=Nat.mul_le_mul_right _ om;omega
 have a:(Question.appendCap (n+k) c e).forced=false:=rfl
 have r: ¬(9223372036854775807<(n:Int)+(k:Int)):=om
 have f:IntKind.i64.max=9223372036854775807:=by decide
 refine⟨(Question.appendCap (n+k) c e).cut (w.tape w.drawn (.appendCap (n+k) c e)),w.drawn+1,by simp [Question.cut],?_⟩
 have g: ¬(n+k<=c):=om
 have J:(Builtin.firstCells i.size n (.slice base n c)).run P w.drew= .ok A.toArray w.drew:=K (w.drawn+1)
 rcases j.run with ⟨Y,x,v,o⟩|⟨Z,x,rfl,U,p,B⟩
 ·have N:(Builtin.firstCells i.size k y).run P w.drew= .ok ns.toArray w.drew:=o (w.drawn+1)
  simp [Builtin.append_,run_underlying F,run_underlying x,sizeOf,typeInfo,zeroValue,hi,L,v,g,r,f,b,a,J,N,newRow]
  congr 2
  apply Array.toList_inj.1
  simp
 ·have s: ¬((k:Int)<0):=om
  have Q: ¬(281474976710656<(k:Int)*i.bytes):=om
  by_cases l:k*i.size=0
  ·have q:ns= []:=ON (by rw[j.len,l])
   subst q
   simp [Builtin.append_,run_underlying F,run_underlying x,sizeOf,typeInfo,zeroValue,hi,L,asInt,asIntOf,wrap_small p,s,Q,g,r,f,b,a,J,newRow,l]
  ·have q:=B l
   simp [Builtin.append_,run_underlying F,run_underlying x,sizeOf,typeInfo,zeroValue,hi,L,asInt,asIntOf,wrap_small p,s,Q,g,r,f,b,a,J,newRow,l,q]
theorem JO (hr:HR P m h w)(hf:iY m h.next){sz bytes:Nat}(ht:P.underlying t=some (.slice e))(hi:P.info? e=some i)(hz:i.zero=some z)
  (hs:i.size=sz) (hb:i.bytes=bytes) (d1:z.cells.size=sz) {v r:V} {x:Value}  {R:List V}  {h':H} (Q:VR m v x) (hy:iR m R ns) (U: ∀v∈R,v.one=true)
  (a:agR P w u e i z k y ns) (g:Fj h sz bytes v k R=some (r,h')) (ty:TypeId):
  bD P m h w (Builtin.append_ #[t,u] ty #[x,y]) r h':=by
 subst hs
 subst hb
 unfold Fj at g
 split at g
 ·rename_i n xs hn b9
  obtain⟨os,d4,b5,c1,c0⟩:=Lm hr Q hn b9
  obtain⟨a0,c,rfl⟩:=uX Q hn
  have a6:R.length=k*i.size:=(iR.length hy).trans a.len
  split at g
  ·rename_i hk
   cases g
   subst hk
   have c4:ns= []:=ON (by rw[a.len];simp)
   subst c4
   have b6:n+0<=c:=by
    cases v<;>simp only[wZ] at hn<;>try cases hn
    ·obtain⟨p,c',J,_,N,b6,_⟩:=Q;cases N;omega
    ·cases Q;omega
    ·cases Q;omega
   refine bD.still hr hf (Az ht hi hz a b6 (w':=w) ?_) Q
   cases a0<;>simp [storeCells]
  ·split at g
   ·rename_i d6 Z
    have grow:c<n+k-> ∀(hh:H),hh=h.new (.cells false (xs++R))->bD P m h w (Builtin.append_ #[t,u] ty #[.slice a0 n c,y]) (.sl h.next 0 (n+k) (.un i.size)) hh:=by
     intro d3 hh c6;subst c6;obtain⟨b0,d,s,a7⟩:=AZ ht hi hz a d4 d3 Z.1 Z.2 (ty:=ty);obtain⟨m',h1,h2⟩:=DE hr hf b5 hy c1 U c0 a.len s d1 e d;exact⟨_,_,m',a7,h1,h2⟩
    cases v<;>simp only[wZ] at hn<;>try cases hn
    ·rename_i id c9 b0
     obtain⟨p,c',J,hp,N,d7,ho,s⟩:=Q
     cases N
     cases b0 with
     |kn c2=>
      simp only at s g;obtain⟨s,rfl⟩:=s;subst s;split at g
      ·rename_i f
       cases hput:h.put id (J+n*i.size) R with
       |none=>simp [hput] at g
       |some h2=>
        simp only[hput] at g;cases g;obtain⟨w',jI,a9⟩:=Dq hr hf hput hy U hp;refine⟨_,w',m,Az ht hi hz a f (w':=w') ?_,⟨p,_,_,hp,rfl,f,λ_=>rfl,rfl,rfl⟩,a9⟩;simp only;rw[mD,Nat.add_assoc];exact jI
      ·rename_i f
       cases g;exact grow om _ rfl
     |un e2=>
      simp only at s g;split at g
      ·rename_i vs hg
       split at g
       ·rename_i c7
        subst c7;cases g
        by_cases f:n+k<=c
        ·--in place
         obtain⟨p',b7,cc,L,fr,e1,c8,e3,e4,e5⟩:=hr.live id _ hg;rw[hp] at b7;cases b7;have d2:=e5 rfl;subst d2
         have d0: ∀x∈ns,x.oneCell'=true:=by
          intro x Q;obtain⟨j,F,rfl⟩:=List.getElem_of_mem Q;have a8:j<R.length:=by rw[iR.length hy];exact F
          obtain⟨y',O,a4⟩:=hy.get (dD a8);rw[dD F] at O;cases O;exact a4.one (U _ (xG a8))
         have d5:(n+k)*i.size<=c*i.size:=Nat.mul_le_mul_right _ f;have c5:(n+k)*i.size=n*i.size+k*i.size:=Nat.add_mul _ _ _;have K:p.2.1+J+n*i.size+ns.length<=cc.size:=by rw[a.len];omega
         have jI:=run_storeCells_at P p.1 (p.2.1+J+n*i.size) L ns 0 cc w e1 (by simpa using K) d0;simp only[Nat.add_zero] at jI;have B:h.row id c9 (n*i.size)=some xs:=b9;unfold H.row at B;rw[hg] at B;simp only at B;obtain⟨N,d8,Y⟩:=sub_eq B
         refine⟨.slice (some ⟨p.1,p.2.1+J,none⟩) (n+k) c,w.setRow p.1 (cc.toList.take (p.2.1+J+n*i.size)++ns++cc.toList.drop (p.2.1+J+n*i.size+ns.length)).toArray,
          m.set h.next (p.1,p.2.1+J,p.2.2),Az ht hi hz a f ?_,⟨(p.1,p.2.1+J,p.2.2),c,0,?_,rfl,f,λ_=>rfl,?_⟩,?_⟩
         ·simp only
          rw[mD];exact jI
         ·simp [M.set]
         ·simp only;omega
         ·have hb:=setRow_heap w p.1 cc (cc.toList.take (p.2.1+J+n*i.size)++ns++cc.toList.drop (p.2.1+J+n*i.size+ns.length)).toArray L (0,0) e1
          refine jR.akH hr hf hg rfl rfl hp rfl (λm' b8=>⟨_,L,(0,0),hb,?_,?_,λj v G=>?_,λ_=>rfl⟩) rfl rfl rfl (by simp) (λb a5=>setRow_other w p.1 b _ a5)
          ·rw[Iz _ _ _ K];exact c8
          ·simp only[iV,Y,a6];omega
          ·rw[Nj _ _ _ K]
           by_cases F:j<n*i.size
           ·rw[Dt om] at G
            obtain rfl:=ho (by
                       rcases Nat.eq_zero_or_pos n with h0|h0;· rw[h0,Nat.zero_mul] at F;omega
                       ·exact h0)
            rw[bJ (by simp only;omega)];rw[N,List.getElem?_take,bJ F,List.getElem?_drop] at G;obtain⟨a1,x2,a2,a3⟩:=e4 _ v G;exact⟨a1,x2,by rw[←Nat.add_assoc] at a2;exact a2,VR.mono b8 _ _ a3⟩
           ·rw[Jg om,Y] at G
            obtain⟨y',O,a4⟩:=hy.get G;have c3:j-n*i.size<ns.length:=(vJ.1 O).1;refine⟨U v (Xu G),y',?_,VR.mono b8 _ _ a4⟩;rw[bU (by simp only;omega),bJ (by simp only;omega)];rw[show (p.2.1+J,p.2.2).1+j-(p.2.1+J+n*i.size)=j-n*i.size from by simp only;omega];exact O
        ·obtain⟨x2,w2,m2,r1,r2,W⟩:=grow om _ rfl
         refine⟨x2,w2,m2,r1,r2,?_⟩
         have a5:id≠h.next:=λe=>by
          have this:m h.next=none:=hf;rw[←e,hp] at this;cases this
         have A: ∀j o,((h.set id none).new (.cells false (xs++R))).get j=some o->(h.new (.cells false (xs++R))).get j=some o:=by
          intro j o F;simp only[H.jB,H.cV,H.kL,H.aW] at F ⊢
          by_cases e1:j=h.next
          ·simpa [e1] using F
          ·by_cases e2:j=id
           ·simp [e1,e2] at F
            exact absurd F.1 a5
           ·simpa [e1,e2] using F
         refine⟨W.ext,⟨λj o F=>W.rel.live j o (A j o F),λj l oj ol pj pl c3 F hl=>W.rel.inj j l oj ol pj pl c3 (A _ _ F) (A _ _ hl)⟩,W.fresh,W.kept,λb hb=>?_,W.next,λb hb=>?_,λj F hn=>?_⟩
         ·obtain⟨j,o,q,b1,b2,b3,b4⟩:=hb
          exact W.fp b ⟨j,o,q,A _ _ b1,b2,b3,b4⟩
         ·obtain⟨j,o,q,b1,b3,b4⟩:=hb
          exact W.lb b ⟨j,o,q,A _ _ b1,b3,b4⟩
         ·cases hg2:((h.set id none).new (.cells false (xs++R))).get j with
          |none=>rfl
          |some o=>have h9:=A j o hg2;rw[W.old j F hn] at h9;cases h9
       ·cases g
      ·cases g
    ·cases Q
     simp only at g
     cases g
     exact grow om _ rfl
    ·simp only at g
     cases g
   ·cases g
 ·cases g
end
end
end Go.Ay
