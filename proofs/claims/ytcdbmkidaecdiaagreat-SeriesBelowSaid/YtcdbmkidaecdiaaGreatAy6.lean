/- append, copy, make. -/
import Derived.Test.YtcdbmkidaecdiaaGreatAy5
namespace Go.Ay
open Go
section
variable {e t u:TypeId} {ns:List Value} {n k:Nat} {i:TypeInfo} {z y:Value}
section
variable {P:Program} {m:M} {h:H} {w:World}
theorem BK {s b:Nat}(c:jL P e=some s)(d:Jy P e=some b): ∃i,P.info? e=some i/\i.size=s/\i.bytes=b:=by
 unfold jL Jy at*;simp only[oU] at*;obtain⟨i,hi,rfl⟩:=c;obtain⟨j,a,rfl⟩:=d;rw[hi] at a;cases a;exact⟨i,hi,rfl,rfl⟩
theorem Jd {s:Nat}(h:BL P e s=true): ∃i z,P.info? e=some i/\i.zero=some z/\z.cells.size=s:=by
 unfold BL at h
 cases hi:P.info? e with
 |none=>simp [hi] at h
 |some i=>
  cases hz:i.zero with
  |none=>simp [hi,hz] at h
  |some z=>simp [hi,hz] at h;exact⟨i,z,rfl,hz,h⟩
theorem Mf (z:Array Value)(n:Nat):(Builtin.zeroCells z n).size=n*z.size:=by simp [Builtin.zeroCells]
theorem DE (J:HR P m h w)(r:iY m h.next){xs j:List V}{c:List Value}(F:iR m xs c)(K:iR m j ns)(o: ∀v∈xs,v.one=true)(l: ∀v∈j,v.one=true)
  {sz a:Nat} (B:c.length=n*sz) (s:ns.length=k*sz) (f:n+k<=a) {z:Array Value} (G:z.size=sz) (b:TypeId) (d:Nat):
  ∃m',VR m' (.sl h.next 0 (n+k) (.un sz)) (.slice (some ⟨w.heap.size,0,none⟩) (n+k) a)/\
   jR P m h w m' (h.new (.cells false (xs++j))) (({w with drawn:=d}:World).alloc (.cells (c.toArray++ns.toArray++Builtin.zeroCells z (a-(n+k))) b)):=by
 have p:=jR.drawn J r d
 have q:=xU (w:={w with drawn:=d}) p.rel r (Builtin.zeroCells z (a-(n+k))).toList (F.append K) (by
  intro v A;rcases oD.1 A with h|h
  ·exact o v h
  ·exact l v h) b
 have x:(c++ns++(Builtin.zeroCells z (a-(n+k))).toList).toArray=c.toArray++ns.toArray++Builtin.zeroCells z (a-(n+k)):=by
  apply Array.toList_inj.1;simp
 rw[x] at q
 refine⟨_,⟨(w.heap.size,0,c.length+ns.length+(Builtin.zeroCells z (a-(n+k))).size),a,0,by simp [M.set],rfl,f,λ_=>rfl,?_⟩,p.trans q⟩
 simp only[Mf,G,B,s]
 have:a*sz=(n*sz+k*sz)+(a-(n+k))*sz:=by rw[←Nat.add_mul,←Nat.add_mul];congr 1;omega
 omega
structure agR (P:Program)(w:World)(u:TypeId)(elem:TypeId)(i:TypeInfo)(z:Value)(k:Nat)(y:Value)(ns:List Value):Prop where
 len:ns.length=k*i.size
 run:(∃e',P.underlying u=some (.slice e')/\(Builtin.lenOf y).run P w= .ok k w/\ ∀d,(Builtin.firstCells i.size k y).run P {w with drawn:=d}= .ok ns.toArray {w with drawn:=d})∨
  (∃kk,P.underlying u=some (.int kk)/\y= .int .i64 (k:Int)/\(k:Int)*i.bytes<=2^48/\(k:Int)<2^62/\(k*i.size≠0->ns.toArray=Builtin.zeroCells z.cells k))
theorem qK (h:(n:Int)<2^62):IntKind.i64.wrap n=n:=by
 unfold IntKind.wrap;simp only[IntKind.bits,IntKind.signed];have:(n:Int)%2^64=n:=Int.emod_eq_of_lt om om;simp only[this];rw[bU];simp;omega
theorem Az {ty:TypeId}(v:P.underlying t=some (.slice e))(hi:P.info? e=some i)(B:i.zero=some z)
  {base:Option Addr} {c:Nat}   (l:agR P w u e i z k y ns) (f:n+k<=c) {w':World}
  (j:match base with|some a=>(storeCells (a.add (n*i.size)) ns).run P w= .ok () w'|none=>w'=w):
  (Builtin.append_ #[t,u] ty #[.slice base n c,y]).run P w= .ok (.slice base (n+k) c) w':=by
 rcases l.run with ⟨K,r,q,o⟩|⟨J,r,rfl,G,b,A⟩
 ·have F:=o w.drawn
  cases base with
  |none=>simp only at j;subst j;simp [Builtin.append_,run_underlying v,run_underlying r,sizeOf,typeInfo,hi,q,F,f]
  |some a=>simp only at j;simp [Builtin.append_,run_underlying v,run_underlying r,sizeOf,typeInfo,hi,q,F,f,j]
 ·have p: ¬((k:Int)<0):=om
  have x: ¬(281474976710656<(k:Int)*i.bytes):=om
  by_cases d:k*i.size=0
  ·have s:ns= []:=ON (by rw[l.len,d])
   subst s
   cases base with
   |none=>simp only at j;subst j;simp [Builtin.append_,run_underlying v,run_underlying r,sizeOf,typeInfo,hi,asInt,asIntOf,qK b,p,x,f,d]
   |some a=>simp only at j;simp [Builtin.append_,run_underlying v,run_underlying r,sizeOf,typeInfo,hi,asInt,asIntOf,qK b,p,x,f,d,j]
  ·have s:=A d
   cases base with
   |none=>simp only at j;subst j;simp [Builtin.append_,run_underlying v,run_underlying r,sizeOf,typeInfo,zeroValue,hi,B,asInt,asIntOf,qK b,p,x,f,d]
   |some a=>
    have:(Builtin.zeroCells z.cells k).toList=ns:=by rw[←s]
    simp only at j;simp [Builtin.append_,run_underlying v,run_underlying r,sizeOf,typeInfo,zeroValue,hi,B,asInt,asIntOf,qK b,p,x,f,d,this,j]
theorem AZ {ty:TypeId}(G:P.underlying t=some (.slice e))(hi:P.info? e=some i)(J:i.zero=some z)
  {base:Option Addr} {c:Nat}  {K:List Value} (f:agR P w u e i z k y ns) (L: ∀d,(Builtin.firstCells i.size n (.slice base n c)).run P {w with drawn:=d}= .ok K.toArray {w with drawn:=d})
  (N:c<n+k) (Q:(2*(n+k)+1000)*i.bytes<=2^48) (U:n+k<2^62):
  ∃cap d,n+k<=cap/\(Builtin.append_ #[t,u] ty #[.slice base n c,y]).run P w= .ok (.slice (some ⟨w.heap.size,0,none⟩) (n+k) cap)
   (({w with drawn:=d}:World).alloc (.cells (K.toArray++ns.toArray++Builtin.zeroCells z.cells (cap-(n+k))) e)):=by
 have b: ¬(Builtin.nextslicecap (n+k) c*i.bytes>2^48):=by
  have Y:=nextslicecap_le N;have R:Builtin.nextslicecap (n+k) c*i.bytes<=(2*(n+k)+1000)*i.bytes:=Nat.mul_le_mul_right _ om;omega
 have a:(Question.appendCap (n+k) c e).forced=false:=rfl
 have r: ¬(9223372036854775807<(n:Int)+(k:Int)):=om
 have l:IntKind.i64.max=9223372036854775807:=by decide
 refine⟨(Question.appendCap (n+k) c e).cut (w.tape w.drawn (.appendCap (n+k) c e)),w.drawn+1,by simp [Question.cut],?_⟩
 have j: ¬(n+k<=c):=om
 have B:(Builtin.firstCells i.size n (.slice base n c)).run P w.drew= .ok K.toArray w.drew:=L (w.drawn+1)
 rcases f.run with ⟨e',A,x,o⟩|⟨Z,A,rfl,W,q,F⟩
 ·have R:(Builtin.firstCells i.size k y).run P w.drew= .ok ns.toArray w.drew:=o (w.drawn+1)
  simp [Builtin.append_,run_underlying G,run_underlying A,sizeOf,typeInfo,zeroValue,hi,J,x,j,r,l,b,a,B,R,newRow]
  congr 2
  apply Array.toList_inj.1
  simp
 ·have v: ¬((k:Int)<0):=om
  have O: ¬(281474976710656<(k:Int)*i.bytes):=om
  by_cases p:k*i.size=0
  ·have s:ns= []:=ON (by rw[f.len,p])
   subst s
   simp [Builtin.append_,run_underlying G,run_underlying A,sizeOf,typeInfo,zeroValue,hi,J,asInt,asIntOf,qK q,v,O,j,r,l,b,a,B,newRow,p]
  ·have s:=F p
   simp [Builtin.append_,run_underlying G,run_underlying A,sizeOf,typeInfo,zeroValue,hi,J,asInt,asIntOf,qK q,v,O,j,r,l,b,a,B,newRow,p,s]
theorem JO (hr:HR P m h w)(hf:iY m h.next){sz bytes:Nat}(ht:P.underlying t=some (.slice e))(hi:P.info? e=some i)(hz:i.zero=some z)
  (hs:i.size=sz) (hb:i.bytes=bytes) (d0:z.cells.size=sz) {v r:V} {x:Value}  {W:List V}  {h':H} (U:VR m v x) (hy:iR m W ns) (Y: ∀v∈W,v.one=true)
  (a:agR P w u e i z k y ns) (s:Fj h sz bytes v k W=some (r,h')) (ty:TypeId):
  bD P m h w (Builtin.append_ #[t,u] ty #[x,y]) r h':=by
 subst hs
 subst hb
 unfold Fj at s
 split at s
 ·rename_i n xs hn c1
  obtain⟨os,d6,b0,c6,c4⟩:=Lm hr U hn c1
  obtain⟨a5,c,rfl⟩:=uX U hn
  have a7:W.length=k*i.size:=(iR.length hy).trans a.len
  split at s
  ·rename_i hk
   cases s
   subst hk
   have c0:ns= []:=ON (by rw[a.len];simp)
   subst c0
   have b5:n+0<=c:=by
    cases v<;>simp only[wZ] at hn<;>try cases hn
    ·obtain⟨p,c',K,_,Q,b5,_⟩:=U;cases Q;omega
    ·cases U;omega
    ·cases U;omega
   refine bD.still hr hf (Az ht hi hz a b5 (w':=w) ?_) U
   cases a5<;>simp [storeCells]
  ·split at s
   ·rename_i e0 a0
    have R:c<n+k-> ∀(hh:H),hh=h.new (.cells false (xs++W))->bD P m h w (Builtin.append_ #[t,u] ty #[.slice a5 n c,y]) (.sl h.next 0 (n+k) (.un i.size)) hh:=by
     intro c8 hh d3;subst d3;obtain⟨b6,d,A,b8⟩:=AZ ht hi hz a d6 c8 a0.1 a0.2 (ty:=ty);obtain⟨m',h1,h2⟩:=DE hr hf b0 hy c6 Y c4 a.len A d0 e d;exact⟨_,_,m',b8,h1,h2⟩
    cases v<;>simp only[wZ] at hn<;>try cases hn
    ·rename_i id c7 b6
     obtain⟨p,c',K,hp,Q,d8,ho,A⟩:=U
     cases Q
     cases b6 with
     |kn c2=>
      simp only at A s;obtain⟨A,rfl⟩:=A;subst A;split at s
      ·rename_i f
       cases hput:h.put id (K+n*i.size) W with
       |none=>simp [hput] at s
       |some h2=>
        simp only[hput] at s;cases s;obtain⟨w',jI,b7⟩:=Dq hr hf hput hy Y hp;refine⟨_,w',m,Az ht hi hz a f (w':=w') ?_,⟨p,_,_,hp,rfl,f,λ_=>rfl,rfl,rfl⟩,b7⟩;simp only;rw[mD,Nat.add_assoc];exact jI
      ·rename_i f
       cases s;exact R om _ rfl
     |un e2=>
      simp only at A s;split at s
      ·rename_i vs hg
       split at s
       ·rename_i d1
        subst d1;cases s
        by_cases f:n+k<=c
        ·--in place
         obtain⟨p',c3,cc,N,fr,e1,d5,e3,e4,e5⟩:=hr.live id _ hg;rw[hp] at c3;cases c3;have d2:=e5 rfl;subst d2
         have c9: ∀x∈ns,x.oneCell'=true:=by
          intro x U;obtain⟨j,G,rfl⟩:=List.getElem_of_mem U;have b9:j<W.length:=by rw[iR.length hy];exact G
          obtain⟨y',O,a6⟩:=hy.get (dD b9);rw[dD G] at O;cases O;exact a6.one (Y _ (xG b9))
         have d7:(n+k)*i.size<=c*i.size:=Nat.mul_le_mul_right _ f;have d4:(n+k)*i.size=n*i.size+k*i.size:=Nat.add_mul _ _ _;have L:p.2.1+K+n*i.size+ns.length<=cc.size:=by rw[a.len];omega
         have jI:=run_storeCells_at P p.1 (p.2.1+K+n*i.size) N ns 0 cc w e1 (by simpa using L) c9;simp only[Nat.add_zero] at jI;have F:h.row id c7 (n*i.size)=some xs:=c1;unfold H.row at F;rw[hg] at F;simp only at F;obtain⟨Q,d9,a4⟩:=sub_eq F
         refine⟨.slice (some ⟨p.1,p.2.1+K,none⟩) (n+k) c,w.setRow p.1 (cc.toList.take (p.2.1+K+n*i.size)++ns++cc.toList.drop (p.2.1+K+n*i.size+ns.length)).toArray,
          m.set h.next (p.1,p.2.1+K,p.2.2),Az ht hi hz a f ?_,⟨(p.1,p.2.1+K,p.2.2),c,0,?_,rfl,f,λ_=>rfl,?_⟩,?_⟩
         ·simp only
          rw[mD];exact jI
         ·simp [M.set]
         ·simp only;omega
         ·have hb:=setRow_heap w p.1 cc (cc.toList.take (p.2.1+K+n*i.size)++ns++cc.toList.drop (p.2.1+K+n*i.size+ns.length)).toArray N (0,0) e1
          refine jR.akH hr hf hg rfl rfl hp rfl (λm' c5=>⟨_,N,(0,0),hb,?_,?_,λj v J=>?_,λ_=>rfl⟩) rfl rfl rfl (by simp) (λb a8=>setRow_other w p.1 b _ a8)
          ·rw[Iz _ _ _ L];exact d5
          ·simp only[iV,a4,a7];omega
          ·rw[Nj _ _ _ L]
           by_cases G:j<n*i.size
           ·rw[Dt om] at J
            obtain rfl:=ho (by
                       rcases Nat.eq_zero_or_pos n with h0|h0;· rw[h0,Nat.zero_mul] at G;omega
                       ·exact h0)
            rw[bJ (by simp only;omega)];rw[Q,List.getElem?_take,bJ G,List.getElem?_drop] at J;obtain⟨a1,x2,a2,a3⟩:=e4 _ v J;exact⟨a1,x2,by rw[←Nat.add_assoc] at a2;exact a2,VR.mono c5 _ _ a3⟩
           ·rw[Jg om,a4] at J
            obtain⟨y',O,a6⟩:=hy.get J;have a9:j-n*i.size<ns.length:=(vJ.1 O).1;refine⟨Y v (Xu J),y',?_,VR.mono c5 _ _ a6⟩;rw[bU (by simp only;omega),bJ (by simp only;omega)];rw[show (p.2.1+K,p.2.2).1+j-(p.2.1+K+n*i.size)=j-n*i.size from by simp only;omega];exact O
        ·obtain⟨x2,w2,m2,r1,r2,Z⟩:=R om _ rfl
         refine⟨x2,w2,m2,r1,r2,?_⟩
         have a8:id≠h.next:=λe=>by
          have this:m h.next=none:=hf;rw[←e,hp] at this;cases this
         have B: ∀j o,((h.set id none).new (.cells false (xs++W))).get j=some o->(h.new (.cells false (xs++W))).get j=some o:=by
          intro j o G;simp only[H.jB,H.cV,H.kL,H.aW] at G ⊢
          by_cases e1:j=h.next
          ·simpa [e1] using G
          ·by_cases e2:j=id
           ·simp [e1,e2] at G
            exact absurd G.1 a8
           ·simpa [e1,e2] using G
         refine⟨Z.ext,⟨λj o G=>Z.rel.live j o (B j o G),λj l oj ol pj pl a9 G hl=>Z.rel.inj j l oj ol pj pl a9 (B _ _ G) (B _ _ hl)⟩,Z.fresh,Z.kept,λb hb=>?_,Z.next,λb hb=>?_,λj G hn=>?_⟩
         ·obtain⟨j,o,q,b1,b2,b3,b4⟩:=hb
          exact Z.fp b ⟨j,o,q,B _ _ b1,b2,b3,b4⟩
         ·obtain⟨j,o,q,b1,b3,b4⟩:=hb
          exact Z.lb b ⟨j,o,q,B _ _ b1,b3,b4⟩
         ·cases hg2:((h.set id none).new (.cells false (xs++W))).get j with
          |none=>rfl
          |some o=>have h9:=B j o hg2;rw[Z.old j G hn] at h9;cases h9
       ·cases s
      ·cases s
    ·cases U
     simp only at s
     cases s
     exact R om _ rfl
    ·simp only at s
     cases s
   ·cases s
 ·cases s
end
end
end Go.Ay
