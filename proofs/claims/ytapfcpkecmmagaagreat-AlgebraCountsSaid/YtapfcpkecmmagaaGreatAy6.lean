/- append, copy, make. -/
import Derived.Test.YtapfcpkecmmagaaGreatAy5
namespace Go.Ay
open Go
section
variable {e t u:TypeId} {ns:List Value} {n k:Nat} {i:TypeInfo} {z y:Value}
section
variable {P:Program} {m:M} {h:H} {w:World}
theorem Jw {s b:Nat}(c:fX P e=some s)(d:rR P e=some b): ∃i,P.info? e=some i/\i.size=s/\i.bytes=b:=by
 unfold fX rR at*;simp only[jB] at*;obtain⟨i,hi,rfl⟩:=c;obtain⟨j,a,rfl⟩:=d;rw[hi] at a;cases a;exact⟨i,hi,rfl,rfl⟩
theorem vI {s:Nat}(h:Kv P e s=true): ∃i z,P.info? e=some i/\i.zero=some z/\z.cells.size=s:=by
 unfold Kv at h
 cases hi:P.info? e with
 |none=>simp [hi] at h
 |some i=>
  cases hz:i.zero with
  |none=>simp [hi,hz] at h
  |some z=>simp [hi,hz] at h;exact⟨i,z,rfl,hz,h⟩
theorem yN (z:Array Value)(n:Nat):(Builtin.zeroCells z n).size=n*z.size:=by simp [Builtin.zeroCells]
theorem Ng (x:HR P m h w)(p:fK m h.next){xs j:List V}{c:List Value}(F:fL m xs c)(B:fL m j ns)(g: ∀v∈xs,v.one=true)(l: ∀v∈j,v.one=true)
  {sz a:Nat} (s:c.length=n*sz) (G:ns.length=k*sz) (f:n+k<=a) {z:Array Value} (r:z.size=sz) (b:TypeId) (d:Nat):
  ∃m',VR m' (.sl h.next 0 (n+k) (.un sz)) (.slice (some ⟨w.heap.size,0,none⟩) (n+k) a)/\
   fU P m h w m' (h.new (.cells false (xs++j))) (({w with drawn:=d}:World).alloc (.cells (c.toArray++ns.toArray++Builtin.zeroCells z (a-(n+k))) b)):=by
 have q:=fU.drawn x p d
 have o:=oZ (w:={w with drawn:=d}) q.rel p (Builtin.zeroCells z (a-(n+k))).toList (F.append B) (by
  intro v A;rcases sP.1 A with h|h
  ·exact g v h
  ·exact l v h) b
 have A:(c++ns++(Builtin.zeroCells z (a-(n+k))).toList).toArray=c.toArray++ns.toArray++Builtin.zeroCells z (a-(n+k)):=by
  apply Array.toList_inj.1;simp
 rw[A] at o
 refine⟨_,⟨(w.heap.size,0,c.length+ns.length+(Builtin.zeroCells z (a-(n+k))).size),a,0,by simp [M.set],rfl,f,λ_=>rfl,?_⟩,q.trans o⟩
 simp only[yN,r,s,G]
 have:a*sz=(n*sz+k*sz)+(a-(n+k))*sz:=by rw[←Nat.add_mul,←Nat.add_mul];congr 1;omega
 omega
structure BM (P:Program)(w:World)(u:TypeId)(elem:TypeId)(i:TypeInfo)(z:Value)(k:Nat)(y:Value)(ns:List Value):Prop where
 len:ns.length=k*i.size
 run:(∃e',P.underlying u=some (.slice e')/\(Builtin.lenOf y).run P w= .ok k w/\ ∀d,(Builtin.firstCells i.size k y).run P {w with drawn:=d}= .ok ns.toArray {w with drawn:=d})∨
  (∃kk,P.underlying u=some (.int kk)/\y= .int .i64 (k:Int)/\(k:Int)*i.bytes<=2^48/\(k:Int)<2^62/\(k*i.size≠0->ns.toArray=Builtin.zeroCells z.cells k))
theorem kX (h:(n:Int)<2^62):IntKind.i64.wrap n=n:=by
 unfold IntKind.wrap;simp only[IntKind.bits,IntKind.signed];have:(n:Int)%2^64=n:=Int.emod_eq_of_lt om om;simp only[this];rw[aZ];simp;omega
theorem rL {ty:TypeId}(s:P.underlying t=some (.slice e))(hi:P.info? e=some i)(A:i.zero=some z)
  {base:Option Addr} {c:Nat}   (j:BM P w u e i z k y ns) (d:n+k<=c) {w':World}
  (g:match base with|some a=>(storeCells (a.add (n*i.size)) ns).run P w= .ok () w'|none=>w'=w):
  (Builtin.append_ #[t,u] ty #[.slice base n c,y]).run P w= .ok (.slice base (n+k) c) w':=by
 rcases j.run with ⟨F,r,p,o⟩|⟨F,r,rfl,F,b,x⟩
 ·have B:=o w.drawn
  cases base with
  |none=>simp only at g;subst g;simp [Builtin.append_,run_underlying s,run_underlying r,sizeOf,typeInfo,hi,p,B,d]
  |some a=>simp only at g;simp [Builtin.append_,run_underlying s,run_underlying r,sizeOf,typeInfo,hi,p,B,d,g]
 ·have l: ¬((k:Int)<0):=om
  have v: ¬(281474976710656<(k:Int)*i.bytes):=om
  by_cases f:k*i.size=0
  ·have q:ns= []:=Yd (by rw[j.len,f])
   subst q
   cases base with
   |none=>simp only at g;subst g;simp [Builtin.append_,run_underlying s,run_underlying r,sizeOf,typeInfo,hi,asInt,asIntOf,kX b,l,v,d,f]
   |some a=>simp only at g;simp [Builtin.append_,run_underlying s,run_underlying r,sizeOf,typeInfo,hi,asInt,asIntOf,kX b,l,v,d,f,g]
  ·have q:=x f
   cases base with
   |none=>simp only at g;subst g;simp [Builtin.append_,run_underlying s,run_underlying r,sizeOf,typeInfo,zeroValue,hi,A,asInt,asIntOf,kX b,l,v,d,f]
   |some a=>
    have:(Builtin.zeroCells z.cells k).toList=ns:=by rw[←q]
    simp only at g;simp [Builtin.append_,run_underlying s,run_underlying r,sizeOf,typeInfo,zeroValue,hi,A,asInt,asIntOf,kX b,l,v,d,f,this,g]
theorem Jr {ty:TypeId}(B:P.underlying t=some (.slice e))(hi:P.info? e=some i)(A:i.zero=some z)
  {base:Option Addr} {c:Nat}  {F:List Value} (f:BM P w u e i z k y ns) (G: ∀d,(Builtin.firstCells i.size n (.slice base n c)).run P {w with drawn:=d}= .ok F.toArray {w with drawn:=d})
  (K:c<n+k) (O:(2*(n+k)+1000)*i.bytes<=2^48) (U:n+k<2^62):
  ∃cap d,n+k<=cap/\(Builtin.append_ #[t,u] ty #[.slice base n c,y]).run P w= .ok (.slice (some ⟨w.heap.size,0,none⟩) (n+k) cap)
   (({w with drawn:=d}:World).alloc (.cells (F.toArray++ns.toArray++Builtin.zeroCells z.cells (cap-(n+k))) e)):=by
 have b: ¬(Builtin.nextslicecap (n+k) c*i.bytes>2^48):=by
  have R:=nextslicecap_le K;have Q:Builtin.nextslicecap (n+k) c*i.bytes<=(2*(n+k)+1000)*i.bytes:=Nat.mul_le_mul_right _ om;omega
 have a:(Question.appendCap (n+k) c e).forced=false:=rfl
 have r: ¬(9223372036854775807<(n:Int)+(k:Int)):=om
 have j:IntKind.i64.max=9223372036854775807:=by decide
 refine⟨(Question.appendCap (n+k) c e).cut (w.tape w.drawn (.appendCap (n+k) c e)),w.drawn+1,by simp [Question.cut],?_⟩
 have g: ¬(n+k<=c):=om
 have J:(Builtin.firstCells i.size n (.slice base n c)).run P w.drew= .ok F.toArray w.drew:=G (w.drawn+1)
 rcases f.run with ⟨R,x,v,o⟩|⟨R,x,rfl,R,p,L⟩
 ·have Q:(Builtin.firstCells i.size k y).run P w.drew= .ok ns.toArray w.drew:=o (w.drawn+1)
  simp [Builtin.append_,run_underlying B,run_underlying x,sizeOf,typeInfo,zeroValue,hi,A,v,g,r,j,b,a,J,Q,newRow]
  congr 2
  apply Array.toList_inj.1
  simp
 ·have s: ¬((k:Int)<0):=om
  have N: ¬(281474976710656<(k:Int)*i.bytes):=om
  by_cases l:k*i.size=0
  ·have q:ns= []:=Yd (by rw[f.len,l])
   subst q
   simp [Builtin.append_,run_underlying B,run_underlying x,sizeOf,typeInfo,zeroValue,hi,A,asInt,asIntOf,kX p,s,N,g,r,j,b,a,J,newRow,l]
  ·have q:=L l
   simp [Builtin.append_,run_underlying B,run_underlying x,sizeOf,typeInfo,zeroValue,hi,A,asInt,asIntOf,kX p,s,N,g,r,j,b,a,J,newRow,l,q]
theorem Ek (hr:HR P m h w)(hf:fK m h.next){sz bytes:Nat}(ht:P.underlying t=some (.slice e))(hi:P.info? e=some i)(hz:i.zero=some z)
  (hs:i.size=sz) (hb:i.bytes=bytes) (d2:z.cells.size=sz) {v r:V} {x:Value}  {U:List V}  {h':H} (R:VR m v x) (hy:fL m U ns) (Y: ∀v∈U,v.one=true)
  (a:BM P w u e i z k y ns) (g:qB h sz bytes v k U=some (r,h')) (ty:TypeId):
  aU P m h w (Builtin.append_ #[t,u] ty #[x,y]) r h':=by
 subst hs
 subst hb
 unfold qB at g
 split at g
 ·rename_i n xs hn b6
  obtain⟨os,d1,c5,c4,b5⟩:=yJ hr R hn b6
  obtain⟨a4,c,rfl⟩:=mY R hn
  have a7:U.length=k*i.size:=(fL.length hy).trans a.len
  split at g
  ·rename_i hk
   cases g
   subst hk
   have c0:ns= []:=Yd (by rw[a.len];simp)
   subst c0
   have b0:n+0<=c:=by
    cases v<;>simp only[mH] at hn<;>try cases hn
    ·obtain⟨p,c',G,_,K,b0,_⟩:=R;cases K;omega
    ·cases R;omega
    ·cases R;omega
   refine aU.still hr hf (rL ht hi hz a b0 (w':=w) ?_) R
   cases a4<;>simp [storeCells]
  ·split at g
   ·rename_i d8 Z
    have Q:c<n+k-> ∀(hh:H),hh=h.new (.cells false (xs++U))->aU P m h w (Builtin.append_ #[t,u] ty #[.slice a4 n c,y]) (.sl h.next 0 (n+k) (.un i.size)) hh:=by
     intro d3 hh c6;subst c6;obtain⟨b9,d,s,a9⟩:=Jr ht hi hz a d1 d3 Z.1 Z.2 (ty:=ty);obtain⟨m',h1,h2⟩:=Ng hr hf c5 hy c4 Y b5 a.len s d2 e d;exact⟨_,_,m',a9,h1,h2⟩
    cases v<;>simp only[mH] at hn<;>try cases hn
    ·rename_i id c9 b9
     obtain⟨p,c',G,hp,K,d9,ho,s⟩:=R
     cases K
     cases b9 with
     |kn c2=>
      simp only at s g;obtain⟨s,rfl⟩:=s;subst s;split at g
      ·rename_i f
       cases hput:h.put id (G+n*i.size) U with
       |none=>simp [hput] at g
       |some h2=>
        simp only[hput] at g;cases g;obtain⟨w',gY,c1⟩:=sK hr hf hput hy Y hp;refine⟨_,w',m,rL ht hi hz a f (w':=w') ?_,⟨p,_,_,hp,rfl,f,λ_=>rfl,rfl,rfl⟩,c1⟩;simp only;rw[iS,Nat.add_assoc];exact gY
      ·rename_i f
       cases g;exact Q om _ rfl
     |un e2=>
      simp only at s g;split at g
      ·rename_i vs hg
       split at g
       ·rename_i d4
        subst d4;cases g
        by_cases f:n+k<=c
        ·--in place
         obtain⟨p',a8,cc,O,fr,e1,d0,e3,e4,e5⟩:=hr.live id _ hg;rw[hp] at a8;cases a8;have c7:=e5 rfl;subst c7
         have d5: ∀x∈ns,x.oneCell'=true:=by
          intro x R;obtain⟨j,F,rfl⟩:=List.getElem_of_mem R;have c3:j<U.length:=by rw[fL.length hy];exact F
          obtain⟨y',N,a5⟩:=hy.get (eX c3);rw[eX F] at N;cases N;exact a5.one (Y _ (wT c3))
         have d6:(n+k)*i.size<=c*i.size:=Nat.mul_le_mul_right _ f;have c8:(n+k)*i.size=n*i.size+k*i.size:=Nat.add_mul _ _ _;have L:p.2.1+G+n*i.size+ns.length<=cc.size:=by rw[a.len];omega
         have gY:=run_storeCells_at P p.1 (p.2.1+G+n*i.size) O ns 0 cc w e1 (by simpa using L) d5;simp only[Nat.add_zero] at gY;have B:h.row id c9 (n*i.size)=some xs:=b6;unfold H.row at B;rw[hg] at B;simp only at B;obtain⟨K,d7,a0⟩:=sub_eq B
         refine⟨.slice (some ⟨p.1,p.2.1+G,none⟩) (n+k) c,w.setRow p.1 (cc.toList.take (p.2.1+G+n*i.size)++ns++cc.toList.drop (p.2.1+G+n*i.size+ns.length)).toArray,
          m.set h.next (p.1,p.2.1+G,p.2.2),rL ht hi hz a f ?_,⟨(p.1,p.2.1+G,p.2.2),c,0,?_,rfl,f,λ_=>rfl,?_⟩,?_⟩
         ·simp only
          rw[iS];exact gY
         ·simp [M.set]
         ·simp only;omega
         ·have hb:=setRow_heap w p.1 cc (cc.toList.take (p.2.1+G+n*i.size)++ns++cc.toList.drop (p.2.1+G+n*i.size+ns.length)).toArray O (0,0) e1
          refine fU.GU hr hf hg rfl rfl hp rfl (λm' b8=>⟨_,O,(0,0),hb,?_,?_,λj v J=>?_,λ_=>rfl⟩) rfl rfl rfl (by simp) (λb a6=>setRow_other w p.1 b _ a6)
          ·rw[vT _ _ _ L];exact d0
          ·simp only[jD,a0,a7];omega
          ·rw[Am _ _ _ L]
           by_cases F:j<n*i.size
           ·rw[vY om] at J
            obtain rfl:=ho (by
                       rcases Nat.eq_zero_or_pos n with h0|h0;· rw[h0,Nat.zero_mul] at F;omega
                       ·exact h0)
            rw[aV (by simp only;omega)];rw[K,List.getElem?_take,aV F,List.getElem?_drop] at J;obtain⟨a1,x2,a2,a3⟩:=e4 _ v J;exact⟨a1,x2,by rw[←Nat.add_assoc] at a2;exact a2,VR.mono b8 _ _ a3⟩
           ·rw[Dw om,a0] at J
            obtain⟨y',N,a5⟩:=hy.get J;have b7:j-n*i.size<ns.length:=(xQ.1 N).1;refine⟨Y v (Rm J),y',?_,VR.mono b8 _ _ a5⟩;rw[aZ (by simp only;omega),aV (by simp only;omega)];rw[show (p.2.1+G,p.2.2).1+j-(p.2.1+G+n*i.size)=j-n*i.size from by simp only;omega];exact N
        ·obtain⟨x2,w2,m2,r1,r2,W⟩:=Q om _ rfl
         refine⟨x2,w2,m2,r1,r2,?_⟩
         have a6:id≠h.next:=λe=>by
          have this:m h.next=none:=hf;rw[←e,hp] at this;cases this
         have A: ∀j o,((h.set id none).new (.cells false (xs++U))).get j=some o->(h.new (.cells false (xs++U))).get j=some o:=by
          intro j o F;simp only[H.gJ,H.cZ,H.iN,H.aY] at F ⊢
          by_cases e1:j=h.next
          ·simpa [e1] using F
          ·by_cases e2:j=id
           ·simp [e1,e2] at F
            exact absurd F.1 a6
           ·simpa [e1,e2] using F
         refine⟨W.ext,⟨λj o F=>W.rel.live j o (A j o F),λj l oj ol pj pl b7 F hl=>W.rel.inj j l oj ol pj pl b7 (A _ _ F) (A _ _ hl)⟩,W.fresh,W.kept,λb hb=>?_,W.next,λb hb=>?_,λj F hn=>?_⟩
         ·obtain⟨j,o,q,b1,b2,b3,b4⟩:=hb
          exact W.fp b ⟨j,o,q,A _ _ b1,b2,b3,b4⟩
         ·obtain⟨j,o,q,b1,b3,b4⟩:=hb
          exact W.lb b ⟨j,o,q,A _ _ b1,b3,b4⟩
         ·cases hg2:((h.set id none).new (.cells false (xs++U))).get j with
          |none=>rfl
          |some o=>have h9:=A j o hg2;rw[W.old j F hn] at h9;cases h9
       ·cases g
      ·cases g
    ·cases R
     simp only at g
     cases g
     exact Q om _ rfl
    ·simp only at g
     cases g
   ·cases g
 ·cases g
end
end
end Go.Ay
