/- append, copy, make. -/
import Derived.Test.YtapfcpkecmmagaaGreatAy5
namespace Go.Ay
open Go
section
variable {e t u:TypeId} {ns:List Value} {n k:Nat} {i:TypeInfo} {z y:Value}
section
variable {P:Program} {m:M} {h:H} {w:World}
theorem Bt {s b:Nat}(hs:eU P e=some s)(hb:pN P e=some b): ∃i,P.info? e=some i/\i.size=s/\i.bytes=b:=by
 unfold eU pN at*;simp only[gJ] at*;obtain⟨i,hi,rfl⟩:=hs;obtain⟨j,hj,rfl⟩:=hb;rw[hi] at hj;cases hj;exact⟨i,hi,rfl,rfl⟩
theorem rM {s:Nat}(h:Dt P e s=true): ∃i z,P.info? e=some i/\i.zero=some z/\z.cells.size=s:=by
 unfold Dt at h
 cases hi:P.info? e with
 |none=>simp [hi] at h
 |some i=>
  cases hz:i.zero with
  |none=>simp [hi,hz] at h
  |some z=>simp [hi,hz] at h;exact⟨i,z,rfl,hz,h⟩
theorem uE (z:Array Value)(n:Nat):(Builtin.zeroCells z n).size=n*z.size:=by simp [Builtin.zeroCells]
theorem Fh (hr:HR P m h w)(hf:eD m h.next){xs ys:List V}{os:List Value}(hx:eG m xs os)(hy:eG m ys ns)(hx1: ∀v∈xs,v.one=true)(hy1: ∀v∈ys,v.one=true)
  {sz cap:Nat} (hl:os.length=n*sz) (hk:ns.length=k*sz) (hcap:n+k<=cap) {z:Array Value} (hz:z.size=sz) (elem:TypeId) (d:Nat):
  ∃m',VR m' (.sl h.next 0 (n+k) (.un sz)) (.slice (some ⟨w.heap.size,0,none⟩) (n+k) cap)/\
   eS P m h w m' (h.new (.cells false (xs++ys))) (({w with drawn:=d}:World).alloc (.cells (os.toArray++ns.toArray++Builtin.zeroCells z (cap-(n+k))) elem)):=by
 have a1:=eS.drawn hr hf d
 have a2:=mT (w:={w with drawn:=d}) a1.rel hf (Builtin.zeroCells z (cap-(n+k))).toList (hx.append hy) (by
  intro v hv;rcases xH.1 hv with h|h
  ·exact hx1 v h
  ·exact hy1 v h) elem
 have he:(os++ns++(Builtin.zeroCells z (cap-(n+k))).toList).toArray=os.toArray++ns.toArray++Builtin.zeroCells z (cap-(n+k)):=by
  apply Array.toList_inj.1;simp
 rw[he] at a2
 refine⟨_,⟨(w.heap.size,0,os.length+ns.length+(Builtin.zeroCells z (cap-(n+k))).size),cap,0,by simp [M.set],rfl,hcap,λ_=>rfl,?_⟩,a1.trans a2⟩
 simp only[uE,hz,hl,hk]
 have:cap*sz=(n*sz+k*sz)+(cap-(n+k))*sz:=by rw[←Nat.add_mul,←Nat.add_mul];congr 1;omega
 omega
structure Ra (P:Program)(w:World)(u:TypeId)(elem:TypeId)(i:TypeInfo)(z:Value)(k:Nat)(y:Value)(ns:List Value):Prop where
 len:ns.length=k*i.size
 run:(∃e',P.underlying u=some (.slice e')/\(Builtin.lenOf y).run P w= .ok k w/\ ∀d,(Builtin.firstCells i.size k y).run P {w with drawn:=d}= .ok ns.toArray {w with drawn:=d})∨
  (∃kk,P.underlying u=some (.int kk)/\y= .int .i64 (k:Int)/\(k:Int)*i.bytes<=2^48/\(k:Int)<2^62/\(k*i.size≠0->ns.toArray=Builtin.zeroCells z.cells k))
theorem jR (h:(n:Int)<2^62):IntKind.i64.wrap n=n:=by
 unfold IntKind.wrap;simp only[IntKind.bits,IntKind.signed];have:(n:Int)%2^64=n:=Int.emod_eq_of_lt (by omega) (by omega);simp only[this];rw[if_neg];simp;omega
theorem pH {ty:TypeId}(ht:P.underlying t=some (.slice e))(hi:P.info? e=some i)(hz:i.zero=some z)
  {base:Option Addr} {c:Nat}   (hmore:Ra P w u e i z k y ns) (hle:n+k<=c) {w':World}
  (hw:match base with|some a=>(storeCells (a.add (n*i.size)) ns).run P w= .ok () w'|none=>w'=w):
  (Builtin.append_ #[t,u] ty #[.slice base n c,y]).run P w= .ok (.slice base (n+k) c) w':=by
 rcases hmore.run with ⟨e',hu,hlen,hcells⟩|⟨kk,hu,rfl,hkb,hk62,hzz⟩
 ·have h2:=hcells w.drawn
  cases base with
  |none=>simp only at hw;subst hw;simp [Builtin.append_,run_underlying ht,run_underlying hu,sizeOf,typeInfo,hi,hlen,h2,hle]
  |some a=>simp only at hw;simp [Builtin.append_,run_underlying ht,run_underlying hu,sizeOf,typeInfo,hi,hlen,h2,hle,hw]
 ·have hnn: ¬((k:Int)<0):=by omega
  have hb: ¬(281474976710656<(k:Int)*i.bytes):=by omega
  by_cases hk0:k*i.size=0
  ·have hns:ns= []:=List.eq_nil_of_length_eq_zero (by rw[hmore.len,hk0])
   subst hns
   cases base with
   |none=>simp only at hw;subst hw;simp [Builtin.append_,run_underlying ht,run_underlying hu,sizeOf,typeInfo,hi,asInt,asIntOf,jR hk62,hnn,hb,hle,hk0]
   |some a=>simp only at hw;simp [Builtin.append_,run_underlying ht,run_underlying hu,sizeOf,typeInfo,hi,asInt,asIntOf,jR hk62,hnn,hb,hle,hk0,hw]
  ·have hns:=hzz hk0
   cases base with
   |none=>simp only at hw;subst hw;simp [Builtin.append_,run_underlying ht,run_underlying hu,sizeOf,typeInfo,zeroValue,hi,hz,asInt,asIntOf,jR hk62,hnn,hb,hle,hk0]
   |some a=>
    have:(Builtin.zeroCells z.cells k).toList=ns:=by rw[←hns]
    simp only at hw;simp [Builtin.append_,run_underlying ht,run_underlying hu,sizeOf,typeInfo,zeroValue,hi,hz,asInt,asIntOf,jR hk62,hnn,hb,hle,hk0,this,hw]
theorem Dd {ty:TypeId}(ht:P.underlying t=some (.slice e))(hi:P.info? e=some i)(hz:i.zero=some z)
  {base:Option Addr} {c:Nat}  {os:List Value} (hmore:Ra P w u e i z k y ns) (hos: ∀d,(Builtin.firstCells i.size n (.slice base n c)).run P {w with drawn:=d}= .ok os.toArray {w with drawn:=d})
  (hgt:c<n+k) (hbig:(2*(n+k)+1000)*i.bytes<=2^48) (h62:n+k<2^62):
  ∃cap d,n+k<=cap/\(Builtin.append_ #[t,u] ty #[.slice base n c,y]).run P w= .ok (.slice (some ⟨w.heap.size,0,none⟩) (n+k) cap)
   (({w with drawn:=d}:World).alloc (.cells (os.toArray++ns.toArray++Builtin.zeroCells z.cells (cap-(n+k))) e)):=by
 have hcapb: ¬(Builtin.nextslicecap (n+k) c*i.bytes>2^48):=by
  have h1:=nextslicecap_le hgt;have h2:Builtin.nextslicecap (n+k) c*i.bytes<=(2*(n+k)+1000)*i.bytes:=Nat.mul_le_mul_right _ (by omega);omega
 have hforced:(Question.appendCap (n+k) c e).forced=false:=rfl
 have h63: ¬(9223372036854775807<(n:Int)+(k:Int)):=by omega
 have hmax:IntKind.i64.max=9223372036854775807:=by decide
 refine⟨(Question.appendCap (n+k) c e).cut (w.tape w.drawn (.appendCap (n+k) c e)),w.drawn+1,by simp [Question.cut],?_⟩
 have hnle: ¬(n+k<=c):=by omega
 have ho:(Builtin.firstCells i.size n (.slice base n c)).run P w.drew= .ok os.toArray w.drew:=hos (w.drawn+1)
 rcases hmore.run with ⟨e',hu,hlen,hcells⟩|⟨kk,hu,rfl,hkb,hk62,hzz⟩
 ·have h2:(Builtin.firstCells i.size k y).run P w.drew= .ok ns.toArray w.drew:=hcells (w.drawn+1)
  simp [Builtin.append_,run_underlying ht,run_underlying hu,sizeOf,typeInfo,zeroValue,hi,hz,hlen,hnle,h63,hmax,hcapb,hforced,ho,h2,newRow]
  congr 2
  apply Array.toList_inj.1
  simp
 ·have hnn: ¬((k:Int)<0):=by omega
  have hb: ¬(281474976710656<(k:Int)*i.bytes):=by omega
  by_cases hk0:k*i.size=0
  ·have hns:ns= []:=List.eq_nil_of_length_eq_zero (by rw[hmore.len,hk0])
   subst hns
   simp [Builtin.append_,run_underlying ht,run_underlying hu,sizeOf,typeInfo,zeroValue,hi,hz,asInt,asIntOf,jR hk62,hnn,hb,hnle,h63,hmax,hcapb,hforced,ho,newRow,hk0]
  ·have hns:=hzz hk0
   simp [Builtin.append_,run_underlying ht,run_underlying hu,sizeOf,typeInfo,zeroValue,hi,hz,asInt,asIntOf,jR hk62,hnn,hb,hnle,h63,hmax,hcapb,hforced,ho,newRow,hk0,hns]
theorem xY (hr:HR P m h w)(hf:eD m h.next){sz bytes:Nat}(ht:P.underlying t=some (.slice e))(hi:P.info? e=some i)(hz:i.zero=some z)
  (hs:i.size=sz) (hb:i.bytes=bytes) (hzs:z.cells.size=sz) {v r:V} {x:Value}  {ys:List V}  {h':H} (hx:VR m v x) (hy:eG m ys ns) (hy1: ∀v∈ys,v.one=true)
  (hmore:Ra P w u e i z k y ns) (he:oE h sz bytes v k ys=some (r,h')) (ty:TypeId):
  aS P m h w (Builtin.append_ #[t,u] ty #[x,y]) r h':=by
 subst hs
 subst hb
 unfold oE at he
 split at he
 ·rename_i n xs hn hxs
  obtain⟨os,hos,hvos,hos1,hosl⟩:=tU hr hx hn hxs
  obtain⟨base,c,rfl⟩:=lI hx hn
  have hylen:ys.length=k*i.size:=(eG.length hy).trans hmore.len
  split at he
  ·rename_i hk
   cases he
   subst hk
   have hnil:ns= []:=List.eq_nil_of_length_eq_zero (by rw[hmore.len];simp)
   subst hnil
   have hle:n+0<=c:=by
    cases v<;>simp only[kM] at hn<;>try cases hn
    ·obtain⟨p,c',o',_,hxe,hle,_⟩:=hx;cases hxe;omega
    ·cases hx;omega
    ·cases hx;omega
   refine aS.still hr hf (pH ht hi hz hmore hle (w':=w) ?_) hx
   cases base<;>simp [storeCells]
  ·split at he
   ·rename_i hk0 hbig
    have grow:c<n+k-> ∀(hh:H),hh=h.new (.cells false (xs++ys))->aS P m h w (Builtin.append_ #[t,u] ty #[.slice base n c,y]) (.sl h.next 0 (n+k) (.un i.size)) hh:=by
     intro hgt hh hhe;subst hhe;obtain⟨cap,d,hcap,hrun⟩:=Dd ht hi hz hmore hos hgt hbig.1 hbig.2 (ty:=ty);obtain⟨m',h1,h2⟩:=Fh hr hf hvos hy hos1 hy1 hosl hmore.len hcap hzs e d;exact⟨_,_,m',hrun,h1,h2⟩
    cases v<;>simp only[kM] at hn<;>try cases hn
    ·rename_i id off cap
     obtain⟨p,c',o',hp,hxe,hlc,ho,hcap⟩:=hx
     cases hxe
     cases cap with
     |kn c2=>
      simp only at hcap he;obtain⟨hcap,rfl⟩:=hcap;subst hcap;split at he
      ·rename_i hroom
       cases hput:h.put id (o'+n*i.size) ys with
       |none=>simp [hput] at he
       |some h2=>
        simp only[hput] at he;cases he;obtain⟨w',fG,hadv⟩:=qB hr hf hput hy hy1 hp;refine⟨_,w',m,pH ht hi hz hmore hroom (w':=w') ?_,⟨p,_,_,hp,rfl,hroom,λ_=>rfl,rfl,rfl⟩,hadv⟩;simp only;rw[fX,Nat.add_assoc];exact fG
      ·rename_i hroom
       cases he;exact grow (by omega) _ rfl
     |un e2=>
      simp only at hcap he;split at he
      ·rename_i vs hg
       split at he
       ·rename_i hes
        subst hes;cases he
        by_cases hroom:n+k<=c
        ·--in place
         obtain⟨p',hp',cc,elem,fr,e1,e2',e3,e4,e5⟩:=hr.live id _ hg;rw[hp] at hp';cases hp';have hfr:=e5 rfl;subst hfr
         have hx1: ∀x∈ns,x.oneCell'=true:=by
          intro x hx;obtain⟨j,hj,rfl⟩:=List.getElem_of_mem hx;have hwj:j<ys.length:=by rw[eG.length hy];exact hj
          obtain⟨y',hy',hvy⟩:=hy.get (eQ hwj);rw[eQ hj] at hy';cases hy';exact hvy.one (hy1 _ (List.getElem_mem hwj))
         have hmul:(n+k)*i.size<=c*i.size:=Nat.mul_le_mul_right _ hroom;have hmul2:(n+k)*i.size=n*i.size+k*i.size:=Nat.add_mul _ _ _;have hfit:p.2.1+o'+n*i.size+ns.length<=cc.size:=by rw[hmore.len];omega
         have fG:=run_storeCells_at P p.1 (p.2.1+o'+n*i.size) elem ns 0 cc w e1 (by simpa using hfit) hx1;simp only[Nat.add_zero] at fG;have hsrow:h.row id off (n*i.size)=some xs:=hxs;unfold H.row at hsrow;rw[hg] at hsrow;simp only at hsrow;obtain⟨hxe,hxl,hxl2⟩:=sub_eq hsrow
         refine⟨.slice (some ⟨p.1,p.2.1+o',none⟩) (n+k) c,w.setRow p.1 (cc.toList.take (p.2.1+o'+n*i.size)++ns++cc.toList.drop (p.2.1+o'+n*i.size+ns.length)).toArray,
          m.set h.next (p.1,p.2.1+o',p.2.2),pH ht hi hz hmore hroom ?_,⟨(p.1,p.2.1+o',p.2.2),c,0,?_,rfl,hroom,λ_=>rfl,?_⟩,?_⟩
         ·simp only
          rw[fX];exact fG
         ·simp [M.set]
         ·simp only;omega
         ·have hb:=setRow_heap w p.1 cc (cc.toList.take (p.2.1+o'+n*i.size)++ns++cc.toList.drop (p.2.1+o'+n*i.size+ns.length)).toArray elem (0,0) e1
          refine eS.Zh hr hf hg rfl rfl hp rfl (λm' hm'=>⟨_,elem,(0,0),hb,?_,?_,λj v hv'=>?_,λ_=>rfl⟩) rfl rfl rfl (by simp) (λb hne=>setRow_other w p.1 b _ hne)
          ·rw[rW _ _ _ hfit];exact e2'
          ·simp only[jD,hxl2,hylen];omega
          ·rw[wG _ _ _ hfit]
           by_cases hj:j<n*i.size
           ·rw[wY (by omega)] at hv'
            obtain rfl:=ho (by
                       rcases Nat.eq_zero_or_pos n with h0|h0;· rw[h0,Nat.zero_mul] at hj;omega
                       ·exact h0)
            rw[if_pos (by simp only;omega)];rw[hxe,List.getElem?_take,if_pos hj,List.getElem?_drop] at hv';obtain⟨a1,x2,a2,a3⟩:=e4 _ v hv';exact⟨a1,x2,by rw[←Nat.add_assoc] at a2;exact a2,VR.mono hm' _ _ a3⟩
           ·rw[List.getElem?_append_right (by omega),hxl2] at hv'
            obtain⟨y',hy',hvy⟩:=hy.get hv';have hjl:j-n*i.size<ns.length:=(List.getElem?_eq_some_iff.1 hy').1;refine⟨hy1 v (List.mem_of_getElem? hv'),y',?_,VR.mono hm' _ _ hvy⟩;rw[if_neg (by simp only;omega),if_pos (by simp only;omega)];rw[show (p.2.1+o',p.2.2).1+j-(p.2.1+o'+n*i.size)=j-n*i.size from by simp only;omega];exact hy'
        ·obtain⟨x2,w2,m2,r1,r2,r3⟩:=grow (by omega) _ rfl
         refine⟨x2,w2,m2,r1,r2,?_⟩
         have hne:id≠h.next:=λe=>by
          have this:m h.next=none:=hf;rw[←e,hp] at this;cases this
         have hsub: ∀j o,((h.set id none).new (.cells false (xs++ys))).get j=some o->(h.new (.cells false (xs++ys))).get j=some o:=by
          intro j o hj;simp only[H.fD,H.cJ,H.fW,H.aV] at hj ⊢
          by_cases e1:j=h.next
          ·simpa [e1] using hj
          ·by_cases e2:j=id
           ·simp [e1,e2] at hj
            exact absurd hj.1 hne
           ·simpa [e1,e2] using hj
         refine⟨r3.ext,⟨λj o hj=>r3.rel.live j o (hsub j o hj),λj l oj ol pj pl hjl hj hl=>r3.rel.inj j l oj ol pj pl hjl (hsub _ _ hj) (hsub _ _ hl)⟩,r3.fresh,r3.kept,λb hb=>?_,r3.next,λb hb=>?_,λj hj hn=>?_⟩
         ·obtain⟨j,o,q,b1,b2,b3,b4⟩:=hb
          exact r3.fp b ⟨j,o,q,hsub _ _ b1,b2,b3,b4⟩
         ·obtain⟨j,o,q,b1,b3,b4⟩:=hb
          exact r3.lb b ⟨j,o,q,hsub _ _ b1,b3,b4⟩
         ·cases hg2:((h.set id none).new (.cells false (xs++ys))).get j with
          |none=>rfl
          |some o=>have h9:=hsub j o hg2;rw[r3.old j hj hn] at h9;cases h9
       ·cases he
      ·cases he
    ·cases hx
     simp only at he
     cases he
     exact grow (by omega) _ rfl
    ·simp only at he
     cases he
   ·cases he
 ·cases he
end
end
end Go.Ay
