/- Texts of the claim. -/
import Derived.Test.YtoighkablmjfeaaGreatP5rtoP6v
import Derived.Test.YtoighkablmjfeaaGreatAy14toP5q
set_option maxHeartbeats 16000000
set_option maxRecDepth 100000
namespace Go.Proofs.YtoighkablmjfeaaGreat
open Go Go.Ay Go.Pm
structure Plc (l:LN)(x:List Nat)(k:Nat):Prop where
 le:k<=l.length
 lo: ∀i,i<k->rX (l.getD i []) x=true
 hi: ∀i,k<=i->i<l.length->rX (l.getD i []) x=false
theorem Yr (J y:V)(n:Nat)(l:LN)(x:List Nat)(h:H)(hn:n<1000)(hl:l.length<1000000)(hP: ∀g∈l,bJ n g)(X:bJ n x)(W:l.Pairwise Lt)(hv:SP h J l)(hx:SI h y (zi x)):
  Ev T 51 [J,y] h (λv h'=> ∃k:Nat,v= .tup [aC k,.bool (decide (x∈l))]/\Plc l x k/\(x∈l->k<l.length/\l.getD k []=x)/\Fr h h'):=by
 have⟨N,sv,Z⟩:=hv
 have Q:=bH.length Z
 rw[dO] at Q
 have lv:dD J=some (aC (l.length:Int)):=by unfold dD;rw[SV.len sv (n:=l.length) om om];rfl
 obtain⟨id,Y,sh,a0,hc⟩:=SV.shape sv l.length om om
 have a: ∀i,i<l.length->(l.getD i []).length=n:=λi hi=>(hP _ (bF hi)).len
 have mono: ∀i j,i<j->j<l.length->Lt (l.getD i []) (l.getD j []):=λi j t b=>by
  have ei:l.getD i []=l[i]:=by rw[List.getD,dJ om];rfl
  have ej:l.getD j []=l[j]:=by rw[List.getD,dJ b];rfl
  rw[ei,ej];exact Iz.1 W i j om b t
 have cell: ∀r,Fr h r-> ∀i,i<l.length->r.cell id (Y+i)=some (N.getD i .undef):=λr f i hi=>by
  rw[f.cell (a0 om),hc i om];simp [List.getD,show i<N.length by omega]
 refine pM lv ?_
 refine dG (λvs r=> ∃k,(∃g:Nat->V,vs= [J,y,g 2,g 3,aC (k:Nat),g 5,g 6,g 7,g 8])/\Plc l x k/\Fr h r) ?_ ?_
 .refine aP (λk' d r=> ∃(i j:Nat),(∃g:Nat->V,d= [J,y,g 2,g 3,aC i,aC j,g 6,g 7,g 8])/\i<=j/\j<=l.length/\(∀q,q<i->rX (l.getD q []) x=true)/\(∀q,j<=q->q<l.length->rX (l.getD q []) x=false)/\Fr h r/\k'=j-i) l.length
   ⟨0,l.length,aD rfl,om,om,λm hm=>om,λm t b=>om,Fr.refl h,rfl⟩ ?_
  rintro k' d r ⟨i,j,⟨g,rfl⟩,a1,hj,L,G,F,rfl⟩
  by_cases A:(i:Int)<(j:Int)
  case neg=>
   have e1:=bZ A;obtain rfl:i=j:=om
   refine bM e1 ?_;exact⟨i,aD rfl,⟨hj,L,G⟩,F⟩
  have e1:=cV A
  obtain⟨m,hm⟩:=exI ((i+j)/2)
  have ea:(i:Int)+(j:Int)=((i+j:Nat):Int):=om
  have K:((i+j:Nat):Int).tdiv 2=(m:Int):=by rw[Int.tdiv_eq_ediv_of_nonneg om];omega
  have B:=cell r F m om
  have sm:=Oi Z (i:=m) om
  generalize N.getD m .undef=vm at B sm
  refine nW e1 ea K @sh.ixa B ?_
  refine (aeR vm y n _ x r om (a m om) X.len (sm.mono F) (hx.mono F)).mono ?_
  rintro _ w ⟨rfl,P⟩
  cases hl2:rX (l.getD m []) x with
  |true=>
   refine aT ?_;rw[fJ m];refine⟨j-(m+1),om,m+1,j,aD rfl,om,hj,λq U=>?_,G,F.trans P,rfl⟩
   by_cases e:q=m
   .rw[e];exact hl2
   .have t:=mono q m om om
    have b:=(mO (by rw[a m om,X.len])).1 hl2;exact (mO (by rw[a q om,X.len])).2 (Lt.trans (by rw[a q om,a m om]) t b)
  |false=>
   refine aT ?_;refine⟨m-i,om,i,m,aD rfl,om,om,L,λq t b=>?_,F.trans P,rfl⟩
   by_cases e:q=m
   .rw[e];exact hl2
   .rw[<-Bool.not_eq_true]
    intro w;have o:=mono m q om b;have z:=(mO (by rw[a q b,X.len])).1 w;rw[(mO (by rw[a m om,X.len])).2 (Lt.trans (by rw[a q b,a m om]) o z)] at hl2;cases hl2
 rintro d b ⟨k,⟨g,rfl⟩,O,F⟩
 have c:x∈l->k<l.length/\l.getD k []=x:=λR=>by
  obtain⟨q,U,eq⟩:=Bj.1 R;have s:l.getD q []=x:=by rw[List.getD,dJ U,<-eq];rfl
  have t:k<=q:=Nat.le_of_not_lt λw=>by
   have:=O.lo q w;rw[s,vN] at this;cases this
  have b:k=q:=Nat.le_antisymm t (Nat.le_of_not_lt λw=>by
   have o:=mono k q w U;rw[s] at o;have z:=O.hi k (dN _) om;rw[(mO (by rw[a k om,X.len])).2 o] at z
   cases z)
  exact⟨om,by rw[b];exact s⟩
 by_cases hk:(k:Int)<(l.length:Int)
 .have e1:=cV hk
  have B:=cell b F k om
  have sm:=Oi Z (i:=k) om
  generalize N.getD k .undef=vm at B sm
  refine jX lv e1 @sh.ixa B ?_
  refine (Ry vm y _ _ b (sm.mono F) (hx.mono F) (by rw[bD,a k om];omega) (by rw[bD,X.len];omega)).mono ?_
  rintro _ w ⟨rfl,P⟩
  have K:decide (zi (l.getD k [])=zi x)=decide (x∈l):=by
   rw[decide_eq_decide];constructor
   .intro o
    have z:l.getD k []=x:=List.map_inj_right (λu v b=>om)|>.1 o;rw[<-z];exact bF om
   .intro o;rw[(c o).2]
  refine bM K ?_
  exact⟨k,rfl,O,c,F.trans P⟩
 .have e1:=bZ hk
  have K:decide (x∈l)=false:=bZ λo=>by have:=(c o).1;omega
  refine eZ lv e1 ?_
  exact⟨k,by rw[K],O,c,F⟩
theorem Zn (b d:V)(n:Nat)(l:LN)(x:List Nat)(h:H)(q:n<1000)(j:l.length<1000000)(m: ∀g∈l,bJ n g)(X:bJ n x)(c:l.Pairwise Lt)(i:SP h b l)(o:SI h d (zi x)):
  Ev T 207 [b,d] h (λv h'=>((∃k:Nat,v= aC k/\k<l.length/\l.getD k []=x)\/x∉l/\v= aC (-1))/\Fr h h'):=by
 refine lG ?_
 refine (Yr b d n l x h q j m X c i o).mono ?_
 rintro _ r ⟨k,rfl,s,f,F⟩
 by_cases a:x∈l
 .have e1:=cV a
  refine bM e1 ?_
  exact⟨.inl ⟨k,rfl,f a⟩,F⟩
 .have e1:=bZ a
  refine bM e1 ?_
  exact⟨.inr ⟨a,trivial⟩,F⟩
theorem Sg {g:Nat}(B:T g=some fM.fn)(u w:V)(a b:List (List Int))(h:H)(hu:SR h u a)(hw:SR h w b)(la:a.length<1000000)(lb:b.length<1000000)(ra: ∀x∈a,x.length<1000000)(rb: ∀x∈b,x.length<1000000):
  Ev T g [u,w] h (λv h'=>v= .bool (decide (a=b))/\Fr h h'):=by
 refine vZ B rfl ?_
 have y:=hu.lens
 have lw:=hw.lens
 have⟨Z,sa,aa⟩:=hu
 have⟨G,sb,ab⟩:=hw
 have a1:=bH.length aa
 have a0:=bH.length ab
 obtain⟨id,s,sh,t,hc⟩:=SV.shape sa a.length om om
 obtain⟨r,k,U,d,R⟩:=SV.shape sb b.length om om
 by_cases P:(a.length:Int)=(b.length:Int)
 case neg=>
  have L:=cV P;simp(disch:=omega)only[go_sem,fM,aV,y,lw,L];exact⟨by rw[bZ];intro e;exact P (by rw[e]),Fr.refl h⟩
 have Q:a.length=b.length:=om
 have L:decide ((a.length:Int)≠(b.length:Int))=false:=bZ (by simpa using P)
 simp(disch:=omega)only[go_sem,fM,aV,y,lw,L]
 refine aP (λk' f c=> ∃(i:Nat),(∃g:Nat->V,f= [u,w,g 2,aC i,g 4,g 5,g 6])/\i<=a.length/\(∀j,j<i->a.getD j []=b.getD j [])/\Fr h c/\k'=a.length-i) a.length
  ⟨0,aD rfl,fY _,λj hj=>om,Fr.refl h,rfl⟩ ?_
 rintro k' f c ⟨i,⟨g,rfl⟩,hi,hs,F,rfl⟩
 by_cases l:(i:Int)<(a.length:Int)
 case neg=>
  have e1:=bZ l;obtain rfl:i=a.length:=om
  refine eZ y e1 ?_
  have:a=b:=by
   refine List.ext_getElem Q λj h1 h2=>?_
   have:=hs j h1;rwa [List.getD,dJ h1,List.getD,dJ h2] at this
  exact⟨by rw[cV this],F⟩
 have e1:=cV l
 have N:c.cell id (s+i)=some (Z.getD i .undef):=by
  rw[F.cell (t om),hc i om];simp [List.getD,show i<Z.length by omega]
 have O:c.cell r (k+i)=some (G.getD i .undef):=by
  rw[F.cell (d om),R i om];simp [List.getD,show i<G.length by omega]
 have W:=Mz aa (i:=i) om
 have J:=Mz ab (i:=i) om
 generalize Z.getD i .undef=va at N W
 generalize G.getD i .undef=vb at O J
 have n:=W.dS
 have o:=J.dS
 refine wE y e1 @sh.ixa N @U.ixa O ?_
 refine (Ry va vb _ _ _ (W.mono (F.trans ((Fr.refl c).cU om))) (J.mono (F.trans ((Fr.refl c).cU om))) (ra _ (bF om)) (rb _ (bF om))).mono ?_
 rintro _ z ⟨rfl,Y⟩
 have F3:=F.trans (((Fr.refl c).cU om).trans Y)
 have m:z.cell id (s+i)=some va:=by
  have K:Fr c z:=((Fr.refl c).cU om).trans Y;rw[K.cell (by have:=t om;have:=F.next;omega)];exact N
 have q:z.cell r (k+i)=some vb:=by
  have K:Fr c z:=((Fr.refl c).cU om).trans Y;rw[K.cell (by have:=d om;have:=F.next;omega)];exact O
 by_cases A:a.getD i []=b.getD i []
 .have d2:=cV A
  refine nW d2 m q n o ?_
  rw[fJ i]
  refine⟨a.length-(i+1),om,i+1,aD rfl,om,λj hj=>?_,F3,rfl⟩
  by_cases e:j=i
  .rw[e];exact A
  .exact hs j om
 .have d2:=bZ A
  refine nW d2 m q n o ?_
  exact⟨by rw[bZ];intro e;exact A (by rw[e]),F3⟩
theorem Ed (u w:V)(a b:List (List Int))(h:H)(d:SR h u a)(c:SR h w b)(la:a.length<1000000)(lb:b.length<1000000)(i: ∀x∈a,x.length<1000000)(f: ∀x∈b,x.length<1000000):
  Ev T 38 [u,w] h (λv h'=>v= .bool (decide (a=b))/\Fr h h'):=Sg fM.ok u w a b h d c la lb i f
set_option maxRecDepth 100000
set_option maxRecDepth 100000
set_option maxRecDepth 100000
set_option maxRecDepth 100000
theorem PR {ks:List Cls.KE}{i:Nat}(hi:i<ks.length):(pH ks)[i*3]? =some ks[i].rep/\(pH ks)[i*3+1]? =some (aC (ks[i].ord:Int))/\(pH ks)[i*3+2]? =some (aC (ks[i].size:Int)):=by
 induction ks generalizing i with
 |nil=>simp at hi
 |cons a r ih=>
  have e:pH (a::r)= [a.rep,aC (a.ord:Int),aC (a.size:Int)]++pH r:=rfl
  cases i with
  |zero=>exact⟨rfl,rfl,rfl⟩
  |succ i=>
   have b:=ih (i:=i) (by simpa using hi);rw[e,show (i+1)*3=i*3+3 by omega];refine⟨?_,?_,?_⟩
   .rw[Hs siM];exact b.1
   .rw[Hs siM];exact b.2.1
   .rw[Hs siM];exact b.2.2
noncomputable def quK (G:List Nat->Prop)(L:LN)(K:List Nat)(a k:Nat):Nat:=jJ G L K (L.idxOf (aZ (bY (L.getD a [])) (L.getD (K.getD k 0) [])))
noncomputable def Jz (G:List Nat->Prop)(L:LN)(K:List Nat)(i k t j:Nat):Nat:=((List.range t).filter λa=>decide (jJ G L K a=i/\quK G L K a k=j)).length
noncomputable def mW (G:List Nat->Prop)(L:LN)(K:List Nat)(i j k:Nat):Nat:=Jz G L K i k L.length j
section
variable {n:Nat} {G:List Nat->Prop} {L:LN} {K:List Nat}
theorem Fw (i k t j:Nat):Jz G L K i k (t+1) j=Jz G L K i k t j+if jJ G L K t=i/\quK G L K t k=j then 1 else 0:=by
 unfold Jz;rw[List.range_succ,List.filter_append,eE]
 by_cases h:jJ G L K t=i/\quK G L K t k=j<;>simp [h]
theorem acO (i k t j:Nat):Jz G L K i k t j<=t:=by
 unfold Jz;exact kQ (List.length_filter_le _ _) (by rw[gT];exact dN _)
def Zy (p:Nat×Nat):V:= .agg [aC (p.1:Int),aC (p.2:Int)]
def PkP (p:Nat×Nat):Prop:=p.1<1000000/\p.2<1000000
theorem Rg (a b:Nat×Nat)(_:PkP a)(_:PkP b):dS (Zy a) (Zy b)=decide (a=b):=by
 show qE [_,_] [_,_]=_;simp only[qE,dS,Bool.and_true,beq_self_eq_true,Bool.true_and];rw[Ri,oD,beq_iff_eq,beq_iff_eq,xF,Prod.ext_iff];omega
theorem Io (a:Nat×Nat)(h:PkP a):isKey (.arr 2 .i64) (Zy a)=true:=by
 have⟨b,c⟩:=h;unfold isKey Zy;have e1:IntKind.min .i64= -9223372036854775808:=rfl;have e2:IntKind.max .i64=9223372036854775807:=rfl;simp only[List.all_cons,List.all_nil,e1,e2,Bool.and_true,oD,xF];exact⟨rfl,⟨trivial,om,om⟩,trivial,om,om⟩
theorem PZ (x y:Int):mP [aC 0,aC 0] [(0,1,aC x),(1,1,aC y)]=some (.agg [aC x,aC y]):=rfl
theorem amB {h:H}{id o:Nat}{a b c:V}(i:h.cell id o=some a)(d:h.cell id (o+1)=some b)(f:h.cell id (o+2)=some c):h.row id o 3=some [a,b,c]:=by
 unfold H.cell at i d f;unfold H.row;split at i
 .rename_i r j e
  rw[e] at d f;have d:j[o+1]? =some b:=d;have f:j[o+2]? =some c:=f;obtain⟨la,m⟩:=Iq.1 i;obtain⟨lb,q⟩:=Iq.1 d;obtain⟨k,l⟩:=Iq.1 f
  try rw[e]
  simp only[sub];rw[aS om,EF la,EF lb,EF k,m,q,l]
  rfl
 .cases i
structure KS (n:Nat)(G:List Nat->Prop)(L:LN)(hh:H)(a:Cls.KE)(r:Nat):Prop where
 ord:a.ord=fC (L.getD r []) n
 size:a.size=(iK G L r).length
 rep:SI hh a.rep (zi (L.getD r []))
theorem JE {a:H}{b:V}{ks:List Cls.KE}(w:K.length<1000000)(s:SV a b 3 (pH ks))(al:bH (KS n G L a) ks K):
  dD b=some (aC (K.length:Int))/\dS b b=true/\ ∃id off,Sl b 3 K.length id off/\ ∀k,k<K.length->id<a.next/\ ∃rep,a.cell id (off+k*3)=some rep/\a.cell id (off+k*3+2)=some (aC ((iK G L (K.getD k 0)).length:Int))/\a.row id (off+k*3) 3=some [rep,aC (fC (L.getD (K.getD k 0) []) n:Int),aC ((iK G L (K.getD k 0)).length:Int)]/\SI a rep (zi (L.getD (K.getD k 0) [])):=by
 have c:=bH.length al
 have m:=zJ ks
 obtain⟨id,off,v,j,l⟩:=s.shape K.length (by rw[m,c]) om
 refine⟨by unfold dD;rw[SV.len s (n:=ks.length) m om,c];rfl,s.dS,id,off,v,λk o=>?_⟩
 obtain⟨r,u,t⟩:=PR (ks:=ks) (i:=k) om
 have d:=bH.get al k om o
 rw[<-Pm.cM o] at d
 have q:=(l (k*3) om).trans r
 have h:=(l (k*3+1) om).trans u
 have f:=(l (k*3+2) om).trans t
 rw[d.ord] at h
 rw[d.size] at f
 rw[<-Nat.add_assoc] at h f
 exact⟨j om,_,q,f,amB q h f,d.rep⟩
theorem Df {a:H}{b:V}{ks:List Cls.KE}(c:K.length<1000000)(s:SV a b 3 (pH ks))(al:bH (KR n G L a) ks K):
  dD b=some (aC (K.length:Int))/\dS b b=true/\ ∃id off,Sl b 3 K.length id off/\ ∀k,k<K.length->id<a.next/\ ∃rep,a.cell id (off+k*3)=some rep/\a.cell id (off+k*3+2)=some (aC ((iK G L (K.getD k 0)).length:Int))/\a.row id (off+k*3) 3=some [rep,aC (fC (L.getD (K.getD k 0) []) n:Int),aC ((iK G L (K.getD k 0)).length:Int)]/\SI a rep (zi (L.getD (K.getD k 0) [])):=
 JE c s (al.mono λ_ _ k=>⟨k.ord,k.size,k.rep⟩)
end
section
variable {x:List Nat}
section
variable {n:Nat} {G:List Nat->Prop} {L:LN} {K:List Nat}
theorem Mg (E:fW G L){y:List Nat}(c:G y):L.idxOf y<L.length/\L.getD (L.idxOf y) []=y:=by
 have b:=(E.mem y).2 c;have a:=iLL.2 b;refine⟨a,?_⟩;rw[List.getD,dJ a];simp
theorem vU.lt (k:vU n G L K){r:Nat}(a:r∈K):r<L.length:=(mL.1 (k.perm.mem_iff.1 a)).1
theorem vU.nd (k:vU n G L K):K.Nodup:=k.perm.nodup_iff.2 (by unfold dR;exact List.nodup_range.filter _)
theorem Cu {x c:List Nat}(X:bJ n x)(C:bJ n c): ∀k,bL (pw n x k) c=pw n (bL x c) k
 |0=>by
  show aZ (aZ (bY c) (bI n)) c=bI n;rw[cH C.inv,dX C]
 |k+1=>by
  have P:=jW X k;show bL (aZ (pw n x k) x) c=aZ (pw n (bL x c) k) (bL x c);rw[<-Cu X C k];unfold bL;rw[aX (C.inv.mul P) C (C.inv.mul X|>.mul C),<-aX C (C.inv.mul X) C,<-aX C C.inv X,fH C,dK X,<-aX (C.inv.mul P) X C,aX C.inv P X]
theorem uW {c:List Nat}(X:bJ n x)(C:bJ n c):bL x c=bI n↔x=bI n:=by
 constructor
 .intro h
  have e:=iM X C;rw[h] at e;rw[<-e];show aZ (aZ (bY (bY c)) (bI n)) (bY c)=bI n;rw[cH C.inv.inv,dX C.inv]
 .rintro rfl
  show aZ (aZ (bY c) (bI n)) c=bI n;rw[cH C.inv,dX C]
theorem WO {x:List Nat}(X:bJ n x)(a:Nat): ∀b,pw n (pw n x a) b=pw n x (a*b)
 |0=>rfl
 |b+1=>by
  show aZ (pw n (pw n x a) b) (pw n x a)=_;rw[WO X a b,Nat.mul_succ,Rq X]
theorem aaT (X:bJ n x){a b:Nat}(h:a%fC x n=b%fC x n):pw n x a=pw n x b:=by
 rw[QS X a,QS X b,h]
noncomputable def zp (n:Nat)(x:List Nat)(z:Int):List Nat:=pw n x (z%(fC x n:Nat)).toNat
theorem alL (X:bJ n x){z:Int}{a:Nat}(h:(a:Int)%(fC x n:Nat)=z%(fC x n:Nat)):zp n x z=pw n x a:=by
 have o:=rP X;unfold zp;refine aaT X ?_;have d:=Int.emod_nonneg z (b:=(fC x n:Nat)) om;have f:=Int.emod_lt_of_pos z (b:=(fC x n:Nat)) om;have c:(z%(fC x n:Nat)).toNat%fC x n=(z%(fC x n:Nat)).toNat:=Nat.mod_eq_of_lt om;rw[c];omega
theorem aeS (z:Int)(r:Nat):Mr n G L K z r=jJ G L K (L.idxOf (zp n (L.getD r []) z)):=rfl
variable (hG:oK n G) (E:fW G L) (k:vU n G L K)
include hG E k
theorem Ck {j:Nat}(a:j<L.length):jJ G L K j<K.length/\cR G L (K.getD (jJ G L K j) 0) j:=by
 obtain⟨i,hi,h⟩:=Fy hG E k.perm a;have e:=Ir hG E k.perm hi h;rw[e];exact⟨hi,(jM.1 h).2⟩
theorem LY {i j:Nat}(hi:i<L.length)(b:j<L.length)(h:cR G L i j):jJ G L K i=jJ G L K j:=by
 obtain⟨a,c⟩:=Ck hG E k hi;have d:K.getD (jJ G L K i) 0<L.length:=k.lt (bF a);exact ((Dc hG E k.perm a b).2 (pI hG E d c h)).symm
omit hG E k in
theorem Dt (X:bJ n x):fC x n=1↔x=bI n:=by
 constructor
 .intro h
  have:=(mC X 1).1 (by rw[h];exact Nat.dvd_refl _);rwa [Va X] at this
 .intro h
  have:=(mC X 1).2 (by rw[Va X];exact h);exact Nat.dvd_one.1 this
theorem sV:0<K.length/\K.getD 0 0=0:=by
 obtain⟨d,b⟩:=uE hG E;have h:0∈K:=k.perm.mem_iff.2 (mL.2 ⟨d,λj o=>om⟩);have a:=PC h;refine⟨a,?_⟩;obtain⟨i,hi,l⟩:=Bj.1 h
 by_cases e:i=0
 .subst e;rw[List.getD,dJ a];exact l
 .have:=Iz.1 k.asc 0 i a hi om
  rw[l] at this;have e1:fC (L.getD 0 []) n=1:=(Dt (by rw[b];exact bJ.one n)).2 b;have c:K[0]<L.length:=k.lt (Hn a);have X:=jZ hG E c;have p:=rP X;unfold IH at this;rw[e1] at this;have m:fC (L.getD K[0] []) n=1:=om
  have f:=(Dt X).1 m;rw[<-b] at f;have:=AX E.nodup c d f;rw[List.getD,dJ a];exact this
theorem OH {y:List Nat}(c:G y):jJ G L K (L.idxOf y)=0↔y=bI n:=by
 obtain⟨i,b⟩:=uE hG E;obtain⟨h,a⟩:=sV hG E k;obtain⟨f,d⟩:=Mg E c;rw[Dc hG E k.perm h f,a];unfold cR cj;rw[d,b];constructor
 .rintro⟨g,hg,e⟩
  rw[<-e];exact (uW (bJ.one n) (hG.cF hg)).2 rfl
 .rintro rfl
  exact⟨bI n,hG.one,qQ (bJ.one n)⟩
omit hG E k in
theorem lcm_pos:(l:List Nat)->(m:Nat)->0<m->(∀c∈l,0<c)->0<l.foldl (λm c=>m/Nat.gcd m c*c) m
 | [],m,h,_=>h
 |c::l,m,h,hc=>by
  rw[List.foldl_cons];refine lcm_pos l _ ?_ λd a=>hc d (by simp [a])
  rw[Vz];exact Nat.lcm_pos h (hc c siM)
theorem XF:0<We n L K:=by
 unfold We pZ;refine lcm_pos _ 1 Nat.one_pos λc a=>?_
 obtain⟨r,b,rfl⟩:=oG.1 a;exact rP (jZ hG E (k.lt b))
end
end
theorem Vu (n:Nat)(c:Int)(p:Nat->Prop)[DecidablePred p]:sm n (λa=>if p a then c else 0)=c*(((List.range n).filter λa=>decide (p a)).length:Nat):=by
 induction n with
 |zero=>simp [oZ]
 |succ n ih=>
  rw[bQ,ih,List.range_succ,List.filter_append,eE]
  by_cases h:p n
  .simp [h,Int.mul_add]
  .simp [h]
theorem qN {x y:Int}{X Y:Nat}(b: -(X:Int)<=x/\x<=X)(a: -(Y:Int)<=y/\y<=Y): -((X*Y:Nat):Int)<=x*y/\x*y<=((X*Y:Nat):Int):=by
 have h:(x*y).natAbs<=X*Y:=by
  rw[Int.natAbs_mul];exact Nat.mul_le_mul om om
 omega
theorem uS {n:Nat}{a b x:List Nat}(A:bJ n a)(B:bJ n b)(X:bJ n x):bL (aZ a b) x=aZ (bL a x) (bL b x):=by
 unfold bL;rw[aX (X.inv.mul A) X (X.inv.mul B|>.mul X),<-aX X (X.inv.mul B) X,<-aX X X.inv B,fH X,dK B,<-aX (X.inv.mul A) B X,aX X.inv A B]
theorem Jr {n:Nat}{g c x:List Nat}(a:bJ n g)(C:bJ n c)(X:bJ n x):bL (bL g x) (bL c x)=bL (bL g c) x:=by
 have e:aZ x (bL c x)=aZ c x:=by
  unfold bL;rw[<-aX X (X.inv.mul C) X,<-aX X X.inv C,fH X,dK C]
 rw[<-lF a X (iN C X),e,lF a C X]
theorem Gs {n:Nat}{a b x:List Nat}(A:bJ n a)(B:bJ n b)(X:bJ n x)(h:bL a x=bL b x):a=b:=by
 rw[<-iM A X,h,iM B X]
def gs:LN->(List Nat->Int)->Int
 | [],_=>0
 |x::l,f=>f x+gs l f
theorem eS {f g:List Nat->Int}:{l:LN}->(∀x∈l,f x=g x)->gs l f=gs l g
 | [],_=>rfl
 |x::l,h=>by
  rw[gs,gs,h x siM,eS λy a=>h y (by simp [a])]
theorem Rx {f:List Nat->Int}{l m:LN}(p:l.Perm m):gs l f=gs m f:=by
 induction p with
 |nil=>rfl
 |cons x _ ih=>rw[gs,gs,ih]
 |swap x y l=>rw[gs,gs,gs,gs];omega
 |trans _ _ h1 h2=>rw[h1,h2]
theorem Te (φ:List Nat->List Nat)(f:List Nat->Int): ∀l,gs (l.map φ) f=gs l λx=>f (φ x)
 | []=>rfl
 |x::l=>by rw[List.map_cons,gs,gs,Te φ f l]
theorem PT (f g:List Nat->Int): ∀l,gs l (λx=>f x+g x)=gs l f+gs l g
 | []=>rfl
 |x::l=>by rw[gs,gs,gs,PT f g l];omega
theorem Gg (c:Int)(f:List Nat->Int): ∀l,gs l (λx=>c*f x)=c*gs l f
 | []=>by rw[gs,gs,Int.mul_zero]
 |x::l=>by rw[gs,gs,Gg c f l,Int.mul_add]
theorem Uu: ∀l,gs l (λ_=>0)=0
 | []=>rfl
 |x::l=>by rw[gs,Uu l];rfl
theorem GG (f:List Nat->List Nat->Int)(m:LN): ∀l,gs l (λx=>gs m λy=>f x y)=gs m λy=>gs l λx=>f x y
 | []=>(Uu m).symm
 |x::l=>by rw[gs,GG f m l,<-PT];rfl
theorem RA (f:List Nat->Nat->Int)(r:Nat): ∀l,gs l (λx=>sm r λk=>f x k)=sm r λk=>gs l λx=>f x k
 | []=>(wZ r).symm
 |x::l=>by rw[gs,RA f r l,<-tH];rfl
theorem UA (f:List Nat->Int)(l:LN):sm l.length (λa=>f (l.getD a []))=gs l f:=by
 induction l with
 |nil=>rfl
 |cons x l ih=>
  rw[List.length_cons,Dy,gs,<-ih]
  rfl
theorem aiA (x:List Nat)(c:Int){l:LN}(nd:l.Nodup)(a:x∈l):gs l (λy=>if y=x then c else 0)=c:=by
 induction l with
 |nil=>cases a
 |cons y l ih=>
  rw[List.nodup_cons] at nd;rw[gs]
  by_cases e:y=x
  .subst e
   rw[aS rfl,eS (g:=λ_=>0) λz b=>by rw[aQ (λe=>nd.1 (by rw[<-e];exact b))],Uu];omega
  .rw[aQ e,ih nd.2 (by rcases Hu.1 a with h|h;exact absurd h.symm e;exact h)];omega
theorem Sn {α:Type}[DecidableEq α]:{l m:List α}->l.Nodup->m.Nodup->(∀x,x∈l↔x∈m)->l.Perm m
 | [], [],_,_,_=> .nil
 | [],y::m,_,_,h=>by have:=(h y).2 siM;simp at this
 |x::l,m,h1,h2,h=>by
  have b:x∈m:=(h x).1 siM;rw[List.nodup_cons] at h1;refine (List.Perm.cons x (Sn h1.2 (h2.erase x) λy=>?_)).trans (List.perm_cons_erase b).symm;rw[h2.mem_erase_iff,<-h y,Hu];constructor
  .exact λa=>⟨λe=>h1.1 (by rw[<-e];exact a),.inr a⟩
  .rintro⟨hne,rfl|a⟩
   .exact absurd rfl hne
   .exact a
theorem GD {l:LN}(nd:l.Nodup){φ:List Nat->List Nat}(a:(l.map φ).Nodup)(sub: ∀x∈l,φ x∈l){y:List Nat}(f:y∈l):y∈l.map φ:=by
 refine zL λi=>?_
 have h:(y::l.map φ).Nodup:=List.nodup_cons.2 ⟨i,a⟩
 have d:=List.Nodup.length_le_of_subset h (l₂:=l) λz b=>by
  rcases Hu.1 b with rfl|b
  .exact f
  .obtain⟨w,c,rfl⟩:=oG.1 b
   exact sub w c
 rw[List.length_cons,dO] at d;omega
section
variable {n:Nat} {G:List Nat->Prop} {L:LN} {K:List Nat}
theorem SL (E:fW G L)(φ:List Nat->List Nat)(d: ∀x,G x->G (φ x))(h2: ∀x y,G x->G y->φ x=φ y->x=y):(L.map φ).Perm L:=by
 have nd:(L.map φ).Nodup:=by
  rw[Ow,List.pairwise_map];exact (Ow.1 E.nodup).imp_of_mem λf h a e=>a (h2 _ _ ((E.mem _).1 f) ((E.mem _).1 h) e)
 refine Sn nd E.nodup λy=>⟨λb=>?_,λb=>GD E.nodup nd (λx c=>(E.mem _).2 (d x ((E.mem x).1 c))) b⟩
 obtain⟨x,c,rfl⟩:=oG.1 b;exact (E.mem _).2 (d x ((E.mem x).1 c))
theorem BS (E:fW G L)(f:List Nat->Int)(φ:List Nat->List Nat)(a: ∀x,G x->G (φ x))(h2: ∀x y,G x->G y->φ x=φ y->x=y):gs L (λx=>f (φ x))=gs L f:=by
 rw[<-Te,Rx (SL E φ a h2)]
noncomputable def sQ (G:List Nat->Prop)(L:LN)(K:List Nat)(x:List Nat):Nat:=jJ G L K (L.idxOf x)
theorem aiC (E:fW G L){a:Nat}(b:a<L.length):L.idxOf (L.getD a [])=a:=by
 rw[gV,dJ b];exact E.nodup.idxOf_getElem _ _
theorem BV (E:fW G L){a:Nat}(b:a<L.length):sQ G L K (L.getD a [])=jJ G L K a:=by unfold sQ;rw[aiC E b]
end
section
variable {x c:List Nat} {k i j:Nat}
theorem tT {n:Nat}(X:bJ n x)(C:bJ n c):bL (bY x) c=bY (bL x c):=by
 unfold bL;rw[Jt (C.inv.mul X) C,Jt C.inv X,uG C,<-aX C.inv X.inv C]
noncomputable def SZ (G:List Nat->Prop)(L:LN)(K:List Nat)(i j:Nat)(z:List Nat):Int:=gs L λx=>if sQ G L K x=i/\sQ G L K (aZ (bY x) z)=j then 1 else 0
noncomputable def lI (G:List Nat->Prop)(L:LN)(K:List Nat)(k:Nat):Nat:=(iK G L (K.getD k 0)).length
section
variable {n:Nat} {G:List Nat->Prop} {L:LN} {K:List Nat} (hG:oK n G) (E:fW G L) (ik:vU n G L K)
include hG E ik
theorem Jg (a:G x):sQ G L K x<K.length:=(Ck hG E ik (Mg E a).1).1
theorem yE (a:k<K.length):sQ G L K (L.getD (K.getD k 0) [])=k:=by
 have h:=ik.lt (bF (d:=0) a);rw[BV E h];exact (Dc hG E ik.perm a h).2 (Da hG E h)
theorem oY {y:List Nat}(m:G x)(l:G y):sQ G L K x=sQ G L K y↔cj G x y:=by
 obtain⟨a,e1⟩:=Mg E m;obtain⟨h,e2⟩:=Mg E l;have f:=Ck hG E ik a;have b:=Ck hG E ik h;unfold sQ;constructor
 .intro e
  rw[<-e] at b;have:=pI hG E a (Cg hG E (ik.lt (bF (d:=0) f.1)) f.2) b.2;unfold cR at this;rwa [e1,e2] at this
 .intro c
  refine LY hG E ik a h ?_;unfold cR;rw[e1,e2];exact c
theorem Un (b:G x)(a:G c):sQ G L K (bL x c)=sQ G L K x:=
 ((oY hG E ik b (Gn hG b ⟨c,a,rfl⟩)).2 ⟨c,a,rfl⟩).symm
theorem Jx (d:k<K.length):((lI G L K k:Nat):Int)=gs L λx=>if sQ G L K x=k then 1 else 0:=by
 unfold lI iK;rw[<-UA];have:=Vu L.length 1 λa=>jJ G L K a=k
 rw[Int.one_mul] at this;rw[aU (g:=λa=>if jJ G L K a=k then 1 else 0) λa b=>by rw[BV E b],this];congr 2;refine List.filter_congr λa b=>?_
 rw[decide_eq_decide];exact (Dc hG E ik.perm d (mS.1 b)).symm
omit hG ik in
theorem ajH:((mW G L K i j k:Nat):Int)=SZ G L K i j (L.getD (K.getD k 0) []):=by
 unfold SZ;rw[<-UA];unfold mW Jz;have:=Vu L.length 1 λa=>jJ G L K a=i/\quK G L K a k=j
 rw[Int.one_mul] at this;rw[<-this];exact aU λa b=>by rw[BV E b];rfl
theorem ZG {z:List Nat}(f:G z)(d:G c):SZ G L K i j (bL z c)=SZ G L K i j z:=by
 unfold SZ;have C:=hG.cF d
 rw[<-BS E _ (λx=>bL x c) (λx b=>Gn hG b ⟨c,d,rfl⟩) λx y b h e=>by
  have:=congrArg (λw=>bL w (bY c)) e
  simpa only[iM (hG.cF b) C,iM (hG.cF h) C] using this]
 refine eS λx b=>?_
 have a:=(E.mem x).1 b;have X:=hG.cF a;rw[Un hG E ik a d,<-tT X C,<-uS X.inv (hG.cF f) C,Un hG E ik (hG.mul (hG.inv a) f) d]
theorem akQ {z:List Nat}(b:G z):SZ G L K i j z=((mW G L K i j (sQ G L K z):Nat):Int):=by
 have a:=Jg hG E ik b;rw[ajH E];have f:=pX E (ik.lt (bF (d:=0) a));obtain⟨c,h,e⟩:=(oY hG E ik f b).1 (yE hG E ik a);generalize sQ G L K z=k at*;rw[<-e,ZG hG E ik f h]
theorem BM (f:Nat->Int):sm K.length (λk=>f k*((lI G L K k:Nat):Int))=gs L λz=>f (sQ G L K z):=by
 rw[aU (g:=λk=>gs L λz=>f k*if sQ G L K z=k then 1 else 0) λk d=>by rw[Jx hG E ik d,Gg],<-RA];refine eS λz h=>?_
 have b:=(E.mem z).1 h;rw[iP (Jg hG E ik b) (f:=λk=>f k*if sQ G L K z=k then 1 else 0) λk _ a=>by rw[aQ (λe=>a e.symm),Int.mul_zero],aS rfl,Int.mul_one]
end
end
theorem inv_inv {n:Nat}{s:List Nat}(S:bJ n s):bY (bY s)=s:=uG S
theorem yQ {n:Nat}{b:List Nat}(B:bJ n b):bL (bI n) b=bI n:=(uW (bJ.one n) B).2 rfl
theorem Mb {n:Nat}{x g:List Nat}(X:bJ n x)(B:bJ n g):bL (bY x) g=bY (bL x g):=tT X B
def dgb (b:Nat):Nat->Nat->List Nat
 |0,_=> []
 |n+1,m=>m%b::dgb b n (m/b)
def Nu (n:Nat):Nat->List Nat:=dgb n n
def adC:List Nat->Nat
 | []=>0
 |d::l=>d+6*adC l
def HQ {α:Type}(f:α->Nat):List α->Nat
 | []=>0
 |x::l=>f x|||HQ f l
def NT (n:Nat)(x:List Nat):Bool:=decide (x.length=n)&&decide x.Nodup&&x.all λi=>decide (i<n)
structure rJ where
 gens:List Nat
 els:List Nat
 certs:List (Nat×Nat×Nat×List Nat)
def rJ.g (n:Nat)(r:rJ):List (List Nat):=r.gens.map (Nu n)
def rJ.e (n:Nat)(r:rJ):List (List Nat):=r.els.map (Nu n)
theorem sZ {α:Type}{f:α->Nat}{i:Nat}:{l:List α}->(HQ f l).testBit i=true↔ ∃x,x∈l/\(f x).testBit i=true
 | []=>by simp [HQ]
 |x::l=>by
  rw[HQ,Nat.testBit_or,Bool.or_eq_true,sZ];simp
theorem xJ:{x y:List Nat}->x.length=y.length->(∀i∈x,i<6)->(∀i∈y,i<6)->adC x=adC y->x=y
 | [], [],_,_,_,_=>rfl
 | [],_::_,h,_,_,_=>by cases h
 |_::_, [],h,_,_,_=>by cases h
 |a::x,b::y,hl,h1,h2,e=>by
  have e:a+6*adC x=b+6*adC y:=e;have d:=h1 a wI;have c:=h2 b wI;rw[show a=b by omega,xJ (by simpa using hl) (λi hi=>h1 i (wH _ hi)) (λi hi=>h2 i (wH _ hi)) om]
theorem Ij {n:Nat}{x:List Nat}(h:NT n x=true):bJ n x:=by
 unfold NT at h;simp only[oD,xF,uR] at h;exact⟨h.1.1,h.1.2,λi hi=>h.2 i hi⟩
section
variable {n:Nat} {P V:List Nat->Prop} {U:List (List Nat)} {Rs:List rJ}
def Ms (n:Nat)(P:List Nat->Prop)(s x:List Nat):Prop:=bJ n x/\P (bL x (bY s))
theorem Ms.kT (c:oK n P){s:List Nat}(S:bJ n s):oK n (Ms n P s):=
 ⟨λh=>h.1,⟨bJ.one n,by rw[yQ S.inv];exact c.one⟩,λa b=>⟨a.1.mul b.1,by rw[uS a.1 b.1 S.inv];exact c.mul a.2 b.2⟩,λa=>⟨a.1.inv,by rw[Mb a.1 S.inv];exact c.inv a.2⟩⟩
theorem Ms.Vr (b:oK n P){s x:List Nat}(S:bJ n s)(a:P x):Ms n P s (bL x s):=⟨iN (b.cF a) S,by rw[iM (b.cF a) S];exact a⟩
theorem Ms.iff (a:oK n P){s y:List Nat}(S:bJ n s)(Y:bJ n y):P y↔Ms n P s (bL y s):=
 ⟨λh=>Ms.Vr a S h,λh=>by
  have:=h.2
  rwa [iM Y S] at this⟩
theorem Ms.in (a: ∀x,P x->V x)(b: ∀x s,V x->bJ n s->V (bL x s)){s:List Nat}(S:bJ n s)(y:List Nat)(c:Ms n P s y):V y:=by
 have:=b _ _ (a _ c.2) S;have Y:=c.1;have e:=iM Y S.inv;have e2:bY (bY s)=s:=inv_inv S;rw[e2] at e;rwa [e] at this
end
set_option maxRecDepth 100000
structure Tb where
 p:Nat
 e:Nat
 rows:List (List Nat)
def tv (t:Tb)(a k:Nat):Nat:=(t.rows.getD a []).getD k 0
def XE:List Nat->Nat->Nat
 | [],_=>0
 |m::ms,k=>if m.testBit k then 0 else XE ms k+1
def msk (E:List (List Nat))(z:List Nat):Nat:=HQ (λg=>2^adC (bL z g)) E
def Ht (r:Nat)(f:Nat->Bool):Bool:=(List.range r).all f
def oQ (ms:List Nat)(x:List Nat):Nat:=XE ms (adC x)
def xvC (t:Tb)(ms:List Nat)(a:Nat)(x:List Nat):Int:=(tv t a (oQ ms x):Nat)
def szC (E:List (List Nat))(ms:List Nat)(j:Nat):Int:=gs E λy=>if oQ ms y=j then 1 else 0
def ahJ (e N p:Nat):Bool:=(List.range (p+1)).all λk=>((k- 1)%e==0&&decide (4*N<k*k)&&cF (k:Int))==decide (k=p)
def xpB (n e:Nat)(zs:List (List Nat)):Bool:=decide (0<e)&&(zs.all λz=>pw n z e==bI n)&&(List.range e).all λd=>decide (d=0)||decide (e%d≠0)||zs.any λz=>!(pw n z d==bI n)
def alH (n N r:Nat)(t:Tb)(zs:List (List Nat)):Bool:=
 decide (r<=12)&&decide (t.e<=120)&&decide (t.p<100)&&ahJ t.e N t.p&&decide (N%t.p≠0)&&decide (t.rows.length=r)&&(t.rows.all λl=>decide (l.length=r)&&l.all λx=>decide (x<t.p))&&
 xpB n t.e zs&&(Ht r λa=>decide (1<=tv t a 0)&&decide (2*tv t a 0<t.p)&&decide (N%tv t a 0=0))&&decide (sm r (λa=>(tv t a 0*tv t a 0:Nat))=N)&&
 (Ht r λa=>decide (tv t a 0≠1)||Ht r λb=>(List.range r).any λc=>Ht r λk=>decide (tv t a k*tv t b k%t.p=tv t c k))
def akR (n:Nat)(E:List (List Nat))(t:Tb)(zs:List (List Nat))(ms:List Nat)(r:Nat):Bool:=
 decide (zs.length=r)&&decide (zs[0]? =some (bI n))&&(E.all λx=>decide (oQ ms x<r))&&(zs.all λz=>E.contains z)&&(Ht r λj=>decide (szC E ms j<t.p))&&(Ht r λj=>decide (oQ ms (zs.getD j [])=j))&&
 (Ht r λa=>Ht r λi=>Ht r λj=>decide ((tv t a 0*gs E (λy=>if oQ ms y=j then xvC t ms a (aZ (zs.getD i []) y) else 0))%t.p=szC E ms j*tv t a i*tv t a j%t.p))&&
 (Ht r λa=>Ht r λb=>decide (sm r (λk=>szC E ms k*tv t a k*tv t b (oQ ms (bY (zs.getD k []))))%t.p=if a=b then E.length%t.p else 0))
def aiT (n:Nat)(Ts:List Tb)(r:rJ)(c:Nat×List Nat):Bool:=match Ts[c.1]? with
 |none=>false
 |some t=>decide ((r.e n).map adC).Nodup&&alH n (r.e n).length c.2.length t (c.2.map (Nu n))&&akR n (r.e n) t (c.2.map (Nu n)) ((c.2.map (Nu n)).map (msk (r.e n))) c.2.length
def XY:List Tb:= [
 ⟨3,1,[[1]]⟩,
 ⟨3,2,[[1,1],[1,2]]⟩,
 ⟨7,3,[[1,1,1],[1,2,4],[1,4,2]]⟩,
 ⟨7,6,[[1,1,1],[1,6,1],[2,0,6]]⟩,
 ⟨5,4,[[1,1,1,1],[1,1,4,4],[1,4,2,3],[1,4,3,2]]⟩,
 ⟨5,2,[[1,1,1,1],[1,1,4,4],[1,4,1,4],[1,4,4,1]]⟩,
 ⟨13,4,[[1,1,1,1,1],[1,1,1,12,12],[1,1,12,1,12],[1,1,12,12,1],[2,11,0,0,0]]⟩,
 ⟨7,6,[[1,1,1,1],[1,1,2,4],[1,1,4,2],[3,6,0,0]]⟩,
 ⟨13,12,[[1,1,1,1,1],[1,1,12,1,12],[2,2,0,12,0],[3,12,1,0,12],[3,12,12,0,1]]⟩,
 ⟨11,5,[[1,1,1,1,1],[1,3,9,5,4],[1,4,5,9,3],[1,5,3,4,9],[1,9,4,3,5]]⟩,
 ⟨7,6,[[1,1,1,1,1,1],[1,1,2,4,2,4],[1,1,4,2,4,2],[1,6,1,1,6,6],[1,6,2,4,5,3],[1,6,4,2,3,5]]⟩,
 ⟨11,10,[[1,1,1,1],[1,10,1,1],[2,0,3,7],[2,0,7,3]]⟩,
 ⟨7,6,[[1,1,1,1,1,1],[1,1,6,6,1,1],[1,6,1,6,1,6],[1,6,6,1,1,6],[2,2,0,0,6,6],[2,5,0,0,6,1]]⟩,
 ⟨41,20,[[1,1,1,1,1],[1,1,40,40,1],[1,40,9,32,1],[1,40,32,9,1],[4,0,0,0,40]]⟩,
 ⟨31,30,[[1,1,1,1,1],[3,30,0,13,19],[3,30,0,19,13],[4,0,1,30,30],[5,1,30,0,0]]⟩,
 ⟨61,60,[[1,1,1,1,1,1,1],[1,60,1,1,60,1,60],[4,2,0,1,0,60,60],[4,59,0,1,0,60,1],[5,1,1,60,60,0,1],[5,60,1,60,1,0,60],[6,0,59,0,0,1,0]]⟩]
section
variable {x y:List Nat}
open Classical in
structure DB (n:Nat)(G:List Nat->Prop)(L:List (List Nat))(t:Tb)(r:Nat)(X:Nat->List Nat->Int):Prop where
 rng: ∀a x,a<r->G x->0<=X a x/\X a x<t.p
 cls: ∀a x g,G x->G g->X a (bL x g)=X a x
 one: ∀a,a<r->X a (bI n)=(tv t a 0:Nat)
 mul: ∀a x z,a<r->G x->G z->(tv t a 0*gs L (λy=>if cj G z y then X a (aZ x y) else 0))%t.p=gs L (λy=>if cj G z y then 1 else 0)*X a x*X a z%t.p
 orth: ∀a b,a<r->b<r->gs L (λx=>X a x*X b (bY x))%t.p=if a=b then (L.length:Int)%t.p else 0
 num: ∀K,vU n G L K->K.length=r
 ex: ∀K,vU n G L K->We n L K=t.e
 sz: ∀z,G z->gs L (λy=>if cj G z y then 1 else 0)<t.p
 lin: ∀a,a<r->tv t a 0=1-> ∀b,b<r-> ∃c,c<r/\ ∀x,G x->X a x*X b x%t.p=X c x
 p100:t.p<100
 k12:r<=12
 e120:t.e<=120
 prm: ∀k,k<=t.p->(((k- 1)%t.e=0/\4*L.length<k*k/\cF (k:Int)=true)↔k=t.p)
 pN:L.length%t.p≠0
 dg: ∀a,a<r->1<=tv t a 0/\2*tv t a 0<t.p/\L.length%tv t a 0=0
 sq:sm r (λa=>((tv t a 0*tv t a 0:Nat):Int))=L.length
theorem wF {r:Nat}{f:Nat->Bool}(h:Ht r f=true){k:Nat}(a:k<r):f k=true:=uR.1 h k (mS.2 a)
theorem PJ:{ms:List Nat}->{k:Nat}->XE ms k<ms.length-> ∃m,ms[XE ms k]? =some m/\m.testBit k=true
 | [],_,h=>by simp [XE] at h
 |m::ms,k,h=>by
  unfold XE at h |-;split
  .rename_i a;exact⟨m,rfl,a⟩
  .rename_i a
   rw[aQ a,List.length_cons] at h;obtain⟨c,e,b⟩:=PJ (ms:=ms) (k:=k) om;exact⟨c,by rw[List.getElem?_cons_succ];exact e,b⟩
theorem Qj {k a:Nat}:{ms:List Nat}->(∀m∈ms,m.testBit k=m.testBit a)->XE ms k=XE ms a
 | [],_=>rfl
 |m::ms,h=>by
  unfold XE;rw[h m wI,Qj λm b=>h m (wH _ b)]
section
variable {n:Nat} {E:List (List Nat)} {zs:List (List Nat)} {ms:List Nat} {r:Nat}
structure AT (n:Nat)(E:List (List Nat))(zs:List (List Nat))(ms:List Nat)(r:Nat):Prop where
 n6:n<=6
 g:oK n (· ∈E)
 hm:ms=zs.map (msk E)
 hl:zs.length=r
 lt: ∀x,x∈E->oQ ms x<r
 zE: ∀j,j<r->zs.getD j []∈E
 at_: ∀j,j<r->oQ ms (zs.getD j [])=j
theorem ajX (a:n<=6)(X:bJ n x)(Y:bJ n y)(h:(2^adC y).testBit (adC x)=true):y=x:=by
 rw[Nat.testBit_two_pow,xF] at h;exact xJ (by rw[X.len,Y.len]) (λi hi=>by have:=Y.lt i hi;omega) (λi hi=>by have:=X.lt i hi;omega) h
theorem AT.bit (c:AT n E zs ms r){z:List Nat}(b:z∈E)(a:x∈E):(msk E z).testBit (adC x)=true↔cj (· ∈E) z x:=by
 unfold msk;rw[sZ];constructor
 .rintro⟨g,hg,h⟩
  exact⟨g,hg,ajX c.n6 (c.g.cF a) (iN (c.g.cF b) (c.g.cF hg)) h⟩
 .rintro⟨g,hg,rfl⟩
  exact⟨g,hg,by rw[Nat.testBit_two_pow];exact decide_eq_true rfl⟩
theorem AT.Vr (c:AT n E zs ms r)(b:x∈E)(h:cj (· ∈E) x y):oQ ms y=oQ ms x:=by
 have i:=Gn c.g b h;have X:=c.g.cF b;refine Qj λm d=>?_
 rw[c.hm] at d;obtain⟨z,l,rfl⟩:=oG.1 d;obtain⟨j,f,rfl⟩:=List.getElem_of_mem l;have a:=c.zE j (by rw[<-c.hl];exact f);rw[gV,dJ f] at a
 replace a:zs[j]∈E:=a
 have Z:=c.g.cF a;rw[Ri,c.bit a i,c.bit a b];exact⟨λk=>Di c.g Z k (Si c.g X h),λk=>Di c.g Z k h⟩
theorem AT.rep (c:AT n E zs ms r)(f:x∈E):cj (· ∈E) (zs.getD (oQ ms x) []) x:=by
 have d:=c.lt x f;have i:ms.length=r:=by rw[c.hm,dO,c.hl]
 obtain⟨m,b,h⟩:=PJ (ms:=ms) (k:=adC x) (by rw[i];exact d);have b:ms[oQ ms x]? =some m:=b;generalize oQ ms x=j at d b;rw[c.hm,Al,dJ (by rw[c.hl];exact d),Option.map_some] at b;cases b;have a:=c.zE j d;rw[gV,dJ (by rw[c.hl];exact d)] at a |-;exact (c.bit a f).1 h
theorem AT.iff (c:AT n E zs ms r)(a:x∈E)(f:y∈E):oQ ms y=oQ ms x↔cj (· ∈E) x y:=by
 refine⟨λe=>?_,λh=>c.Vr a h⟩;have d:=c.rep a;have b:=c.rep f;rw[e] at b;have Z:=c.g.cF (c.zE _ (c.lt x a));exact Di c.g (c.g.cF a) (Si c.g Z d) b
theorem ajD {r:Nat}(c:List Nat->Nat)(f:Nat->Int):{l:List (List Nat)}->(∀x∈l,c x<r)->gs l (λx=>f (c x))=sm r λk=>f k*gs l λx=>if c x=k then 1 else 0:=λ{l} h=>by
 rw[aU (g:=λk=>gs l λx=>f k*if c x=k then 1 else 0) λk _=>(Gg _ _ _).symm,<-RA];refine eS λx b=>?_
 rw[iP (t:=c x) (h x b) λk _ a=>by rw[aQ λe=>a e.symm,Int.mul_zero],aS rfl,Int.mul_one]
theorem AT.bij (c:AT n E zs ms r)(nd:E.Nodup)(f:List Nat->Int){g:List Nat}(a:g∈E):gs E (λy=>f (bL y g))=gs E f:=by
 have k:=c.g.cF a
 have h:(E.map λy=>bL y g).Nodup:=by
  rw[Ow,List.pairwise_map];exact (Ow.1 nd).imp_of_mem λj l ne e=>ne (Gs (c.g.cF j) (c.g.cF l) k e)
 have i:(E.map λy=>bL y g).Perm E:=Sn h nd λy=>⟨λb=>by
  obtain⟨x,d,rfl⟩:=oG.1 b
  exact c.g.mul (c.g.mul (c.g.inv a) d) a,λb=>GD nd h (λx d=>c.g.mul (c.g.mul (c.g.inv a) d) a) b⟩
 rw[<-Te (λy=>bL y g) f,Rx i]
end
end
section
variable {n:Nat} {E zs:List (List Nat)} {ms:List Nat} {r:Nat} {t:Tb}
theorem EP (E:List (List Nat))(ms:List Nat)(j:Nat):szC E ms j=gs E λy=>if oQ ms y=j then 1 else 0:=rfl
theorem AT.mul (c:AT n E zs ms r)(nd:E.Nodup)(p d:Int){f:Nat->Int}
  (h: ∀i j,i<r->j<r->(d*gs E (λy=>if oQ ms y=j then f (oQ ms (aZ (zs.getD i []) y)) else 0))%p=szC E ms j*f i*f j%p) {x z:List Nat} (b:x∈E) (o:z∈E):
  (d*gs E (λy=>if oQ ms y=oQ ms z then f (oQ ms (aZ x y)) else 0))%p=szC E ms (oQ ms z)*f (oQ ms x)*f (oQ ms z)%p:=by
 rw[<-h _ _ (c.lt x b) (c.lt z o)]
 congr 2
 obtain⟨g,a,e⟩:=c.rep b
 have Z:=c.g.cF (c.zE _ (c.lt x b))
 generalize zs.getD (oQ ms x) []=w at e Z
 subst e
 have l:w∈E:=by
  have:=c.g.mul (c.g.mul a b) (c.g.inv a);have e2:=iM Z (c.g.cF a);have m:=Gn c.g b ⟨bY g,c.g.inv a,e2⟩;exact m
 rw[<-c.bij nd (λy=>if oQ ms y=oQ ms z then f (oQ ms (aZ (bL w g) y)) else 0) a]
 refine eS λy k=>?_
 rw[c.Vr k ⟨g,a,rfl⟩,<-uS Z (c.g.cF k) (c.g.cF a),c.Vr (c.g.mul l k) ⟨g,a,rfl⟩]
theorem AT.inv (c:AT n E zs ms r){x:List Nat}(d:x∈E):oQ ms (bY x)=oQ ms (bY (zs.getD (oQ ms x) [])):=by
 obtain⟨g,b,e⟩:=c.rep d;have a:=c.zE _ (c.lt x d);have Z:=c.g.cF a;generalize zs.getD (oQ ms x) []=w at e Z a;subst e;rw[<-Mb Z (c.g.cF b)];exact c.Vr (c.g.inv a) ⟨g,b,rfl⟩
end
theorem oW {a b:Bool}:(a&&b)=true↔a=true/\b=true:=oD _ _▸Iff.rfl
section
variable {n:Nat} {G:List Nat->Prop} {L E:List (List Nat)} {s:List Nat}
theorem QC {rr:rJ}{cc:Nat×List Nat}(n6:n<=6)(o:oK n G)(w:fW G L)(S:bJ n s)(he: ∀x,bJ n x->(G x↔bL x s∈rr.e n))(Q: ∀x∈rr.e n,bJ n x)(h:aiT n XY rr cc=true): ∃t,XY[cc.1]? =some t/\DB n G L t cc.2.length λa x=>(tv t a (oQ ((cc.2.map (Nu n)).map (msk (rr.e n))) (bL x s)):Nat):=by
 unfold aiT at h;split at h
 .cases h
 rename_i t ht
 obtain⟨E,a1⟩: ∃E,rr.e n=E:=⟨_,rfl⟩
 obtain⟨zs,a4⟩: ∃zs,cc.2.map (Nu n)=zs:=⟨_,rfl⟩
 obtain⟨ms,a0⟩: ∃ms,zs.map (msk E)=ms:=⟨_,rfl⟩
 obtain⟨r,hr⟩: ∃r,cc.2.length=r:=⟨_,rfl⟩
 rw[a1] at he Q h;rw[a4,hr,a0] at h;rw[oW,oW,xF] at h;have⟨⟨b2,hT⟩,hC⟩:=h;have a2:E.Nodup:=List.Pairwise.imp (λh e=>h (congrArg adC e)) (List.pairwise_map.1 (Ow.1 b2))|>Ow.2
 have back: ∀x,bJ n x->bL (bL x (bY s)) s=x:=λx X=>by
  have:=iM X S.inv;rwa [inv_inv S] at this
 have mv: ∀x,Ms n G s x↔x∈E:=λx=>⟨λh=>by
  have:=(he _ (iN h.1 S.inv)).1 h.2
  rwa [back x h.1] at this,λh=>⟨Q x h,(he _ (iN (Q x h) S.inv)).2 (by rw[back x (Q x h)];exact h)⟩⟩
 have gE:oK n (· ∈E):=by
  have:Ms n G s=(· ∈E):=funext λx=>propext (mv x)
  rw[<-this];exact Ms.kT o S
 have u: ∀x,G x->bL x s∈E:=λx l=>(he x (o.cF l)).1 l
 have pm:(L.map λx=>bL x s).Perm E:=by
  have a9:(L.map λx=>bL x s).Nodup:=by
   rw[Ow,List.pairwise_map];exact (Ow.1 w.nodup).imp_of_mem λ{a b} v J ne e=>ne (Gs (o.cF ((w.mem a).1 v)) (o.cF ((w.mem b).1 J)) S e)
  refine (List.perm_ext_iff_of_nodup a9 a2).2 λx=>?_
  rw[oG];exact⟨λ⟨y,P,e⟩=>by rw[<-e];exact u y ((w.mem y).1 P),λl=>⟨bL x (bY s),(w.mem _).2 ((mv x).2 l).2,back x (Q x l)⟩⟩
 have lE:E.length=L.length:=by have:=pm.length_eq;rw[dO] at this;exact this.symm
 have tr: ∀F:List Nat->Int,gs L (λx=>F (bL x s))=gs E F:=λF=>by rw[<-Te (λx=>bL x s) F,Rx pm]
 rw[lE] at hT;unfold akR at hC;simp only[oW,xF,uR] at hC;obtain⟨⟨⟨⟨⟨⟨⟨c1,c2⟩,c3⟩,c4⟩,c8⟩,c5⟩,c6⟩,c7⟩:=hC
 have R: ∀j,j<r->zs.getD j []∈E:=λj A=>by
  have:=c4 (zs.getD j []) (bF om);exact List.contains_iff_mem.1 this
 have C:AT n E zs ms r:=⟨n6,gE,a0.symm,c1,c3,R,λj A=>of_decide_eq_true (wF c5 A)⟩
 unfold alH at hT;simp only[oW,xF,uR] at hT;obtain⟨⟨⟨⟨⟨⟨⟨⟨⟨⟨b1,a3⟩,t1⟩,t2⟩,t3⟩,t4⟩,t5⟩,t6⟩,t7⟩,t8⟩,t9⟩:=hT
 have p0:0<t.p:=by
  rcases Nat.eq_zero_or_pos t.p with e|e
  .exfalso
   unfold ahJ at t2;rw[uR] at t2;have:=t2 0 (mS.2 om);rw[e] at this;simp at this
  .exact e
 have X0: ∀a k,a<r->k<r->(0:Int)<=(tv t a k:Nat)/\((tv t a k:Nat):Int)<t.p:=λa k v B=>by
  refine⟨om,?_⟩;have h1:=t5 (t.rows.getD a []) (bF om);have h2:=h1.2 ((t.rows.getD a []).getD k 0) (bF om);unfold tv;omega
 have e1:bL (bI n) s=bI n:=yQ S;have z0:zs.getD 0 []=bI n:=by rw[gV,c2];rfl
 have O: ∀x y,G x->G y->(cj G x y↔oQ ms (bL y s)=oQ ms (bL x s)):=λx y l P=>by
  rw[C.iff (u x l) (u y P)]
  have a7: ∀y,y∈E↔ ∃g,G g/\bL g s=y:=λy=>⟨λh=>⟨bL y (bY s),((mv y).2 h).2,back y (Q y h)⟩,λ⟨g,U,e⟩=>by rw[<-e];exact u g U⟩
  constructor
  .rintro⟨c,Y,rfl⟩
   exact⟨bL c s,u c Y,Jr (o.cF l) (o.cF Y) S⟩
  .rintro⟨d,hd,e⟩
   obtain⟨c,Y,rfl⟩:=(a7 d).1 hd;rw[Jr (o.cF l) (o.cF Y) S] at e;exact⟨c,Y,Gs (iN (o.cF l) (o.cF Y)) (o.cF P) S e⟩
 have r0: ∀j,j<r-> ∃x,G x/\oQ ms (bL x s)=j:=λj A=>by
  have h:=R j A;exact⟨bL (zs.getD j []) (bY s),((mv _).2 h).2,by rw[back _ (Q _ h)];exact C.at_ j A⟩
 refine⟨t,ht,?_⟩;rw[a1,a4,hr,a0];refine⟨?_,?_,?_,?_,?_,?_,?_,?_,?_,t1,b1,a3,?_,t3,?_,?_⟩
 .exact λa x v l=>X0 a _ v (C.lt _ (u x l))
 .intro a x g l U
  have:=(O x (bL x g) l (Gn o l ⟨g,U,rfl⟩)).1 ⟨g,U,rfl⟩;simp only[this]
 .intro a v
  simp only[e1];rw[<-z0,C.at_ 0 om]
 .intro a x z v l W
  have:=C.mul a2 t.p (tv t a 0:Nat) (f:=λk=>(tv t a k:Nat)) (λi j hi A=>of_decide_eq_true (wF (wF (wF c6 v) hi) A)) (u x l) (u z W);rw[<-tr (λy=>if oQ ms y=oQ ms (bL z s) then ((tv t a (oQ ms (aZ (bL x s) y)):Nat):Int) else 0),EP,<-tr (λy=>if oQ ms y=oQ ms (bL z s) then (1:Int) else 0)] at this;refine Eq.trans ?_ (this.trans ?_)
  .congr 2
   refine eS λy P=>?_
   have a6:=(w.mem y).1 P;simp only[O z y W a6];rw[uS (o.cF l) (o.cF a6) S]
  .congr 3
   refine eS λy P=>?_
   simp only[O z y W ((w.mem y).1 P)]
 .intro a b v J
  have:=of_decide_eq_true (wF (wF c7 v) J);rw[lE] at this;refine Eq.trans ?_ (this.trans (by split<;>simp));congr 1
  rw[eS (g:=λx=>(λy=>((tv t a (oQ ms y):Nat):Int)*(tv t b (oQ ms (bY y)):Nat)) (bL x s)) λx l=>by rw[Mb (o.cF ((w.mem x).1 l)) S],tr (λy=>((tv t a (oQ ms y):Nat):Int)*(tv t b (oQ ms (bY y)):Nat)),
   eS (g:=λy=>(λk=>((tv t a k:Nat):Int)*(tv t b (oQ ms (bY (zs.getD k []))):Nat)) (oQ ms y)) λy P=>by rw[C.inv P],ajD (r:=r) (oQ ms) (λk=>((tv t a k:Nat):Int)*(tv t b (oQ ms (bY (zs.getD k []))):Nat)) λx l=>C.lt x l]
  refine aU λk _=>?_
  rw[EP,Int.mul_comm,Int.mul_assoc]
 .intro K N
  have cl: ∀k,k<K.length->G (L.getD (K.getD k 0) []):=λk B=>pX w (N.lt (bF B))
  refine Nat.le_antisymm ?_ ?_
  .have nd:((List.range K.length).map λk=>oQ ms (bL (L.getD (K.getD k 0) []) s)).Nodup:=by
    rw[Ow,List.pairwise_map];refine (Ow.1 List.nodup_range).imp_of_mem λ{a b} v J ne e=>ne ?_
    rw[mS] at v J;have:=(O _ _ (cl b J) (cl a v)).2 e;rw[<-oY o w N (cl b J) (cl a v),yE o w N J,yE o w N v] at this;exact this.symm
   have:=List.Nodup.length_le_of_subset nd (l₂:=List.range r) λj A=>by
    obtain⟨k,B,rfl⟩:=oG.1 A;exact mS.2 (C.lt _ (u _ (cl k (mS.1 B))))
   rwa [dO,gT,gT] at this
  .have nd:((List.range r).map λj=>sQ G L K (bL (zs.getD j []) (bY s))).Nodup:=by
    rw[Ow,List.pairwise_map];refine (Ow.1 List.nodup_range).imp_of_mem λ{a b} v J ne e=>ne ?_
    rw[mS] at v J;have ga:=((mv _).2 (R a v)).2;have gb:=((mv _).2 (R b J)).2;have:=(O _ _ ga gb).1 ((oY o w N ga gb).1 e);rw[back _ (Q _ (R a v)),back _ (Q _ (R b J)),C.at_ a v,C.at_ b J] at this;exact this.symm
   have:=List.Nodup.length_le_of_subset nd (l₂:=List.range K.length) λj A=>by
    obtain⟨k,B,rfl⟩:=oG.1 A;exact mS.2 (Jg o w N ((mv _).2 (R k (mS.1 B))).2)
   rwa [dO,gT,gT] at this
 .intro K N
  unfold xpB at t6;simp only[oW,xF,uR,Bool.or_eq_true,List.any_eq_true,Bool.not_eq_true',beq_eq_false_iff_ne,beq_iff_eq] at t6;have⟨⟨x1,x2⟩,x3⟩:=t6
  have a5: ∀m,We n L K∣m↔ ∀j,j<r->pw n (zs.getD j []) m=bI n:=λm=>by
   unfold We;rw[tX];constructor
   .intro h j A
    obtain⟨k,B,e⟩: ∃k,k<K.length/\cj G (L.getD (K.getD k 0) []) (bL (zs.getD j []) (bY s)):=by
     have gz:=((mv _).2 (R j A)).2;have B:=Jg o w N gz;have gk:=pX w (N.lt (bF (d:=0) B));exact⟨_,B,(oY o w N gk gz).1 (yE o w N B)⟩
    have gk:=pX w (N.lt (bF (d:=0) B));have h2:=h _ (oG.2 ⟨K.getD k 0,bF B,rfl⟩);rw[mC (o.cF gk)] at h2;have⟨g,U,e⟩:=e;have Z:=Q _ (R j A)
    have:pw n (bL (zs.getD j []) (bY s)) m=bI n:=by
     rw[<-e,<-Cu (o.cF gk) (o.cF U),h2,yQ (o.cF U)]
    rw[<-back _ Z,<-Cu (iN Z S.inv) S,this,e1]
   .intro h d hd
    obtain⟨k,B,rfl⟩:=oG.1 hd;have gk:=pX w (N.lt B);have X:=o.cF gk;rw[mC X];have l:=u _ gk;obtain⟨g,U,e⟩:=C.rep l;have Z:=Q _ (R _ (C.lt _ l))
    have e2:pw n (bL (L.getD k []) s) m=bI n:=by
     rw[<-e,<-Cu Z (gE.cF U),h _ (C.lt _ l),yQ (gE.cF U)]
    rw[<-Cu X S] at e2;exact (uW (jW X m) S).1 e2
  have d1:=(a5 t.e).2 λj A=>x2 _ (bF om)
  refine Nat.le_antisymm (Nat.le_of_dvd x1 d1) (Nat.le_of_not_lt λb0=>?_);rcases x3 _ (mS.2 b0) with (h|h)|h
  .rw[h] at d1
   have:=Nat.eq_zero_of_zero_dvd d1;omega
  .exact h (Nat.mod_eq_zero_of_dvd d1)
  .have⟨z,W,a8⟩:=h
   obtain⟨j,A,rfl⟩:=List.getElem_of_mem W;have:=(a5 (We n L K)).1 (Nat.dvd_refl _) j om;rw[gV,dJ A] at this;exact a8 this
 .intro z W
  have:=of_decide_eq_true (wF c8 (C.lt _ (u z W)));rw[EP,<-tr (λy=>if oQ ms y=oQ ms (bL z s) then (1:Int) else 0)] at this;rw[eS (g:=λy=>if oQ ms (bL y s)=oQ ms (bL z s) then (1:Int) else 0) λy P=>by simp only[O z y W ((w.mem y).1 P)]];exact this
 .intro a v h1 b J
  have:=wF t9 v;rw[Bool.or_eq_true,xF] at this;have:=wF (this.resolve_left λh=>h h1) J;obtain⟨c,Y,h2⟩:=List.any_eq_true.1 this;refine⟨c,mS.1 Y,λx l=>?_⟩;have:=of_decide_eq_true (wF h2 (C.lt _ (u x l)));exact congrArg (λq:Nat=>(q:Int)) this
 .intro k B
  unfold ahJ at t2;rw[uR] at t2;have:=t2 k (mS.2 om);rw[beq_iff_eq,Ri,oW,oW,xF,xF,beq_iff_eq] at this;rw[<-this,and_assoc]
 .intro a v
  have:=wF t7 v;simp only[oW,xF] at this;exact⟨this.1.1,this.1.2,this.2⟩
 .rw[<-t8]
end
end Go.Proofs.YtoighkablmjfeaaGreat
namespace Go.Proofs.YtoighkablmjfeaaGreat.Ln
open Go Go.Ay
section
variable {x:Nat} {a b:H}
theorem rW (v:V)(l:List Int)(h:H)(d:SI h v l)(f:l.length<1000000):Ev T 90 [v] h (aiF h l):=by
 refine EvZ iJ rfl ?_;rcases id d with ⟨rfl|⟨ad,rfl⟩,s⟩|⟨id,j,len,o,r,u,rfl,i,q,t,n,w⟩
 .have:l= []:=by cases l<;>simp_all [ints]
  subst this;simp only[iJ,aV,go_sem];exact⟨dF.aH _ _ _,Fr.refl h,λh=>by simp at h⟩
 .simp only[iJ,aV,go_sem]
  obtain⟨k,m,e,c⟩:=Vb d f;simp only[e,go_sem];exact c
 .simp only[iJ,aV,go_sem]
  obtain⟨k,m,e,c⟩:=Vb d f;simp only[e,go_sem];exact c
structure Fx (x:Nat)(h h':H):Prop where
 next:h.next<=h'.next
 get: ∀id,id<h.next->id≠x->h'.get id=h.get id
theorem Fx.refl (x:Nat)(h:H):Fx x h h:=⟨dN _,λ_ _ _=>rfl⟩
theorem Fx.of {h h':H}(f:Fr h h'):Fx x h h':=⟨f.next,λid c _=>f.get id c⟩
theorem Fx.trans {c:H}(f:Fx x a b)(g:Fx x b c):Fx x a c:=⟨kQ f.next g.next,λid d h=>(g.get id (iD d f.next) h).trans (f.get id d h)⟩
theorem Fx.set (f:Fx x a b)(o:Option Ob):Fx x a (b.set x o):=⟨f.next,λid c d=>(H.Cj b d o).trans (f.get id c d)⟩
theorem Fx.fr {c:H}(f:Fr a b)(h:a.next<=x)(g:Fx x b c):Fr a c:=⟨kQ f.next g.next,λid d=>(g.get id (iD d f.next) om).trans (f.get id d)⟩
theorem SI.fx {h h':H}{j:Nat}{u:V}{l:List Int}(s:SI h u l)(v:zQ u j)(w:x<j)(f:Fx x h h'):SI h' u l:=by
 rcases s with s|⟨id,c,len,d,q,m,rfl,n,i,o,t,k⟩
 .exact .inl s
 .have r:=v _ _ _ _ rfl
  exact .inr ⟨id,c,len,d,q,m,rfl,n,iD i f.next,by rw[f.get id i om];exact o,t,k⟩
theorem DW (n:Nat)(h:H)(y:n<1000000):Ev T 159 [aC n] h (λv h'=>v= aC (ajY n:Int)/\h'=h):=by
 refine lG ?_;refine aP (λm f l=> ∃(d:Nat),(∃g:Nat->V,f= [aC n,g 1,aC d,g 3,g 4])/\2<=d/\d+m=1002/\JX n m d=ajY n/\l=h) 1000
  ⟨2,aD rfl,dN _,rfl,rfl,rfl⟩ ?_
 rintro m f l ⟨d,⟨g,rfl⟩,o,t,c,rfl⟩;have s:d*d<=1002*1002:=Nat.mul_le_mul om om;have i:(d:Int)*(d:Int)=((d*d:Nat):Int):=(Int.natCast_mul ..).symm;have r:d<=d*d:=Nat.le_mul_of_pos_left d om;have q:(n:Int).tmod (d:Int)=((n%d:Nat):Int):=Bv ..
 cases m with
 |zero=>
  have j: ¬d*d<=n:=by
   have k:d=1002:=om
   subst k;omega
  generalize d*d=dd at*;refine bM i ?_;rw[bZ (show ¬(dd:Int)<=(n:Int) by omega)];refine aT ?_;exact⟨by rw[<-c];rfl,trivial⟩
 |succ m=>
  rw[JX] at c;generalize d*d=dd at*;refine bM i ?_;refine bV (λw=>?_) (λj=>?_)
  .rw[aS om] at c
   refine bM q ?_;refine bV (λu=>?_) (λu=>?_)
   .rw[aS om] at c
    refine aT ?_;exact⟨by rw[<-c],trivial⟩
   .rw[aQ om] at c
    refine aT ?_;rw[fJ d];exact⟨m,om,d+1,aD rfl,om,om,c,trivial⟩
  .rw[aQ om] at c
   refine aT ?_;exact⟨by rw[<-c],trivial⟩
theorem sS (n:Int)(h:H):Ev T 109 [aC n] h (λv h'=>v= .bool (cF n)/\h'=h):=by
 refine lG ?_
 by_cases c:(1:Int)<n
 .rw[cV c]
  refine aT ?_
  by_cases d:n<1000000
  .rw[cV d]
   obtain⟨m,rfl⟩: ∃m:Nat,n=(m:Int):=⟨n.toNat,om⟩
   refine aT ?_;refine (DW m h om).mono ?_;rintro v h' ⟨rfl,rfl⟩;refine aT ?_;refine⟨?_,trivial⟩;rw[cF,cV c,cV d,Mc,Bool.true_and,Bool.true_and];congr 1;rw[decide_eq_decide];omega
  .rw[bZ d]
   refine bM @abL ?_;exact⟨by rw[cF,bZ d];simp,trivial⟩
 .rw[bZ c]
  refine bM @abL ?_;exact⟨by rw[cF,bZ c];rfl,trivial⟩
theorem anX (p:Int)(h:H):Ev T 125 [aC p] h (λv h'=>v= .bool (fD p)/\h'=h):=by
 refine lG ?_
 by_cases c:p<10000
 .rw[cV c]
  refine aT ?_;refine (sS p h).mono ?_;rintro v h' ⟨rfl,rfl⟩;refine aT ?_;exact⟨by rw[fD,cV c,Bool.true_and],trivial⟩
 .rw[bZ c]
  refine bM @abL ?_;exact⟨by rw[fD,bZ c];rfl,trivial⟩
end
end Go.Proofs.YtoighkablmjfeaaGreat.Ln
namespace Go.Proofs.YtoighkablmjfeaaGreat
open Go Go.Ay Go.Pm
set_option maxHeartbeats 16000000
theorem afM (e m p:Nat)(h:H)(e0:0<e)(e1:e<1000)(A:p<1000)(t:m<p)(G:(p- 1)%e=0)(y:cF (p:Int)=true)(d: ∀k,k<p->m<k->(k- 1)%e=0->cF (k:Int)=false):
  Ev T 70 [aC e,aC m] h (λv h'=>v= .tup [aC p,aC 0]/\h'=h):=by
 have x:decide ((e:Int)<1)=false:=bZ om
 have d2:decide ((m:Int)<0)=false:=bZ om
 refine Hv x d2 ?_
 refine aP (λr c j=> ∃(k:Nat),(∃g:Nat->V,c= [aC e,aC m,g 2,g 3,aC k,g 5,g 6,g 7])/\1<=k/\k<=p/\(k- 1)%e=0/\j=h/\r=p+1-k) p
  ⟨1,aD rfl,om,om,Nat.zero_mod e,rfl,om⟩ ?_
 rintro r c j ⟨k,⟨g,rfl⟩,z,kp,o,rfl,rfl⟩
 have s:decide ((k:Int)<1000000)=true:=cV om
 have w:decide ((e:Int)<1000000)=true:=cV om
 refine eZ s w ?_
 have next:cF (k:Int)=false\/ ¬m<k->k+e<=p:=λu=>by
  have i:k≠p:=λh=>by
   subst h;rcases u with h|h
   .rw[y] at h;cases h
   .exact h t
  obtain⟨a,J⟩: ∃a,k- 1=e*a:=⟨(k- 1)/e,by have:=Nat.div_add_mod (k- 1) e;omega⟩
  obtain⟨b,F⟩: ∃b,p- 1=e*b:=⟨(p- 1)/e,by have:=Nat.div_add_mod (p- 1) e;omega⟩
  have l:a<b:=Nat.lt_of_not_le λh=>by have:=Nat.mul_le_mul_left e h;omega
  have:=Nat.mul_le_mul_left e (show a+1<=b from l);rw[Nat.mul_add,jP] at this;omega
 have f:(k+e- 1)%e=0:=by
  rw[show k+e- 1=(k- 1)+e by omega,Nat.add_mod_right];exact o
 by_cases q:(m:Int)<(k:Int)
 .have n:=cV q
  refine bM n ?_
  refine (Ln.sS (k:Int) j).mono ?_
  rintro _ B ⟨rfl,rfl⟩
  cases hP:cF (k:Int) with
  |true=>
   refine aT ?_
   have:k=p:=zL λi=>by
    have:=d k om om o;rw[hP] at this;cases this
   rw[this];exact⟨rfl,trivial⟩
  |false=>
   refine aT ?_;have:=next (.inl hP)
   rw[show (k:Int)+(e:Int)=((k+e:Nat):Int) from om];exact⟨p+1-(k+e),om,k+e,aD rfl,om,this,f,rfl⟩
 .have n:=bZ q
  refine eZ n @abL ?_
  have:=next (.inr om)
  rw[show (k:Int)+(e:Int)=((k+e:Nat):Int) from om]
  exact⟨p+1-(k+e),om,k+e,aD rfl,om,this,f,rfl⟩
end Go.Proofs.YtoighkablmjfeaaGreat
namespace Go.Ay
section
variable {n i r k j:Nat}
abbrev Mx:=Nat->Nat->Int
def vM (i r:Nat):Nat:=if r<i then r else r+1
def low (i k:Nat):Nat:=if i<k then k- 1 else k
theorem WQ (i r:Nat):vM i r≠i:=by unfold vM;split<;>omega
theorem rQ (h:r<n):vM i r<n+1:=by unfold vM;split<;>omega
theorem Ub (h:i≠k):vM i r=k↔r=low i k:=by unfold vM low;split<;>split<;>omega
theorem Ek (h:i≠k):vM i (low i k)=k:=(Ub h).2 rfl
theorem Ld (h:k<n+1)(hi:i<n+1)(a:i≠k):low i k<n:=by unfold low;split<;>omega
theorem QP {a:Nat}(h:i≠k)(h':i≠a)(b:k≠a):low i k≠low i a:=by unfold low;split<;>split<;>omega
theorem afN {r':Nat}(h:vM i r=vM i r'):r=r':=by unfold vM at h;split at h<;>split at h<;>omega
def Lx:Nat->Int
 |0=>1
 |n+1=> -Lx n
theorem yD (n:Nat):Lx (n+1)= -Lx n:=rfl
theorem GO (n m:Nat):Lx (n+m)=Lx n*Lx m:=by
 induction m with
 |zero=>rw[Nat.add_zero];show Lx n=Lx n*1;rw[Int.mul_one]
 |succ m ih=>rw[<-Nat.add_assoc,yD,yD,ih,Int.mul_neg]
theorem YV (n:Nat):Lx n*Lx n=1:=by
 induction n with
 |zero=>rfl
 |succ n ih=>rw[yD,Int.neg_mul_neg,ih]
theorem Ip (n:Nat):Lx (n+n)=1:=by rw[GO,YV]
def del (A:Mx)(i j:Nat):Mx:=λr c=>A (vM i r) (vM j c)
def fO (A:Mx)(k:Nat)(u:Nat->Int):Mx:=λi j=>if i=k then u j else A i j
theorem eX (A:Mx)(k:Nat)(u:Nat->Int)(j:Nat):fO A k u k j=u j:=aS rfl
theorem jD (A:Mx)(u:Nat->Int)(j:Nat)(h:i≠k):fO A k u i j=A i j:=aQ h
theorem Hc (A:Mx){l:Nat}(u v:Nat->Int)(h:k≠l):fO (fO A k u) l v=fO (fO A l v) k u:=by
 funext i j;simp only[fO]
 by_cases a:i=l
 .rw[aS a,aQ om,aS a]
 .rw[aQ a,aQ a]
theorem yT (A:Mx)(k:Nat):fO A k (A k)=A:=by
 funext i j;simp only[fO];split
 .rename_i h;rw[h]
 .rfl
theorem qK (A:Mx)(k j:Nat)(u:Nat->Int):del (fO A k u) k j=del A k j:=by
 funext r c;simp only[del];rw[jD _ _ _ (WQ k r)]
theorem Ad (A:Mx)(j:Nat)(u:Nat->Int)(h:i≠k):del (fO A k u) i j=fO (del A i j) (low i k) (λc=>u (vM j c)):=by
 funext r c;simp only[del,fO]
 by_cases e:r=low i k
 .rw[aS e,aS ((Ub h).2 e)]
 .rw[aQ e,aQ λe2=>e ((Ub h).1 e2)]
structure Alt (n:Nat)(F:Mx->Int):Prop where
 congr: ∀A B,(∀i j,i<n->j<n->A i j=B i j)->F A=F B
 lin: ∀A k (x:Int) (u v:Nat->Int),k<n->F (fO A k (λj=>x*u j+v j))=x*F (fO A k u)+F (fO A k v)
 alt: ∀A i j,i<n->j<n->i≠j->(∀c,c<n->A i c=A j c)->F A=0
structure Adj (n:Nat)(F:Mx->Int):Prop where
 congr: ∀A B,(∀i j,i<n->j<n->A i j=B i j)->F A=F B
 lin: ∀A k (x:Int) (u v:Nat->Int),k<n->F (fO A k (λj=>x*u j+v j))=x*F (fO A k u)+F (fO A k v)
 adj: ∀A k,k+1<n->(∀c,c<n->A k c=A (k+1) c)->F A=0
def swp (A:Mx)(i j:Nat):Mx:=fO (fO A i (A j)) j (A i)
theorem swp_left (A:Mx)(h:i≠j)(c:Nat):swp A i j i c=A j c:=by rw[swp,jD _ _ _ h,eX]
theorem swp_right (A:Mx)(i j:Nat)(c:Nat):swp A i j j c=A i c:=by rw[swp,eX]
theorem swp_other (A:Mx)(a:k≠i)(h2:k≠j)(c:Nat):swp A i j k c=A k c:=by rw[swp,jD _ _ _ h2,jD _ _ _ a]
theorem EV {F:Mx->Int}(b: ∀A k (x:Int) (u v:Nat->Int),k<n->F (fO A k (λj=>x*u j+v j))=x*F (fO A k u)+F (fO A k v))(hi:i<n)(h:j<n)(a:i≠j)
  (d: ∀A,(∀c,c<n->A i c=A j c)->F A=0) (A:Mx):F (swp A i j)= -F A:=by
 have z: ∀w:Nat->Int,F (fO (fO A i w) j w)=0:=λw=>d _ λc _=>by rw[eX,jD _ _ _ a,eX]
 have f: ∀w (x:Int) (u v:Nat->Int),F (fO (fO A i w) j (λc=>x*u c+v c))=x*F (fO (fO A i w) j u)+F (fO (fO A i w) j v):=λw x u v=>b _ _ _ _ _ h
 have l: ∀w (x:Int) (u v:Nat->Int),F (fO (fO A i (λc=>x*u c+v c)) j w)=x*F (fO (fO A i u) j w)+F (fO (fO A i v) j w):=λw x u v=>by
  rw[Hc _ _ _ a,Hc _ _ _ a,Hc _ _ _ a];exact b _ _ _ _ _ hi
 have e:=z (λc=>1*A i c+A j c)
 rw[l,f,f,z,z] at e
 have e2:fO (fO A i (A i)) j (A j)=A:=by rw[yT,yT]
 rw[e2] at e
 rw[swp]
 omega
theorem Adj.full {F:Mx->Int}(a:Adj n F):Alt n F:=by
 have b: ∀d A i,i+d+1<n->(∀c,c<n->A i c=A (i+d+1) c)->F A=0:=by
  intro d
  induction d with
  |zero=>intro A i h e;exact a.adj A i h e
  |succ d ih=>
   intro A i h e;have s:=EV a.lin (i:=i+d+1) (j:=i+(d+1)+1) om h om (λB o=>a.adj B (i+d+1) om o) A;rw[ih (swp A (i+d+1) (i+(d+1)+1)) i om λc l=>by rw[swp_left _ om,swp_other _ om om];exact e c l] at s;omega
 refine⟨a.congr,a.lin,λA i j hi m f e=>?_⟩;rcases Nat.lt_or_gt_of_ne f with h|h
 .obtain⟨d,rfl⟩: ∃d,j=i+d+1:=⟨j-i- 1,om⟩
  exact b d A i m e
 .obtain⟨d,rfl⟩: ∃d,i=j+d+1:=⟨i-j- 1,om⟩
  exact b d A j hi λc l=>(e c l).symm
theorem Alt.swap {F:Mx->Int}(a:Alt n F)(hi:i<n)(c:j<n)(b:i≠j)(A:Mx):F (swp A i j)= -F A:=
 EV a.lin hi c b (λB d=>a.alt B i j hi c b d) A
theorem Alt.Yx {F:Mx->Int}(a:Alt n F)(A:Mx)(b:k<n):F (fO A k (λ_=>0))=0:=by
 have:=a.lin A k 1 (λ_=>0) (λ_=>0) b;simp only[Int.mul_zero,Int.add_zero] at this;omega
theorem Alt.sum {F:Mx->Int}(a:Alt n F)(A:Mx)(b:k<n)(m:Nat)(x:Nat->Int)(u:Nat->Nat->Int):F (fO A k (λc=>sm m (λj=>x j*u j c)))=sm m (λj=>x j*F (fO A k (u j))):=by
 induction m with
 |zero=>exact a.Yx A b
 |succ m ih=>
  have:=a.lin A k (x m) (u m) (λc=>sm m (λj=>x j*u j c)) b;rw[bQ,<-ih]
  have e:(λc=>sm (m+1) (λj=>x j*u j c))=λc=>x m*u m c+sm m (λj=>x j*u j c):=by
   funext c;rw[bQ,Int.add_comm]
  rw[e,this,Int.add_comm]
theorem Alt.Ti {F:Mx->Int}(a:Alt n F)(A:Mx)(hi:i<n)(d:k<n)(b:i≠k)(x:Int):F (fO A k (λc=>x*A i c+A k c))=F A:=by
 rw[a.lin _ _ _ _ _ d,yT,a.alt (fO A k (A i)) i k hi d b λc _=>by rw[eX,jD _ _ _ b],Int.mul_zero,Int.zero_add]
theorem Alt.ZI {F:Mx->Int}(a:Alt n F)(A:Mx)(b:k<n)(x:Int)(u:Nat->Int):F (fO A k (λc=>x*u c))=x*F (fO A k u):=by
 have:=a.lin A k x u (λ_=>0) b;simp only[Int.add_zero] at this;rw[this,a.Yx A b,Int.add_zero]
def iE:Nat->Mx->Int
 |0,_=>1
 |n+1,A=>sm (n+1) (λi=>Lx i*A i 0*iE n (del A i 0))
def Zu (j n:Nat)(A:Mx):Int:=sm (n+1) (λi=>Lx (i+j)*A i j*iE n (del A i j))
theorem Ej (n:Nat)(A:Mx):iE (n+1) A=Zu 0 n A:=rfl
theorem aaX {a b:Nat}(o:a<n)(m:b<n)(q:a≠b){f:Nat->Int}(h: ∀k,k<n->k≠a->k≠b->f k=0):sm n f=f a+f b:=by
 have e:sm n f=sm n (λk=>(if k=a then f k else 0)+(if k=b then f k else 0)):=aU λk l=>by
  by_cases c:k=a
  .rw[aS c,aQ om,Int.add_zero]
  .by_cases d:k=b
   .rw[aQ c,aS d,Int.zero_add]
   .rw[aQ c,aQ d,h k l c d];rfl
 rw[e,tH,nE o,nE m]
theorem FE (s:j<n+1)(a:Alt n (iE n)):Adj (n+1) (Zu j n):=by
 refine⟨λA B h=>aU λi hi=>?_,λA k x u v m=>?_,λA k m h=>?_⟩
 .rw[h i j hi s,a.congr (del A i j) (del B i j) λr c q d=>h _ _ (rQ q) (rQ d)]
 .simp only[Zu]
  rw[<-fV,<-tH];refine aU λi hi=>?_
  by_cases e:i=k
  .subst e
   rw[eX,eX,eX,qK,qK,qK];grind
  .rw[jD _ _ _ e,jD _ _ _ e,jD _ _ _ e,Ad _ _ _ e,Ad _ _ _ e,Ad _ _ _ e,a.lin _ _ _ _ _ (Ld m hi e)]
   grind
 .simp only[Zu]
  rw[aaX (a:=k) (b:=k+1) om om om λi hi o f=>?_]
  .have e:iE n (del A k j)=iE n (del A (k+1) j):=a.congr _ _ λr c q d=>by
    simp only[del]
    by_cases l:r=k
    .subst l
     rw[show vM r r=r+1 by unfold vM;rw[aQ om],show vM (r+1) r=r by unfold vM;rw[aS om]];exact (h _ (rQ d)).symm
    .rw[show vM k r=vM (k+1) r by unfold vM;split<;>split<;>omega]
   rw[e,<-h j s,show k+1+j=k+j+1 by omega,yD];grind
  .rw[a.alt (del A i j) (low i k) (low i (k+1)) (Ld om hi o) (Ld m hi f) (QP o f om) λc d=>?_,Int.mul_zero]
   simp only[del];rw[Ek o,Ek f];exact h _ (rQ d)
theorem kP: ∀n,Alt n (iE n)
 |0=>⟨λ_ _ _=>rfl,λ_ _ _ _ _ h=>absurd h (Nat.not_lt_zero _),λ_ _ _ h=>absurd h (Nat.not_lt_zero _)⟩
 |n+1=>(FE (j:=0) om (kP n)).full
theorem afA (a:j<n+1):Alt (n+1) (Zu j n):=(FE a (kP n)).full
def wC:Mx:=λi j=>if i=j then 1 else 0
theorem VZ (j:Nat):del wC j j=wC:=by
 funext r c;simp only[del,wC]
 by_cases e:r=c
 .rw[aS e,aS (by rw[e])]
 .rw[aQ e,aQ λh=>e (afN h)]
theorem Ag: ∀n,iE n wC=1
 |0=>rfl
 |n+1=>by
  rw[Ej,Zu,iP (t:=0) om λk _ a=>by simp only[wC];rw[aQ a];simp,VZ,Ag n]
  rfl
theorem aiL (b:j<n+1):Zu j n wC=1:=by
 rw[Zu,iP (t:=j) b λk _ a=>by simp only[wC];rw[aQ a];simp,VZ,Ag n,Ip];simp [wC]
theorem Wj {s:Nat->Nat}(f: ∀i,i<n->s i<n)(hi: ∀i j,i<n->j<n->s i=s j->i=j){m:Nat}(d:m<n): ∃i,i<n/\s i=m:=by
 refine zL λb=>?_
 have one: ∀v k,k<=n->sm k (λi=>if s i=v then (1:Int) else 0)<=1:=by
  intro v k
  induction k with
  |zero=>intro _;rw[oZ];omega
  |succ k ih=>
   intro h;rw[bQ]
   by_cases e:s k=v
   .rw[aS e,fI λi a=>aQ λe2=>by have:=hi i k om om (by rw[e2,e]);omega]
    omega
   .rw[aQ e];have:=ih om;omega
 have c:sm n (λv=>sm n (λi=>if s i=v then (1:Int) else 0))=sm n (λ_=>1):=by
  rw[mI];exact aU λi hi=>QR (f i hi) (λ_=>1)
 have le:sm n (λv=>sm n (λi=>if s i=v then (1:Int) else 0))<=sm n (λv=>1-if v=m then 1 else 0):=SS λv _=>by
  by_cases e:v=m
  .subst e
   rw[aS rfl,fI λi a=>aQ λe2=>b ⟨i,a,e2⟩];omega
  .rw[aQ e];have:=one v n (dN _);omega
 rw[c,xS,nE d (λ_=>1)] at le;omega
theorem Alt.perm {F:Mx->Int}(a:Alt n F)(y:F wC=0): ∀d m,m+d=n-> ∀A (s:Nat->Nat),(∀i,i<n->s i<n)->(∀i c,i<n->c<n->A i c=if c=s i then 1 else 0)->(∀i,i<m->s i=i)->F A=0:=by
 intro d
 induction d with
 |zero=>
  intro m z A s q f b;rw[<-y];refine a.congr _ _ λi j hi l=>?_
  rw[f i j hi l,b i om];simp only[wC]
  by_cases e:i=j
  .rw[aS e,aS e.symm]
  .rw[aQ e,aQ λh=>e h.symm]
 |succ d ih=>
  intro m z A s q f b
  by_cases l: ∃j,m<=j/\j<n/\s j=m
  .have⟨j,x,t,w⟩:=l
   by_cases e:j=m
   .subst e
    exact ih (j+1) om A s q f λi hi=>by
     by_cases e:i=j
     .rw[e,w]
     .exact b i om
   .have sw:=a.swap (i:=m) (j:=j) om t om A
    rw[ih (m+1) om (swp A m j) (λi=>if i=m then m else if i=j then s m else s i) (λi hi=>by
     split
     .omega
     .split
      .exact q m om
      .exact q i hi) (λi c hi o=>by
     by_cases e1:i=m
     .subst e1
      rw[swp_left _ om,aS rfl,f j c t o,w]
     .rw[aQ e1]
      by_cases e2:i=j
      .subst e2
       rw[swp_right,aS rfl,f m c om o]
      .rw[swp_other _ e1 e2,aQ e2,f i c hi o]) (λi hi=>by
     by_cases e1:i=m
     .rw[aS e1,e1]
     .rw[aQ e1,aQ om];exact b i om)] at sw
    omega
  .refine zL λB=>l ?_
   obtain⟨i,x,t⟩:=Wj q (λi j hi l e=>zL λv=>B (a.alt A i j hi l v λc o=>by rw[f i c hi o,f j c l o,e])) (show m<n by omega);exact⟨i,Nat.le_of_not_lt λu=>by have:=b i u;omega,x,t⟩
theorem Alt.alQ {F:Mx->Int}(a:Alt n F)(l:F wC=0): ∀k,k<=n-> ∀A,(∀i,k<=i->i<n-> ∃s,s<n/\ ∀c,c<n->A i c=if c=s then 1 else 0)->F A=0:=by
 intro k
 induction k with
 |zero=>
  intro _ A h;exact a.perm l n 0 om A (λi=>if hi:i<n then (h i (fY _) hi).choose else 0) (λi hi=>by rw[dif_pos hi];exact (h i (fY _) hi).choose_spec.1) (λi c hi b=>by rw[dif_pos hi];exact (h i (fY _) hi).choose_spec.2 c b) λi hi=>absurd hi (Nat.not_lt_zero i)
 |succ k ih=>
  intro t A h
  have e:F A=F (fO A k (λc=>sm n (λj=>A k j*(if c=j then 1 else 0)))):=a.congr _ _ λi c hi b=>by
   by_cases e:i=k
   .subst e
    rw[eX,iP b λj _ d=>by rw[aQ (Ne.symm d),Int.mul_zero],aS rfl,Int.mul_one]
   .rw[jD _ _ _ e]
  rw[e,a.sum A om n (A k) (λj c=>if c=j then 1 else 0)];refine fI λj q=>?_
  rw[ih om _ λi u m=>?_,Int.mul_zero]
  by_cases e:i=k
  .subst e
   exact⟨j,q,λc _=>by rw[eX]⟩
  .obtain⟨s,o,b⟩:=h i om m
   exact⟨s,o,λc f=>by rw[jD _ _ _ e];exact b c f⟩
theorem Alt.uniq {F:Mx->Int}(a:Alt n F)(A:Mx):F A=iE n A*F wC:=by
 have d:=kP n
 have z:Alt n (λA=>F A-iE n A*F wC):=by
  refine⟨λA B h=>by rw[a.congr A B h,d.congr A B h],λA k x u v c=>?_,λA i j hi f b h=>?_⟩
  .rw[a.lin _ _ _ _ _ c,d.lin _ _ _ _ _ c]
   grind
  .rw[a.alt A i j hi f b h,d.alt A i j hi f b h];simp
 have:=z.alQ (by rw[Ag];omega) n (dN _) A λi m l=>om
 omega
theorem zM (a:j<n+1)(A:Mx):iE (n+1) A=Zu j n A:=by
 rw[(afA a).uniq A,aiL a,Int.mul_one]
end
def mulM (n:Nat)(A B:Mx):Mx:=λi j=>sm n (λk=>A i k*B k j)
def Sv (A:Mx):Mx:=λi j=>A j i
theorem fK {n:Nat}{A B:Mx}(h: ∀i j,i<n->j<n->A i j=B i j):iE n A=iE n B:=(kP n).congr A B h
theorem Kv (n:Nat)(A B:Mx)(k:Nat)(u:Nat->Int):mulM n (fO A k u) B=fO (mulM n A B) k (λj=>sm n (λt=>u t*B t j)):=by
 funext i j;simp only[mulM,fO]
 by_cases e:i=k
 .simp only[aS e]
 .simp only[aQ e]
theorem HK (n:Nat)(A B:Mx):iE n (mulM n A B)=iE n A*iE n B:=by
 have d:=kP n
 have a:Alt n (λA=>iE n (mulM n A B)):=by
  refine⟨λA C h=>d.congr _ _ λi j hi l=>aU λk f=>by rw[h i k hi f],λA k x u v f=>?_,λA i j hi l b h=>d.alt _ i j hi l b λc _=>aU λk f=>by rw[h k f]⟩;rw[Kv,Kv,Kv,<-d.lin _ _ _ _ _ f];congr 2;funext j;rw[<-fV,<-tH];exact aU λt _=>by grind
 have e:=a.uniq A;rw[e];congr 1
 exact fK λi j hi l=>by
  simp only[mulM,wC];rw[iP (t:=i) hi λk _ b=>by rw[aQ λh=>b h.symm,Int.zero_mul],aS rfl,Int.one_mul]
theorem aeI (A:Mx):iE 2 A=A 0 0*A 1 1-A 1 0*A 0 1:=by
 simp [iE,sm,Lx,del,vM];grind
theorem GK: ∀n (A:Mx) a b,a<n->b<n->a≠b->(∀i,i<n->A i a=A i b)->iE n A=0
 |0,_,_,_,h,_,_,_=>absurd h (Nat.not_lt_zero _)
 |1,_,a,b,ha,hb,hne,_=>om
 |2,A,a,b,ha,hb,hne,h=>by
  have k:=h 0 om;have c:=h 1 om;rw[aeI];have:a=0/\b=1\/a=1/\b=0:=om
  rcases this with ⟨rfl,rfl⟩|⟨rfl,rfl⟩
  .rw[k,c];grind
  .rw[k,c];grind
 |n+3,A,a,b,ha,hb,hne,h=>by
  obtain⟨j,d,c,f⟩: ∃j,j<n+3/\j≠a/\j≠b:=by
   by_cases e0:a≠0/\b≠0
   .exact⟨0,om,om,om⟩
   .by_cases e1:a≠1/\b≠1
    .exact⟨1,om,om,om⟩
    .exact⟨2,om,om,om⟩
  rw[zM d A,Zu];refine fI λi hi=>?_
  rw[GK (n+2) (del A i j) (low j a) (low j b) (Ld ha d c) (Ld hb d f) (QP c f hne) λr l=>?_,Int.mul_zero];simp only[del];rw[Ek c,Ek f];exact h _ (rQ l)
theorem ajF: ∀n,Alt n (λA=>iE n (Sv A))
 |0=>⟨λ_ _ _=>rfl,λ_ _ _ _ _ h=>absurd h (Nat.not_lt_zero _),λ_ _ _ h=>absurd h (Nat.not_lt_zero _)⟩
 |n+1=>by
  refine⟨λA B h=>fK λi j hi d=>h j i d hi,λA k x u v b=>?_,λA i j hi d a h=>GK (n+1) _ i j hi d a λr f=>h r f⟩;rw[zM b,zM b,zM b,Zu,Zu,Zu,<-fV,<-tH];refine aU λi hi=>?_
  have e: ∀w:Nat->Int,del (Sv (fO A k w)) i k=del (Sv A) i k:=λw=>by
   funext r c;simp only[del,Sv];rw[jD _ _ _ (WQ k c)]
  rw[e,e,e];simp only[Sv,eX];grind
theorem Ba (n:Nat)(A:Mx):iE n (Sv A)=iE n A:=by
 have:=(ajF n).uniq A;rw[this]
 have e:Sv wC=wC:=by
  funext i j;simp only[Sv,wC]
  by_cases h:i=j
  .rw[aS h,aS h.symm]
  .rw[aQ h,aQ λe=>h e.symm]
 rw[e,Ag,Int.mul_one]
theorem Ve {n i:Nat}(hi:i<n+1)(A:Mx):iE (n+1) A=sm (n+1) (λj=>Lx (i+j)*A i j*iE n (del A i j)):=by
 rw[<-Ba,zM hi,Zu];refine aU λj _=>?_
 rw[Nat.add_comm j i,<-Ba n (del A i j)]
 rfl
def Ic (n:Nat)(A:Mx):Mx:=λi j=>Lx (i+j)*iE n (del A j i)
theorem Eb {n:Nat}(A:Mx){i k:Nat}(hi:i<n+1)(a:k<n+1):mulM (n+1) A (Ic n A) i k=if i=k then iE (n+1) A else 0:=by
 by_cases e:i=k
 .subst e
  rw[aS rfl,Ve hi]
  exact aU λj _=>by
   simp only[Ic];rw[Nat.add_comm j i];grind
 .rw[aQ e,<-(kP (n+1)).alt (fO A k (A i)) i k hi a e λc _=>by rw[eX,jD _ _ _ e],Ve a]
  exact aU λj _=>by
   simp only[Ic];rw[Nat.add_comm j k,eX,qK];grind
theorem dM {p:Int}:{n:Nat}->{f g:Nat->Int}->(∀k,k<n->f k%p=g k%p)->sm n f%p=sm n g%p
 |0,_,_,_=>rfl
 |n+1,f,g,h=>by
  rw[bQ,bQ,Int.add_emod,dM λk a=>h k om,h n om,<-Int.add_emod]
theorem mul_mod {p a b c d:Int}(h:a%p=b%p)(k:c%p=d%p):a*c%p=b*d%p:=by
 rw[Int.mul_emod,h,k,<-Int.mul_emod]
theorem Dk {p:Int}:{n:Nat}->{A B:Mx}->(∀i j,i<n->j<n->A i j%p=B i j%p)->iE n A%p=iE n B%p
 |0,_,_,_=>rfl
 |n+1,A,B,h=>by
  rw[Ej,Ej];exact dM λi hi=>mul_mod (mul_mod rfl (h i 0 hi om)) (Dk λr c b a=>h _ _ (rQ b) (rQ a))
theorem Jn (n:Nat)(A B C:Mx)(i j:Nat):mulM n (mulM n A B) C i j=mulM n A (mulM n B C) i j:=by
 simp only[mulM];have e1: ∀k,k<n->sm n (λt=>A i t*B t k)*C k j=sm n (λt=>A i t*B t k*C k j):=λk _=>(mY ..).symm
 have e2: ∀t,t<n->A i t*sm n (λk=>B t k*C k j)=sm n (λk=>A i t*B t k*C k j):=λt _=>by
  rw[<-fV];exact aU λk _=>by grind
 rw[aU e1,aU e2,mI]
theorem zP (p a:Int):a%p%p=a%p:=Int.emod_emod_of_dvd _ (Int.dvd_refl p)
theorem Ai {p a b c d:Int}(h:a%p=b%p)(k:c%p=d%p):(a+c)%p=(b+d)%p:=by
 rw[Int.add_emod,h,k,<-Int.add_emod]
theorem xY {p a b c d:Int}(h:a%p=b%p)(k:c%p=d%p):(a-c)%p=(b-d)%p:=by
 rw[Int.sub_emod,h,k,<-Int.sub_emod]
def dQ (p:Int)(W m:Nat)(V:Nat->Nat->Int)(v:Nat->Int):Prop:= ∃c:Nat->Int,∀j,j<W->v j%p=sm m (λi=>c i*V i j)%p
section
variable {p:Int} {W m m':Nat} {V V':Nat->Nat->Int} {v w:Nat->Int}
theorem dQ.congr (h:dQ p W m V v)(e: ∀j,j<W->w j%p=v j%p):dQ p W m V w:=by
 have⟨c,b⟩:=h;exact⟨c,λj a=>(e j a).trans (b j a)⟩
theorem dQ.row {i:Nat}(hi:i<m):dQ p W m V (V i):=
 ⟨λk=>if k=i then 1 else 0,λj _=>by rw[iP (t:=i) hi λk _ a=>by simp only[aQ a,Int.zero_mul]];simp only[if_true,Int.one_mul]⟩
theorem dQ.zero:dQ p W m V (λ_=>0):=⟨λ_=>0,λj _=>by rw[fI λk _=>Int.zero_mul _]⟩
theorem dQ.add (h:dQ p W m V v)(k:dQ p W m V w):dQ p W m V (λj=>v j+w j):=by
 have⟨c,f⟩:=h;have⟨d,b⟩:=k;refine⟨λi=>c i+d i,λj a=>?_⟩;rw[Ai (f j a) (b j a),<-tH];exact congrArg (· %p) (aU λi _=>by rw[Int.add_mul])
theorem dQ.smul (x:Int)(h:dQ p W m V v):dQ p W m V (λj=>x*v j):=by
 have⟨c,b⟩:=h;refine⟨λi=>x*c i,λj a=>?_⟩;rw[mul_mod (rfl:x%p=x%p) (b j a),<-fV];exact congrArg (· %p) (aU λi _=>by rw[Int.mul_assoc])
theorem dQ.sum {r:Nat}{U:Nat->Nat->Int}(h: ∀k,k<r->dQ p W m V (U k))(d:Nat->Int):dQ p W m V (λj=>sm r (λk=>d k*U k j)):=by
 induction r with
 |zero=>exact dQ.zero
 |succ r ih=>exact (ih λk a=>h k om).add ((h r om).smul (d r))
theorem dQ.trans (h:dQ p W m V v)(k: ∀i,i<m->dQ p W m' V' (V i)):dQ p W m' V' v:=by
 have⟨c,a⟩:=h;exact (dQ.sum k c).congr a
theorem dQ.more (h:dQ p W m V v)(a:m<=m'):dQ p W m' V v:=h.trans λ_ hi=>dQ.row om
theorem dQ.alN (h:dQ p W m V v){n:Nat}(d:n<=W):dQ p n m V v:=by
 have⟨c,a⟩:=h;exact⟨c,λj b=>a j om⟩
theorem dQ.rows (h:dQ p W m V v)(e: ∀i j,i<m->j<W->V i j%p=V' i j%p):dQ p W m V' v:=by
 have⟨c,b⟩:=h;exact⟨c,λj a=>(b j a).trans (dM λi hi=>mul_mod rfl (e i j hi a))⟩
end
structure Re (p:Int)(n W:Nat)(S:Nat->Bool)(f:Nat->Nat->Int):Prop where
 rng: ∀c j,c<n->S c=true->j<W->0<=f c j/\f c j<p
 one: ∀c,c<n->S c=true->f c c=1
 zer: ∀c d,c<n->d<n->S c=true->S d=true->d≠c->f c d=0
 lead: ∀c j,c<n->S c=true->j<c->f c j=0
def gf (S:Nat->Bool)(f:Nat->Nat->Int):Nat->Nat->Int:=λc j=>if S c then f c j else 0
theorem kB {S:Nat->Bool}{f:Nat->Nat->Int}{c:Nat}(h:S c=true)(j:Nat):gf S f c j=f c j:=by simp only[gf,h,if_true]
theorem oJ {S:Nat->Bool}{f:Nat->Nat->Int}{c:Nat}(h:S c=false)(j:Nat):gf S f c j=0:=by simp [gf,h]
section
variable {p:Int} {n W:Nat} {S S':Nat->Bool} {f f':Nat->Nat->Int}
theorem XC (r:Re p n W S f){c:Nat}(b:c<n)(a:S c=true)(d:Nat->Int):sm n (λe=>d e*gf S f e c)=d c:=by
 rw[iP (t:=c) b λe i h=>?_,kB a,r.one c b a,Int.mul_one]
 cases hse:S e with
 |true=>rw[kB hse,r.zer e c i b hse a (Ne.symm h),Int.mul_zero]
 |false=>rw[oJ hse,Int.mul_zero]
theorem Re.read (r:Re p n W S f){v d:Nat->Int}(h: ∀j,j<n->v j%p=sm n (λc=>d c*gf S f c j)%p){j:Nat}(b:j<n):v j%p=sm n (λc=>v c*gf S f c j)%p:=by
 rw[h j b];refine dM λc a=>?_
 cases hs:S c with
 |true=>
  refine mul_mod ?_ rfl;rw[h c a,XC r a hs]
 |false=>rw[oJ hs,Int.mul_zero,Int.mul_zero]
theorem Re.sub (k:1<p)(r:Re p n W S f)(r':Re p n W S' f')(h: ∀c,c<n->S c=true->dQ p n n (gf S' f') (f c)){c:Nat}(b:c<n)(i:S c=true):S' c=true:=by
 cases hs':S' c with
 |true=>rfl
 |false=>
  exfalso;obtain⟨d,j⟩:=h c b i;have e:=r'.read j b;rw[r.one c b i,fI λa l=>?_] at e
  .rw[Int.zero_emod,Int.emod_eq_of_lt om k] at e
   omega
  cases hsa:S' a with
  |false=>rw[oJ hsa,Int.mul_zero]
  |true=>
   by_cases q:a<c
   .rw[r.lead c a b i q,Int.zero_mul]
   .by_cases o:a=c
    .rw[o,hs'] at hsa;cases hsa
    .rw[kB hsa,r'.lead a c l hsa om,Int.mul_zero]
theorem Re.uniq (o:1<p)(r:Re p n n S f)(r':Re p n n S' f')(h: ∀c,c<n->S c=true->dQ p n n (gf S' f') (f c))(h': ∀c,c<n->S' c=true->dQ p n n (gf S f) (f' c)):
  (∀c,c<n->S c=S' c)/\ ∀c j,c<n->S c=true->j<n->f c j=f' c j:=by
 have e: ∀c,c<n->S c=S' c:=λc b=>by
  cases i:S c with
  |true=>rw[Re.sub o r r' h b i]
  |false=>
   cases hs':S' c with
   |false=>rfl
   |true=>rw[Re.sub o r' r h' b hs'] at i;cases i
 refine⟨e,λc j b i k=>?_⟩
 obtain⟨d,y⟩:=h c b i
 have q:=r'.read y k
 rw[iP (t:=c) b λa u l=>?_,r.one c b i,Int.one_mul,kB (by rw[<-e c b];exact i)] at q
 .have s:=r.rng c j b i k
  have x:=r'.rng c j b (by rw[<-e c b];exact i) k
  rwa [Int.emod_eq_of_lt s.1 s.2,Int.emod_eq_of_lt x.1 x.2] at q
 cases hsa:S' a with
 |false=>rw[oJ hsa,Int.mul_zero]
 |true=>rw[r.zer c a b u i (by rw[e a u];exact hsa) l,Int.zero_mul]
end
def xU (n:Nat)(S:Nat->Bool):Nat:=((List.range n).filter S).length
theorem nO (n:Nat)(S:Nat->Bool):xU (n+1) S=xU n S+(if S n then 1 else 0):=by
 simp only[xU,List.range_succ,List.filter_append,eE];congr 1;cases h:S n<;>simp [List.filter,h]
theorem Gv (n:Nat)(S:Nat->Bool):xU n S<=n:=by
 rw[xU];exact kQ (List.length_filter_le _ _) (by rw[gT];omega)
theorem JK {n:Nat}{S S':Nat->Bool}(h: ∀c,c<n->S c=S' c):xU n S=xU n S':=by
 induction n with
 |zero=>rfl
 |succ n ih=>rw[nO,nO,ih λc a=>h c om,h n om]
theorem TA (n:Nat):xU n (λ_=>false)=0:=by simp [xU]
theorem afH {n:Nat}{S:Nat->Bool}{a:Nat}(h:S a=false):xU n (λc=>if c=a then true else S c)=xU n S+(if a<n then 1 else 0):=by
 induction n with
 |zero=>rfl
 |succ n ih=>
  rw[nO,nO,ih]
  by_cases e:n=a
  .subst e
   simp [h]
  .simp only[aQ e]
   have:(a<n+1)↔a<n:=om
   simp only[this];omega
theorem agN {n:Nat}{S S':Nat->Bool}(h: ∀c,c<n->S c=true->S' c=true):xU n S<=xU n S'/\(xU n S=xU n S'-> ∀c,c<n->S c=S' c):=by
 induction n with
 |zero=>exact⟨dN _,λ_ c a=>absurd a (Nat.not_lt_zero c)⟩
 |succ n ih=>
  obtain⟨j,d⟩:=ih λc a=>h c om
  rw[nO,nO];have i:=h n om
  cases hs:S n with
  |true=>
   rw[i hs];refine⟨siO,λe c a=>?_⟩
   by_cases b:c=n
   .rw[b,hs,i hs]
   .exact d (by simpa using e) c om
  |false=>
   cases hs':S' n with
   |true=>exact⟨siO,λe=>by simp at e;omega⟩
   |false=>
    refine⟨by simpa using j,λe c a=>?_⟩
    by_cases b:c=n
    .rw[b,hs,hs']
    .exact d (by simpa using e) c om
section
variable {n:Nat} {c:Nat->Int} {A:Mx}
def rZ (n:Nat)(c:Nat->Int)(t:Int):Int:=sm n (λk=>c k*t^k)
theorem Hb (n:Nat)(c:Nat->Int)(t:Int):rZ (n+1) c t=c 0+t*rZ n (λk=>c (k+1)) t:=by
 rw[rZ,Dy,rZ,<-fV,Int.pow_zero,Int.mul_one];congr 1;exact aU λk _=>by rw[Int.pow_succ];grind
theorem Ww:{n:Nat}->{c:Nat->Int}->(∀t:Int,1<=t->rZ n c t=0)-> ∀k,k<n->c k=0
 |0,_,_,k,hk=>absurd hk (Nat.not_lt_zero k)
 |n+1,c,h,k,hk=>by
  have f:c 0=0:=by
   have e:=h (ab (c 0)+1) (by have:=Qr (c 0);omega);rw[Hb] at e;generalize rZ n (λk=>c (k+1)) (ab (c 0)+1)=q at e;have b:=Qr (c 0);have m:=(amD (x:=c 0) (b:=ab (c 0))).1 (Int.le_refl _);generalize ab (c 0)=a at*
   by_cases i:1<=q
   .have:=Int.mul_le_mul_of_nonneg_left i (show 0<=a+1 by omega);omega
   .by_cases d:q<= -1
    .have:=Int.mul_le_mul_of_nonneg_left d (show 0<=a+1 by omega);omega
    .have:q=0:=om
     subst this;omega
  have j: ∀t:Int,1<=t->rZ n (λk=>c (k+1)) t=0:=λt l=>by
   have e:=h t l;rw[Hb,f,Int.zero_add] at e;rcases Int.mul_eq_zero.1 e with e|e
   .omega
   .exact e
  cases k with
  |zero=>exact f
  |succ k=>exact Ww j k om
theorem HA {d:Nat->Int}(h: ∀t:Int,1<=t->rZ n c t=rZ n d t)(k:Nat)(a:k<n):c k=d k:=by
 have:=Ww (n:=n) (c:=λk=>c k-d k) (λt b=>by
  have e:=h t b;simp only[rZ] at e |-;have e2:sm n (λk=>(c k-d k)*t^k)=sm n (λk=>c k*t^k-d k*t^k):=aU λk _=>by grind
  rw[e2,xS];omega) k a
 omega
theorem KM {d:Nat->Int}(h: ∀k,k<n->c k=d k)(t:Int):rZ n c t=rZ n d t:=aU λk a=>by rw[h k a]
theorem FH (n:Nat)(c d:Nat->Int)(t:Int):rZ n (λk=>c k+d k) t=rZ n c t+rZ n d t:=by
 simp only[rZ];rw[<-tH];exact aU λk _=>by grind
theorem FL (n:Nat)(c d:Nat->Int)(t:Int):rZ n (λk=>c k-d k) t=rZ n c t-rZ n d t:=by
 simp only[rZ];rw[<-xS];exact aU λk _=>by grind
theorem Ce (n:Nat)(x:Int)(c:Nat->Int)(t:Int):rZ n (λk=>x*c k) t=x*rZ n c t:=by
 simp only[rZ];rw[<-fV];exact aU λk _=>by grind
theorem GB (n m:Nat)(c:Nat->Nat->Int)(t:Int):rZ n (λk=>sm m (λi=>c i k)) t=sm m (λi=>rZ n (c i) t):=by
 simp only[rZ];rw[mI];exact aU λk _=>by rw[mY]
def Hx (c:Nat->Int):Nat->Int:=λk=>if k=0 then 0 else c (k- 1)
theorem Sy (n:Nat)(c:Nat->Int)(t:Int):rZ (n+1) (Hx c) t=t*rZ n c t:=by
 rw[Hb];simp only[Hx,if_true];rw[Int.zero_add];congr 1
theorem Dj {m:Nat}(h:n<=m)(d: ∀k,n<=k->k<m->c k=0)(t:Int):rZ m c t=rZ n c t:=
 GS h λk a b=>by rw[d k a b,Int.zero_mul]
def Vl:Nat->Mx->Mx->Nat->Int
 |0,_,_,k=>if k=0 then 1 else 0
 |n+1,X,Y,k=>sm (n+1) (λi=>Lx i*(Y i 0*Vl n (del X i 0) (del Y i 0) k+X i 0*Hx (Vl n (del X i 0) (del Y i 0)) k))
theorem Bx:(n:Nat)->(X Y:Mx)->(k:Nat)->n<k->Vl n X Y k=0
 |0,_,_,k,h=>by rw[Vl,aQ om]
 |n+1,X,Y,k,h=>by
  rw[Vl];refine fI λi _=>?_
  rw[Hx,aQ om,Bx n _ _ k om,Bx n _ _ (k- 1) om];simp
theorem GI:(n:Nat)->(X Y:Mx)->(t:Int)->iE n (λi j=>t*X i j+Y i j)=rZ (n+1) (Vl n X Y) t
 |0,X,Y,t=>by simp [iE,rZ,sm,Vl]
 |n+1,X,Y,t=>by
  rw[Ej,Zu]
  have e: ∀i,i<n+1->Lx (i+0)*(t*X i 0+Y i 0)*iE n (del (λi j=>t*X i j+Y i j) i 0)=rZ (n+2) (λk=>Lx i*(Y i 0*Vl n (del X i 0) (del Y i 0) k+X i 0*Hx (Vl n (del X i 0) (del Y i 0)) k)) t:=λi hi=>by
   have d:iE n (del (λi j=>t*X i j+Y i j) i 0)=_:=GI n (del X i 0) (del Y i 0) t;rw[d,Ce,FH,Ce,Ce,Sy,Dj (n:=n+1) (m:=n+2) om λk b a=>Bx n _ _ k om,Nat.add_zero];grind
  rw[aU e];exact (GB (n+2) (n+1) (λi k=>Lx i*(Y i 0*Vl n (del X i 0) (del Y i 0) k+X i 0*Hx (Vl n (del X i 0) (del Y i 0)) k)) t).symm
theorem GR {p:Int}:{n:Nat}->{X X' Y Y':Mx}->(∀i j,i<n->j<n->X i j%p=X' i j%p)->(∀i j,i<n->j<n->Y i j%p=Y' i j%p)-> ∀k,Vl n X Y k%p=Vl n X' Y' k%p
 |0,_,_,_,_,_,_,_=>rfl
 |n+1,X,X',Y,Y',hX,hY,k=>by
  rw[Vl,Vl];refine dM λi hi=>mul_mod rfl ?_
  have d:=λk=>GR (p:=p) (n:=n) (X:=del X i 0) (X':=del X' i 0) (Y:=del Y i 0) (Y':=del Y' i 0) (λr c a b=>hX _ _ (rQ a) (rQ b)) (λr c a b=>hY _ _ (rQ a) (rQ b)) k
  have e1:=mul_mod (hY i 0 hi om) (d k)
  have e2:X i 0*Hx (Vl n (del X i 0) (del Y i 0)) k%p=X' i 0*Hx (Vl n (del X' i 0) (del Y' i 0)) k%p:=mul_mod (hX i 0 hi om) (by
   simp only[Hx];split
   .rfl
   .exact d (k- 1))
  rw[Int.add_emod,e1,e2,<-Int.add_emod]
def wQ (A:Mx)(t:Int):Mx:=λi j=>(if i=j then t else 0)-A i j
def lT (n:Nat)(A:Mx):Nat->Int:=Vl n wC (λi j=> -A i j)
theorem ZY (A:Mx)(t:Int):wQ A t=λi j=>t*wC i j+ -A i j:=by
 funext i j;simp only[wQ,wC];split
 .rw[Int.mul_one];omega
 .rw[Int.mul_zero];omega
theorem sI (n:Nat)(A:Mx)(t:Int):iE n (wQ A t)=rZ (n+1) (lT n A) t:=by
 rw[ZY,GI];rfl
theorem adD {p:Int}{B:Mx}(h: ∀i j,i<n->j<n->A i j%p=B i j%p)(k:Nat):lT n A k%p=lT n B k%p:=
 GR (λ_ _ _ _=>rfl) (λi j hi a=>by rw[Int.neg_emod_eq_sub_emod,Int.neg_emod_eq_sub_emod,Int.sub_emod,h i j hi a,<-Int.sub_emod]) k
theorem zI {B:Mx}(h: ∀i j,i<n->j<n->A i j=B i j)(k:Nat)(a:k<n+1):lT n A k=lT n B k:=
 HA (n:=n+1) (λt _=>by rw[<-sI,<-sI];exact fK λi j hi b=>by simp only[wQ];rw[h i j hi b]) k a
theorem Mk (h: ∀t:Int,1<=t->iE n (wQ A t)=rZ (n+1) c t)(k:Nat)(a:k<n+1):lT n A k=c k:=
 HA (n:=n+1) (λt b=>by rw[<-sI,h t b]) k a
end
section
variable {p d:Int} {n c i j:Nat} {A W W' R:Mx}
structure Ap (p:Int)(n:Nat)(A:Mx)(c:Nat)(d:Int)(W:Mx):Prop where
 lo: ∀i j,i<n->j<n+n->0<=W i j
 hi: ∀i j,i<n->j<n+n->W i j<p
 rel: ∀i j,i<n->j<n->W i j%p=sm n (λk=>W i (n+k)*A k j)%p
 unit: ∀i j,i<n->j<c->W i j=if i=j then 1 else 0
 dd:d*iE n W%p=iE n A%p
theorem Ap.start (l: ∀i j,i<n->j<n->0<=A i j/\A i j<p)(o:1<p)(b: ∀i j,i<n->j<n->W i j=A i j)(h2: ∀i k,i<n->k<n->W i (n+k)=if i=k then 1 else 0):Ap p n A 0 1 W:=by
 refine⟨λi j hi a=>?_,λi j hi a=>?_,λi j hi a=>?_,λi j _ a=>absurd a (Nat.not_lt_zero j),?_⟩
 .by_cases h:j<n
  .rw[b i j hi h];exact (l i j hi h).1
  .have e:=h2 i (j-n) hi om
   rw[show n+(j-n)=j by omega] at e;rw[e];split<;>omega
 .by_cases h:j<n
  .rw[b i j hi h];exact (l i j hi h).2
  .have e:=h2 i (j-n) hi om
   rw[show n+(j-n)=j by omega] at e;rw[e];split<;>omega
 .rw[b i j hi a,iP (t:=i) hi λk m f=>by rw[h2 i k hi m,aQ λh=>f h.symm,Int.zero_mul],h2 i i hi hi,aS rfl,Int.one_mul]
 .rw[Int.one_mul,fK b]
theorem Tc (A:Mx)(i j k c:Nat):swp A i j k c=if k=j then A i c else if k=i then A j c else A k c:=by
 by_cases a:k=j
 .rw[aS a,a,swp_right]
 .rw[aQ a]
  by_cases b:k=i
  .subst b;rw[aS rfl,swp_left _ om]
  .rw[aQ b,swp_other _ b a]
theorem Ap.swap (e:Ap p n A c d W){k:Nat}(l:k<n)(q:c<k)(m: ∀i j,i<n->j<n+n->W' i j=swp W c k i j):Ap p n A c (-d%p) W':=by
 have row: ∀i,i<n-> ∃h,h<n/\(∀j,j<n+n->W' i j=W h j)/\(∀j,j<c->W h j=if i=j then 1 else 0):=λi hi=>by
  by_cases f:i=k
  .subst f
   refine⟨c,om,λj a=>by rw[m i j hi a,Tc,aS rfl],λj a=>?_⟩;rw[e.unit c j om a,aQ om,aQ om]
  .by_cases b:i=c
   .subst b
    refine⟨k,l,λj a=>by rw[m i j hi a,Tc,aQ f,aS rfl],λj a=>?_⟩;rw[e.unit k j l a,aQ om,aQ om]
   .exact⟨i,hi,λj a=>by rw[m i j hi a,Tc,aQ f,aQ b],λj a=>e.unit i j hi a⟩
 refine⟨λi j hi a=>?_,λi j hi a=>?_,λi j hi a=>?_,λi j hi a=>?_,?_⟩
 .obtain⟨h,f,b,_⟩:=row i hi
  rw[b j a];exact e.lo h j f a
 .obtain⟨h,f,b,_⟩:=row i hi
  rw[b j a];exact e.hi h j f a
 .obtain⟨h,f,b,_⟩:=row i hi
  rw[b j om,aU λk l=>by rw[b (n+k) om]];exact e.rel h j f a
 .obtain⟨h,f,b,r⟩:=row i hi
  by_cases o:j<n+n
  .rw[b j o];exact r j a
  .omega
 .rw[fK (B:=swp W c k) λi j hi a=>m i j hi om,(kP n).swap om l om]
  rw[mul_mod (Int.emod_emod_of_dvd (-d) (Int.dvd_refl p)) (rfl:(-iE n W)%p=(-iE n W)%p),Int.neg_mul_neg,e.dd]
theorem Ap.none (e:Ap p n A c d W)(q:c<n)(h: ∀k,c<=k->k<n->W k c=0):iE n A%p=0:=by
 have z:iE n W=0:=by
  rw[<-Ba];have a:=kP n
  have e1:iE n (Sv W)=iE n (fO (Sv W) c (λr=>sm c (λj=>W j c*Sv W j r))):=fK λi j hi b=>by
   by_cases o:i=c
   .subst o
    rw[eX];simp only[Sv]
    by_cases m:j<i
    .rw[iP (t:=j) m λk f l=>by rw[e.unit j k b f,aQ λh=>l h.symm,Int.mul_zero],e.unit j j b m,aS rfl,Int.mul_one]
    .rw[h j om b,fI λk f=>by rw[e.unit j k b f,aQ om,Int.mul_zero]]
   .rw[jD _ _ _ o]
  rw[e1,a.sum (Sv W) q c (λj=>W j c) (λj r=>Sv W j r)];refine fI λj b=>?_
  rw[a.alt _ j c om q om λr _=>by rw[eX,jD _ _ _ om],Int.mul_zero]
 have:=e.dd;rw[z,Int.mul_zero] at this;rw[<-this];rfl
theorem Ap.one (e:Ap p n A c d W)(r:1<p)(q:c<n){x:Int}(l:x*W c c%p=1)(f: ∀j,j<n+n->W' c j=x*W c j%p)(h2: ∀i j,i<n->i≠c->j<n+n->W' i j=W i j):
  Ap p n A c (d*W c c%p) W'/\W' c c=1:=by
 have o:(0:Int)<p:=om
 refine⟨⟨λi j hi b=>?_,λi j hi b=>?_,λi j hi b=>?_,λi j hi b=>?_,?_⟩,by rw[f c om,l]⟩
 .by_cases h:i=c
  .subst h;rw[f j b];exact Int.emod_nonneg _ om
  .rw[h2 i j hi h b];exact e.lo i j hi b
 .by_cases h:i=c
  .subst h;rw[f j b];exact Int.emod_lt_of_pos _ o
  .rw[h2 i j hi h b];exact e.hi i j hi b
 .by_cases h:i=c
  .subst h
   rw[f j om,Int.emod_emod_of_dvd _ (Int.dvd_refl p),mul_mod rfl (e.rel i j hi b),<-fV]
   refine dM λk m=>?_
   rw[f (n+k) om,mul_mod (Int.emod_emod_of_dvd _ (Int.dvd_refl p)) (rfl:A k j%p=A k j%p),Int.mul_assoc]
  .rw[h2 i j hi h om,e.rel i j hi b]
   refine congrArg (· %p) (aU λk m=>?_)
   rw[h2 i (n+k) hi h om]
 .by_cases h:i=c
  .subst h
   rw[f j om,e.unit i j hi b,aQ om,Int.mul_zero];rfl
  .rw[h2 i j hi h om];exact e.unit i j hi b
 .have a:=kP n
  have e1:iE n W'%p=x*iE n W%p:=by
   have e2:iE n W'%p=iE n (fO W c (λj=>x*W c j))%p:=Dk λi j hi b=>by
    by_cases h:i=c
    .subst h;rw[eX,f j om];exact Int.emod_emod_of_dvd _ (Int.dvd_refl p)
    .rw[jD _ _ _ h,h2 i j hi h om]
   rw[e2,a.ZI W q,yT]
  rw[mul_mod (Int.emod_emod_of_dvd _ (Int.dvd_refl p)) e1,show d*W c c*(x*iE n W)=(x*W c c)*(d*iE n W) by grind,Int.mul_emod,l,Int.one_mul,Int.emod_emod_of_dvd _ (Int.dvd_refl p),e.dd]
theorem Ap.clear (e:Ap p n A c d W)(u:1<p)(s:c<n)(o:W c c=1){k:Nat}(y:k<n)(r:k≠c)(f: ∀j,j<n+n->W' k j=(W k j+(p-W k c)*W c j)%p)(h2: ∀i j,i<n->i≠k->j<n+n->W' i j=W i j):
  Ap p n A c d W'/\W' k c=0:=by
 have t:(0:Int)<p:=om
 have m: ∀a:Int,a%p%p=a%p:=λa=>Int.emod_emod_of_dvd _ (Int.dvd_refl p)
 refine⟨⟨λi j hi b=>?_,λi j hi b=>?_,λi j hi b=>?_,λi j hi b=>?_,?_⟩,?_⟩
 .by_cases h:i=k
  .subst h;rw[f j b];exact Int.emod_nonneg _ om
  .rw[h2 i j hi h b];exact e.lo i j hi b
 .by_cases h:i=k
  .subst h;rw[f j b];exact Int.emod_lt_of_pos _ t
  .rw[h2 i j hi h b];exact e.hi i j hi b
 .by_cases h:i=k
  .subst h
   rw[f j om,m]
   have w:=e.rel i j hi b
   have x:=mul_mod (p:=p) (rfl:(p-W i c)%p=(p-W i c)%p) (e.rel c j s b)
   rw[Int.add_emod,w,x,<-Int.add_emod,<-fV,<-tH]
   refine dM λl v=>?_
   rw[f (n+l) om,mul_mod (m _) (rfl:A l j%p=A l j%p)]
   congr 1
   grind
  .rw[h2 i j hi h om,e.rel i j hi b]
   refine congrArg (· %p) (aU λl v=>?_)
   rw[h2 i (n+l) hi h om]
 .by_cases h:i=k
  .subst h
   have q:(if i=j then (1:Int) else 0)%p=if i=j then 1 else 0:=by
    split
    .exact Int.emod_eq_of_lt om u
    .exact Int.emod_eq_of_lt om t
   rw[f j om,e.unit i j hi b,e.unit c j s b,aQ (show ¬c=j by omega),Int.mul_zero,Int.add_zero,q]
  .rw[h2 i j hi h om];exact e.unit i j hi b
 .have a:=kP n
  have e1:iE n W'%p=iE n W%p:=by
   have e2:iE n W'%p=iE n (fO W k (λj=>(p-W k c)*W c j+W k j))%p:=Dk λi j hi b=>by
    by_cases h:i=k
    .subst h;rw[eX,f j om,m,Int.add_comm]
    .rw[jD _ _ _ h,h2 i j hi h om]
   rw[e2,a.Ti W s y (λh=>r h.symm)]
  rw[mul_mod (rfl:d%p=d%p) e1,e.dd]
 .rw[f c om,o,Int.mul_one,show W k c+(p-W k c)=p by omega,Int.emod_self]
structure Hk (p:Int)(n:Nat)(A R:Mx):Prop where
 lo: ∀i j,i<n->j<n->0<=R i j
 hi: ∀i j,i<n->j<n->R i j<p
 left: ∀i j,i<n->j<n->mulM n R A i j%p=wC i j%p
theorem one_mod (a:1<p):(1:Int)%p=1:=Int.emod_eq_of_lt om a
theorem Hk.iE {p:Int}{n:Nat}{A R:Mx}(e:Hk p n A R):iE n R*iE n A%p=1%p:=by
 rw[<-HK,Dk e.left,Ag]
theorem Hk.unit (e:Hk p n A R)(a:1<p):Ay.iE n A%p≠0:=λh=>by
 have:=e.iE;rw[Int.mul_emod,h,Int.mul_zero,one_mod a,Int.zero_emod] at this;exact absurd this deC
theorem adH (n:Nat)(A:Mx)(b:j<n):mulM n A wC i j=A i j:=by
 simp only[mulM,wC];rw[iP (t:=j) b λk _ a=>by rw[aQ a,Int.mul_zero],aS rfl,Int.mul_one]
theorem FG (n:Nat)(A:Mx)(hi:i<n):mulM n wC A i j=A i j:=by
 simp only[mulM,wC];rw[iP (t:=i) hi λk _ a=>by rw[aQ λh=>a h.symm,Int.zero_mul],aS rfl,Int.one_mul]
theorem Mi {A' B B':Mx}(h: ∀k,k<n->A i k%p=A' i k%p)(h': ∀k,k<n->B k j%p=B' k j%p):mulM n A B i j%p=mulM n A' B' i j%p:=
 dM λk a=>mul_mod (h k a) (h' k a)
theorem zY (h: ∀i j,i<n->j<n->mulM n R A i j%p=wC i j%p)(hi:i<n)(a:j<n):mulM n A R i j%p=wC i j%p:=by
 cases n with
 |zero=>omega
 |succ m=>
  have l:iE (m+1) R*iE (m+1) A%p=1%p:=by rw[<-HK,Dk h,Ag]
  have e1: ∀i j,i<m+1->j<m+1->R i j*iE (m+1) A%p=Ic m A i j%p:=λi j hi a=>by
   have o:mulM (m+1) R (mulM (m+1) A (Ic m A)) i j=R i j*iE (m+1) A:=by
    show sm (m+1) (λk=>R i k*mulM (m+1) A (Ic m A) k j)=_;rw[iP (t:=j) a λk b f=>by rw[Eb A b a,aQ f,Int.mul_zero],Eb A a a,aS rfl]
   rw[<-o,<-Jn,Mi (A':=wC) (B':=Ic m A) (λk b=>h i k hi b) (λ_ _=>rfl),FG _ _ hi]
  have e2:mulM (m+1) A R i j%p=iE (m+1) R*(mulM (m+1) A (Ic m A) i j)%p:=by
   have: ∀k,k<m+1->A i k*R k j%p=iE (m+1) R*(A i k*Ic m A k j)%p:=λk b=>by
    have q:A i k*R k j%p=(A i k*R k j)*(iE (m+1) R*iE (m+1) A)%p:=by
     rw[mul_mod (rfl:A i k*R k j%p=A i k*R k j%p) l,Int.mul_one]
    rw[q,show (A i k*R k j)*(iE (m+1) R*iE (m+1) A)=(iE (m+1) R*A i k)*(R k j*iE (m+1) A) by grind,mul_mod rfl (e1 k j b a)];congr 1;grind
   show sm (m+1) (λk=>A i k*R k j)%p=iE (m+1) R*sm (m+1) (λk=>A i k*Ic m A k j)%p;rw[<-fV];exact dM this
  rw[e2,Eb A hi a];simp only[wC];split
  .exact l
  .rw[Int.mul_zero]
theorem Hk.uniq {b:Mx}(e:Hk p n A R)(l:Hk p n A b)(hi:i<n)(a:j<n):R i j=b i j:=by
 have f:mulM n R (mulM n A b) i j%p=R i j%p:=by
  rw[Mi (A':=R) (B':=wC) (λ_ _=>rfl) (λk h=>zY l.left h a),adH _ _ a]
 rw[<-Jn,Mi (A':=wC) (B':=b) (λk h=>e.left i k hi h) (λ_ _=>rfl),FG _ _ hi] at f;rw[Int.emod_eq_of_lt (e.lo i j hi a) (e.hi i j hi a),Int.emod_eq_of_lt (l.lo i j hi a) (l.hi i j hi a)] at f;exact f.symm
theorem Ap.done (e:Ap p n A n d W):Hk p n A (λi k=>W i (n+k))/\d%p=iE n A%p:=by
 refine⟨⟨λi j hi a=>e.lo i _ hi om,λi j hi a=>e.hi i _ hi om,λi j hi a=>?_⟩,?_⟩
 .show _=(if i=j then (1:Int) else 0)%p
  rw[<-e.unit i j hi a];exact (e.rel i j hi a).symm
 .rw[<-e.dd,fK (B:=wC) λi j hi a=>e.unit i j hi a,Ag,Int.mul_one]
end
section
variable {k l a i:Nat} {S:Nat->Bool} {f:Nat->Nat->Int}
structure wJ (p:Int)(r:Nat)(c:Nat->Nat->Nat->Int)(w co:Nat->Nat->Int):Prop where
 p1:1<p
 pr: ∀a b:Int,a*b%p=0->a%p=0\/b%p=0
 rng: ∀a k,a<r->k<r->0<=w a k/\w a k<p
 one: ∀a,a<r->w a 0=1
 mul: ∀a i j,a<r->i<r->j<r->sm r (λk=>w a k*c i j k)%p=w a i*w a j%p
 d1: ∀a b,a<r->b<r->sm r (λk=>w a k*co k b)%p=if a=b then 1 else 0
def Bl (r:Nat)(co:Nat->Nat->Int)(v:Nat->Int)(a:Nat):Int:=sm r λk=>v k*co k a
def SpA (p:Int)(r:Nat)(co:Nat->Nat->Int)(A:Nat->Bool)(v:Nat->Int):Prop:= ∀a,a<r->A a=false->Bl r co v a%p=0
section
variable {p:Int} {r:Nat} {c:Nat->Nat->Nat->Int} {w co:Nat->Nat->Int} {A B:Nat->Bool}
theorem Em (b:1<p)(P:Prop)[Decidable P]:(if P then (1:Int) else 0)%p=if P then 1 else 0:=by
 split
 .exact Int.emod_eq_of_lt om b
 .exact Int.zero_emod p
theorem wJ.d2 (C:wJ p r c w co)(b:k<r)(m:l<r):sm r (λa=>co k a*w a l)%p=if k=l then 1 else 0:=by
 have h:=zY (p:=p) (n:=r) (A:=co) (R:=w) (λi j hi d=>by
  show sm r (λk=>w i k*co k j)%p=wC i j%p;rw[C.d1 i j hi d]
  exact (Em C.p1 (i=j)).symm) b m
 have h:sm r (λa=>co k a*w a l)%p=wC k l%p:=h;rw[h];exact Em C.p1 (k=l)
theorem zF {v u:Nat->Int}(h: ∀k,k<r->v k%p=u k%p)(a:Nat):Bl r co v a%p=Bl r co u a%p:=dM λk b=>mul_mod (h k b) rfl
theorem aaF (x:Int)(v:Nat->Int)(a:Nat):Bl r co (λk=>x*v k) a=x*Bl r co v a:=by
 unfold Bl;rw[<-fV];exact aU λk _=>Int.mul_assoc ..
theorem FJ (m:Nat)(x:Nat->Int)(V:Nat->Nat->Int)(a:Nat):Bl r co (λk=>sm m λt=>x t*V t k) a=sm m λt=>x t*Bl r co (V t) a:=by
 unfold Bl;rw[aU (g:=λk=>sm m λt=>x t*(V t k*co k a)) λk _=>by rw[<-mY];exact aU λt _=>Int.mul_assoc ..,mI];exact aU λt _=>fV ..
theorem wJ.EJ (C:wJ p r c w co){b:Nat}(d:a<r)(h:b<r):Bl r co (w b) a%p=if b=a then 1 else 0:=C.d1 b a h d
theorem wJ.read (C:wJ p r c w co)(v:Nat->Int)(b:l<r):v l%p=sm r (λa=>Bl r co v a*w a l)%p:=by
 have e:sm r (λa=>Bl r co v a*w a l)=sm r λk=>v k*sm r λa=>co k a*w a l:=by
  rw[aU (g:=λa=>sm r λk=>v k*(co k a*w a l)) λa _=>by unfold Bl;rw[<-mY];exact aU λk _=>Int.mul_assoc ..,mI];exact aU λk _=>fV ..
 rw[e,dM (g:=λk=>if k=l then v k else 0) λk d=>by
  have:=mul_mod (p:=p) (rfl:v k%p=v k%p) ((C.d2 d b).trans (Em C.p1 (k=l)).symm);rw[this];split
  .rw[Int.mul_one]
  .rw[Int.mul_zero],nE b v]
theorem wJ.zero (C:wJ p r c w co){v:Nat->Int}(h: ∀a,a<r->Bl r co v a%p=0)(d:l<r):v l%p=0:=by
 rw[C.read v d,dM (g:=λ_=>0) λa b=>by rw[mul_mod ((h a b).trans (Int.zero_emod p).symm) rfl,Int.zero_mul],wZ,Int.zero_emod]
theorem wJ.act (C:wJ p r c w co){j:Nat}(hi:i<r)(b:j<r)(v:Nat->Int):sm r (λk=>v k*c i j k)%p=sm r (λa=>Bl r co v a*w a i*w a j)%p:=by
 rw[dM (g:=λk=>sm r (λa=>Bl r co v a*w a k)*c i j k) λk d=>mul_mod (C.read v d) rfl];rw[aU (g:=λk=>sm r λa=>Bl r co v a*(w a k*c i j k)) λk _=>by rw[<-mY];exact aU λa _=>Int.mul_assoc ..,mI];refine dM λa h=>?_
 rw[fV,mul_mod rfl (C.mul a i j h hi b),Int.mul_assoc]
theorem wJ.eig (C:wJ p r c w co)(hi:i<r)(x:Int)(v:Nat->Int):(∀j,j<r->sm r (λk=>v k*c i j k)%p=x*v j%p)↔ ∀a,a<r->(w a i-x)%p≠0->Bl r co v a%p=0:=by
 constructor
 .intro h a m n
  have e:Bl r co (λj=>sm r λb=>Bl r co v b*w b i*w b j) a%p=Bl r co (λj=>x*v j) a%p:=zF (λj d=>(C.act hi d v).symm.trans (h j d)) a
  rw[aaF,FJ,dM (g:=λb=>if b=a then Bl r co v b*w b i else 0) λb o=>by
   rw[mul_mod rfl ((C.EJ m o).trans (Em C.p1 (b=a)).symm)];split
   .rw[Int.mul_one]
   .rw[Int.mul_zero],nE m] at e
  have e2:(w a i-x)*Bl r co v a%p=0:=by
   rw[Int.sub_mul,Int.mul_comm (w a i)];exact Int.emod_eq_emod_iff_emod_sub_eq_zero.1 e
  exact (C.pr _ _ e2).resolve_left n
 .intro h j d
  rw[C.act hi d v,dM (g:=λa=>x*(Bl r co v a*w a j)) λa m=>by
   by_cases e:(w a i-x)%p=0
   .have:=Int.emod_eq_emod_iff_emod_sub_eq_zero.2 e
    rw[Int.mul_right_comm,Int.mul_comm x];exact mul_mod rfl this
   .have:=h a m e
    rw[Int.mul_assoc,mul_mod (this.trans (Int.zero_emod p).symm) rfl,Int.zero_mul,Int.mul_left_comm,mul_mod (this.trans (Int.zero_emod p).symm) rfl,Int.zero_mul],fV]
  exact mul_mod rfl (C.read v d).symm
theorem SpA.and (v:Nat->Int):SpA p r co (λa=>A a&&B a) v↔SpA p r co A v/\SpA p r co B v:=by
 constructor
 .exact λh=>⟨λa b e=>h a b (by show (A a&&B a)=false;rw[e];rfl),λa b e=>h a b (by show (A a&&B a)=false;rw[e,Bool.and_false])⟩
 .intro ⟨h,k⟩ a b e
  cases hA:A a with
  |false=>exact h a b hA
  |true=>exact k a b (by have e:(A a&&B a)=false:=e;rw[hA] at e;exact e)
theorem wJ.amV (C:wJ p r c w co)(hi:i<r)(x:Int)(v:Nat->Int):(∀j,j<r->sm r (λk=>v k*c i j k)%p=x*v j%p)↔SpA p r co (λa=>decide ((w a i-x)%p=0)) v:=
 (C.eig hi x v).trans ⟨λh a b e=>h a b (of_decide_eq_false e),λh a b e=>h a b (decide_eq_false e)⟩
theorem wJ.inA (C:wJ p r c w co)(j:a<r)(h:A a=true):SpA p r co A (w a):=λb d e=>by
 rw[C.EJ d j,aQ λe2=>by rw[<-e2,h] at e;cases e]
structure MS (p:Int)(r:Nat)(co:Nat->Nat->Int)(A:Nat->Bool)(S:Nat->Bool)(f:Nat->Nat->Int):Prop where
 re:Re p r r S f
 mem: ∀v,dQ p r r (gf S f) v↔SpA p r co A v
theorem IS {n:Nat}(b:k<n)(d:S k=true):dQ p n n (gf S f) (f k):=(dQ.row (V:=gf S f) b).congr λj _=>by rw[kB d]
theorem MS.one (C:wJ p r c w co)(s:MS p r co A S f)(q:a<r)(y: ∀b,b<r->(A b=true↔b=a)):(∀k,k<r->S k=decide (k=0))/\ ∀j,j<r->f 0 j=w a j:=by
 have v:0<r:=om
 have R:Re p r r (λk=>decide (k=0)) (λ_=>w a):=⟨λk j _ _ o=>C.rng a j q o,λk _ h=>by rw[of_decide_eq_true h];exact C.one a q,λk d _ _ K z n=>absurd ((of_decide_eq_true z).trans (of_decide_eq_true K).symm) n,λk j _ h o=>by have:=of_decide_eq_true h;omega⟩
 have F:dQ p r r (gf S f) (w a):=(s.mem _).2 (C.inA q ((y a q).2 rfl))
 have u:=Re.uniq C.p1 s.re R (λk J G=>by
  have m:=(s.mem _).1 (IS J G);refine⟨λt=>if t=0 then Bl r co (f k) a else 0,λj o=>?_⟩
  rw[C.read _ o,dM (g:=λb=>if b=a then Bl r co (f k) b*w b j else 0) λb x=>by
   split
   .rfl
   .rename_i n
    rw[mul_mod ((m b x (Bool.eq_false_iff.2 λh=>n ((y b x).1 h))).trans (Int.zero_emod p).symm) rfl,Int.zero_mul],nE q,aU (g:=λt=>if t=0 then Bl r co (f k) a*w a j else 0) λt _=>by
   by_cases e:t=0
   .simp only[aS e];rw[kB (by rw[e];rfl)]
   .simp only[aQ e,Int.zero_mul],nE v λ_=>Bl r co (f k) a*w a j]) λk _ _=>F
 exact⟨u.1,λj o=>u.2 0 j v (by rw[u.1 0 v];rfl) o⟩
theorem MS.none (C:wJ p r c w co)(s:MS p r co A S f)(j: ∀b,b<r->A b=false)(d:k<r):S k=false:=by
 cases hs:S k with
 |false=>rfl
 |true=>
  have m:=(s.mem _).1 (IS d hs);have:=C.zero (λb h=>m b h (j b h)) d;rw[s.re.one k d hs,Int.emod_eq_of_lt om C.p1] at this;cases this
theorem MS.some (C:wJ p r c w co)(s:MS p r co A S f)(j:a<r)(o:A a=true): ∃k,k<r/\S k=true:=by
 refine zL λq=>?_
 have n: ∀k,k<r->S k=false:=λk b=>Bool.eq_false_iff.2 λh=>q ⟨k,b,h⟩
 obtain⟨d,m⟩:=(s.mem _).2 (C.inA j o);have:=m 0 om;rw[fI λk b=>by rw[oJ (n k b),Int.mul_zero],C.one a j,Int.emod_eq_of_lt om C.p1,Int.zero_emod] at this;cases this
theorem MS.two (C:wJ p r c w co)(s:MS p r co A S f)(J: ∀j,j<r->(S j=true↔j=k))(L:k<r){b:Nat}(n:a<r)(q:b<r)(Q:A a=true)(P:A b=true):a=b:=by
 have m: ∀d,d<r->A d=true-> ∃x,∀j,j<r->w d j%p=x*f k j%p:=λd K h=>by
  obtain⟨e,N⟩:=(s.mem _).2 (C.inA K h);refine⟨e k,λj o=>(N j o).trans ?_⟩
  rw[aU (g:=λt=>if t=k then e t*f t j else 0) λt z=>by
   by_cases h:t=k
   .rw[aS h,kB ((J t z).2 h)]
   .rw[aQ h,oJ (Bool.eq_false_iff.2 λe=>h ((J t z).1 e)),Int.mul_zero],nE L λt=>e t*f t j]
 obtain⟨x,F⟩:=m a n Q;obtain⟨y,v⟩:=m b q P;have u:=F 0 om;have G:=v 0 om;rw[C.one a n] at u;rw[C.one b q] at G
 have e:x%p=y%p:=by
  have e1:=mul_mod (p:=p) (rfl:x%p=x%p) G;have e2:=mul_mod (p:=p) (rfl:y%p=y%p) u;rw[Int.mul_one] at e1 e2;rw[e1,e2,Int.mul_left_comm]
 have O: ∀j,j<r->w a j%p=w b j%p:=λj o=>by rw[F j o,v j o,mul_mod e rfl]
 have:=(zF (co:=co) O a).symm;rw[C.EJ n n,C.EJ n q,aS rfl] at this;split at this
 .rename_i h;exact h.symm
 .cases this
theorem AS (S:Nat->Bool): ∀n:Nat,sm n (λk=>if S k=true then (1:Int) else 0)=(xU n S:Nat)
 |0=>rfl
 |n+1=>by
  rw[bQ,AS S n,nO];split<;>omega
theorem MS.dim (C:wJ p r c w co)(s:MS p r co A S f)(z:(r:Int)<p):xU r S=xU r A:=by
 obtain⟨U,o⟩: ∃U:Nat->Nat->Int,U=λk a=>if S k=true then (if A a=true then Bl r co (f k) a*w a k else 0) else 0:=⟨_,rfl⟩
 have x: ∀k,k<r->sm r (λa=>U k a)%p=(if S k=true then (1:Int) else 0)%p:=λk m=>by
  subst o
  by_cases b:S k=true
  .simp only[aS b]
   rw[<-s.re.one k m b,C.read (f k) m];refine dM λa h=>?_
   split
   .rfl
   .rename_i n
    rw[mul_mod (((s.mem _).1 (IS m b) a h (Bool.eq_false_iff.2 n)).trans (Int.zero_emod p).symm) rfl,Int.zero_mul]
  .simp only[aQ b]
   rw[wZ]
 have t: ∀a,a<r->sm r (λk=>U k a)%p=(if A a=true then (1:Int) else 0)%p:=λa h=>by
  subst o
  by_cases n:A a=true
  .simp only[aS n]
   obtain⟨d,q⟩:=(s.mem _).2 (C.inA h n);have e:=zF (co:=co) (λj v=>s.re.read q v) a;rw[C.EJ h h,aS rfl,FJ] at e;rw[Int.emod_eq_of_lt om C.p1,e];congr 1;refine aU λk _=>?_
   by_cases b:S k=true
   .rw[aS b,show gf S f k=f k from funext λj=>kB b j,Int.mul_comm]
   .rw[aQ b]
    unfold Bl;rw[fI λj _=>by rw[oJ (Bool.eq_false_iff.2 b),Int.zero_mul],Int.mul_zero]
  .simp only[aQ n,ite_self]
   rw[wZ]
 have u:((xU r S:Nat):Int)%p=((xU r A:Nat):Int)%p:=by
  rw[<-AS S r,<-AS A r,<-dM λk m=>x k m,mI];exact dM λa h=>t a h
 have y:=Gv r S;have F:=Gv r A;rw[Int.emod_eq_of_lt om om,Int.emod_eq_of_lt om om] at u;omega
end
end
end Go.Ay
namespace Go.Pm
section
variable {n:Nat} {t:Bm}
theorem tN.gt (T:tN n t){i p:Nat}{y:List Nat}(h:t i p=some y):i<p:=by
 have Y:=T.cF _ _ _ h;have F:=T.fix _ _ _ h;obtain⟨b,c,d⟩:=T.lt _ _ _ h;have m:=T.maps _ _ _ h;rcases Nat.lt_or_ge p i with a|a
 .exact absurd (Y.inj b c (m.trans (F p a).symm)) oq
 .omega
def eR (t:Bm)(i p:Nat):wG:=(List.range p).filterMap (t i)
def eB (n:Nat)(t:Bm)(i:Nat):wG:=(List.range i).flatMap λi=>eR t i n
theorem agV:eB n t n=iV n t 0:=by
 unfold eB iV eR;simp
theorem Bg (T:tN n t):(iV n t 0).Nodup:=by
 have d: ∀i p c j y,t i p=some y->t c j=some y->i=c/\p=j:=λi p c j y k f=>by
  have u:=T.gt k;have v:=T.gt f;have r:=T.fix _ _ _ k;have q:=T.fix _ _ _ f;have o:=T.maps _ _ _ k;have m:=T.maps _ _ _ f
  have e:i=c:=by
   rcases Nat.lt_trichotomy i c with h|h|h
   .have:=q i h;omega
   .exact h
   .have:=r c h;omega
  subst e;exact⟨rfl,o.symm.trans m⟩
 rw[<-agV];unfold eB;rw[List.Nodup,List.pairwise_flatMap];refine⟨λi _=>?_,?_⟩
 .unfold eR
  rw[List.pairwise_filterMap];refine (List.nodup_range (n:=n)).imp ?_;intro p j a y l s b e;subst e;exact a (d _ _ _ _ _ l b).2
 .refine (List.nodup_range (n:=n)).imp ?_
  intro i c a y l s b e;subst e;obtain⟨p,_,k⟩:=List.mem_filterMap.1 l;obtain⟨j,_,f⟩:=List.mem_filterMap.1 b;exact a (d _ _ _ _ _ k f).1
def frF (n:Nat)(t:Bm)(l:wG):wG:=(iV n t 0).filter λy=>decide (y∉l)
def clF (n:Nat)(t:Bm)(x:List Nat)(l:wG):wG:=if (iV n t 0).length<(iV n (pW t n x) 0).length then l++frF n (pW t n x) l else l
structure Uo (n:Nat)(L:List Nat->Prop)(t:Bm)(l:wG):Prop where
 tl:BI n L t
 nd:l.Nodup
 mem: ∀y,y∈l↔y∈iV n t 0
variable {L:List Nat->Prop} {l:wG}
theorem Uo.cF (c:Uo n L t l): ∀y∈l,bJ n y:=λy a=>c.tl.tab.YG y ((c.mem y).1 a)
theorem Uo.start (c:BI n L t):Uo n L t (iV n t 0):=⟨c,Bg c.tab,λ_=>Iff.rfl⟩
theorem Ze {a:Bm}(s:Sub t a): ∀y,y∈iV n t 0->y∈iV n a 0:=λy d=>by
 obtain⟨i,p,f,b,h,c⟩:=gJ.1 d;exact gJ.2 ⟨i,p,f,b,h,s _ _ _ c⟩
theorem Uo.step (c:Uo n L t l)(B: ∀g,L g->bJ n g){x:List Nat}(G:fG n L x):
  Uo n L (pW t n x) (clF n t x l)/\Sub t (pW t n x)/\ins (pW t n x) n 0 x=none/\ ∃m,clF n t x l=l++m:=by
 obtain⟨a,f,O⟩:=c.tl.ins B G
 have w:=Bg a.tab
 refine⟨?_,f,O,?_⟩
 .cases h:ins t n 0 x with
  |none=>
   have e:pW t n x=t:=by unfold pW;rw[h]
   unfold clF;rw[e,if_neg (Nat.lt_irrefl _)];exact c
  |some q=>
   have⟨i,r⟩:=q;have e:pW t n x=put t i (r.getD i 0) r:=by unfold pW;rw[h]
   obtain⟨Y,F,K,U,Z,J,_⟩:=xG c.tl.tab n 0 x i r oq (G.cF B) (λk hk=>oq) h;have Q:r∈iV n (pW t n x) 0:=gJ.2 ⟨i,r.getD i 0,Nat.zero_le _,F,K.eJ F,by rw[e];unfold put;rw[if_pos ⟨rfl,rfl⟩]⟩
   have s:r∉iV n t 0:=λh=>by
    obtain⟨j,q,_,_,_,d⟩:=gJ.1 h;have v:=f _ _ _ d;have g1:=a.tab.gt v;have N:=a.tab.fix _ _ _ v;have R:=a.tab.maps _ _ _ v;have W:pW t n x i (r.getD i 0)=some r:=by rw[e];unfold put;rw[if_pos ⟨rfl,rfl⟩]
    have g2:=a.tab.gt W
    have u:i=j:=by
     rcases Nat.lt_trichotomy i j with h|h|h
     .have:=N i h;omega
     .exact h
     .have:=U j h;omega
    subst u;rw[<-R] at d;rw[J] at d;cases d
   have o:(iV n t 0).length<(iV n (pW t n x) 0).length:=by
    have:(r::iV n t 0).length<=(iV n (pW t n x) 0).length:=List.Nodup.length_le_of_subset (List.nodup_cons.2 ⟨s,Bg c.tl.tab⟩) (λy b=>by
     rcases List.mem_cons.1 b with rfl|b
     .exact Q
     .exact Ze f y b)
    rw[List.length_cons] at this;omega
   unfold clF;rw[if_pos o];refine⟨a,List.nodup_append.2 ⟨c.nd,w.filter _,λy b z P e2=>?_⟩,λy=>?_⟩
   .subst e2
    have:=(List.mem_filter.1 P).2;simp at this;exact this b
   .rw[List.mem_append]
    unfold frF;rw[List.mem_filter];constructor
    .rintro (h|h)
     .exact Ze f y ((c.mem y).1 h)
     .exact h.1
    .intro h
     by_cases A:y∈l
     .exact .inl A
     .exact .inr ⟨h,by simpa using A⟩
 .unfold clF
  split
  .exact⟨_,rfl⟩
  .exact⟨[],(List.append_nil _).symm⟩
theorem Uo.gen (c:Uo n L t l): ∀y∈l,fG n L y:=λy a=>c.tl.gen y ((c.mem y).1 a)
def Pr (n:Nat)(t:Bm)(l:wG)(a b:Nat):Prop:=ins t n 0 (aZ (l.getD a []) (l.getD b []))=none
theorem Pr.mono {c:Bm}{m:wG}{a b:Nat}(h:Pr n t l a b)(s:Sub t c)(i:a<l.length)(f:b<l.length):Pr n c (l++m) a b:=by
 have e: ∀k,k<l.length->(l++m).getD k []=l.getD k []:=λk d=>by rw[List.getD,List.getD,List.getElem?_append_left d]
 unfold Pr;rw[e a i,e b f];exact Uf s _ _ _ h
end
end Go.Pm
namespace Go.Proofs.YtoighkablmjfeaaGreat
open Go Go.Ay Go.Pm
theorem Fp (h:H)(x:Int):lU h 1 [aC 0] 1 [(0,1,aC x)]=some (.sl h.next 0 1 (.kn 1),h.new (.cells false (ints [x]))):=by
 have e:cJ [aC 0] 1= [aC 0]:=rfl;simp [lU,fP,e,putAt,V.cells,V.one,ints]
theorem TK {h:H}{v:V}{sz b:Nat}{ws:List V}(o:dF h v sz ws b): ∀id off len cap,v= .sl id off len cap->b<=id:=by
 rcases o with ⟨rfl,_⟩|⟨id,n,cap,a,rfl,_,_,c,_⟩
 .intro _ _ _ _ e;cases e
 .intro _ _ _ _ e;cases e;exact c
theorem Im (l:List Nat)(x:Nat):zi (l++ [x])=zi l++ [(x:Int)]:=by simp [zi]
theorem Xd {l:List Nat}{i:Nat}(hi:i<l.length):l.take (i+1)=l.take i++ [l.getD i 0]:=by
 rw[List.take_add_one,dJ hi,cM hi];rfl
theorem Ud (u w:V)(a b:List Nat)(h:H)(hN:a.length<=1000)(U:SI h u (zi a))(hw:SI h w (zi b))(hr: ∀i,i<a.length->a.getD i 0<b.length):
  Ev T 25 [u,w] h (λv h'=>SI h' v (zi (aZ a b))/\Fr h h'/\ ∀id off len cap,v= .sl id off len cap->h.next<=id):=by
 have Q:=U.lens
 rw[bD] at Q
 obtain⟨id,off,O,G,Z⟩:=U.open
 rw[bD] at O G Z
 obtain⟨K,z,B,f,A⟩:=hw.open
 rw[bD] at B f A
 refine lG ?_
 refine aP (λP l R=> ∃(i:Nat) (o:V),(∃j:Nat->V,l= [u,w,j 2,o,aC i,j 5])/\i<=a.length/\dF R o 1 (ints (zi ((aZ a b).take i))) h.next/\Fr h R/\P=a.length-i) a.length
  ⟨0,.aH,aD rfl,fY _,dF.aH _ _ _,Fr.refl h,rfl⟩ ?_
 rintro P l c ⟨i,o,⟨jk,rfl⟩,hi,J,F,rfl⟩
 refine bM Q ?_
 by_cases s:(i:Int)<(a.length:Int)
 .rw[cV s]
  have d:i<a.length:=om
  have ci:c.cell id (off+i)=some (aC (a.getD i 0:Nat)):=by rw[F.cell (G om),Z i d];congr 2;simp [zi,d]
  have r:=hr i d
  have Y:=dA (b:=b) d
  generalize hk:a.getD i 0=k at ci r Y
  have ck:c.cell K (z+k)=some (aC (b.getD k 0:Nat)):=by rw[F.cell (f om),A k r];congr 2;simp [zi,r]
  refine nW @O.ixa ci @B.ixa ck @Fp ?_
  have q:Fr c (c.new (.cells false (ints [((b.getD k 0:Nat):Int)]))):=(Fr.refl c).new _
  have t:(c.new (.cells false (ints [((b.getD k 0:Nat):Int)]))).get c.next=some (.cells false (ints [((b.getD k 0:Nat):Int)])):=H.aI ..
  have W:(c.new (.cells false (ints [((b.getD k 0:Nat):Int)]))).next=c.next+1:=H.aM ..
  generalize c.new (.cells false (ints [((b.getD k 0:Nat):Int)]))=N at*
  have sx:SV N (.sl c.next 0 1 (.kn 1)) 1 (ints [((b.getD k 0:Nat):Int)]):=SV.all rfl om t _
  have nF:=F.next
  have hl:(aZ a b).length=a.length:=eY a b
  obtain⟨v2,a0,L,x⟩:=(J.fr q).app (bytes:=8) (n:=i) (m:=1) om sx (by rw[aE,bD,jG,jP];omega) rfl om om
  refine bM L ?_
  have y:=x.own
  rw[<-fQ,<-Y,<-Im,<-Xd om] at y
  rw[fJ i]
  exact⟨a.length-(i+1),om,i+1,v2,aD rfl,om,y,x.fr h (F.trans q) (dN _),rfl⟩
 rw[bZ s]
 obtain rfl:i=a.length:=om
 refine aT ?_
 rw[Nb (by rw[eY];omega)] at J
 exact⟨J.sv,F,TK J⟩
theorem HW (n:Nat)(h:H)(K:n<=1000):
  Ev T 31 [aC n] h (λv h'=>SI h' v (zi (bI n))/\Fr h h'/\ ∀id off len cap,v= .sl id off len cap->h.next<=id):=by
 refine lG ?_
 refine aP (λx b u=> ∃(i:Nat) (o:V),(∃j:Nat->V,b= [aC n,j 1,o,aC i,j 4])/\i<=n/\dF u o 1 (ints (zi ((bI n).take i))) h.next/\Fr h u/\x=n-i) n
  ⟨0,.aH,aD rfl,fY _,dF.aH _ _ _,Fr.refl h,rfl⟩ ?_
 rintro x b a ⟨i,o,⟨J,rfl⟩,hi,q,F,rfl⟩
 refine aT ?_
 by_cases d:(i:Int)<(n:Int)
 .rw[cV d]
  have t:i<n:=om
  refine bM @Fp ?_
  have c:Fr a (a.new (.cells false (ints [(i:Int)]))):=(Fr.refl a).new _
  have f:(a.new (.cells false (ints [(i:Int)]))).get a.next=some (.cells false (ints [(i:Int)])):=H.aI ..
  have w:(a.new (.cells false (ints [(i:Int)]))).next=a.next+1:=H.aM ..
  generalize a.new (.cells false (ints [(i:Int)]))=s at*
  have z:SV s (.sl a.next 0 1 (.kn 1)) 1 (ints [(i:Int)]):=SV.all rfl om f _
  have L:=F.next
  have G:=iF n
  obtain⟨y,B,r,k⟩:=(q.fr c).app (bytes:=8) (n:=i) (m:=1) om z (by rw[aE,bD,jG,jP];omega) rfl om om
  refine bM r ?_
  have l:=k.own
  have A:=eG t
  have e1:zi ((bI n).take i)++ [(i:Int)]=zi ((bI n).take (i+1)):=by rw[Xd om,Im,A]
  rw[<-fQ,e1] at l
  rw[fJ i]
  exact⟨n-(i+1),om,i+1,y,aD rfl,om,l,k.fr h (F.trans c) (dN _),rfl⟩
 rw[bZ d]
 obtain rfl:i=n:=om
 refine aT ?_
 rw[Nb (by rw[iF];omega)] at q
 exact⟨q.sv,F,TK q⟩
theorem aaY (u:V)(n:Nat)(a:List Nat)(h:H)(R:n<=1000)(A:bJ n a)(J:SI h u (zi a)):
  Ev T 26 [u] h (λv h'=>Ya h h' v (bY a)):=by
 refine mV ?_
 have la:=A.len
 have t:=J.lens
 rw[bD,la] at t
 obtain⟨id,off,B,q,L⟩:=J.open
 rw[bD,la] at B q L
 simp(disch:=omega)only[go_sem,aV,t,anO h n om]
 have m:Fr h (h.new (.cells false (rc n λ_=> aC 0))):=(Fr.refl h).new _
 have f:(h.new (.cells false (rc n λ_=> aC 0))).get h.next=some (.cells false (rc n λ_=> aC 0)):=H.aI ..
 have d:(h.new (.cells false (rc n λ_=> aC 0))).next=h.next+1:=H.aM ..
 generalize h.new (.cells false (rc n λ_=> aC 0))=Q at*
 obtain⟨S,o⟩:=exI h.next
 rw[o] at f d
 rw[o]
 refine aP (λG c w=> ∃(i:Nat),(∃j:Nat->V,c= [u,.aH,.sl S 0 n (.kn n),aC i,j 4])/\i<=n/\
   w.get S=some (.cells false (rc n λj=>if a.idxOf j<i then aC (a.idxOf j:Nat) else aC 0))/\w.next=S+1/\Fr h w/\G=n-i) n
  ⟨0,aD rfl,fY _,by rw[f];rfl,d,m,rfl⟩ ?_
 clear f m d
 rintro G c x ⟨i,⟨U,rfl⟩,hi,y,lS,F,rfl⟩
 refine bM t ?_
 by_cases l:(i:Int)<(n:Int)
 .rw[cV l]
  have b:i<n:=om
  have ci:x.cell id (off+i)=some (aC (a.getD i 0:Nat)):=by rw[F.cell (q om),L i b];congr 2;simp [zi,la,b]
  have r:=A.eJ b
  have K:a.idxOf (a.getD i 0)=i:=A.inj (A.idx r).1 b (A.idx r).2
  generalize O:a.getD i 0=k at ci r K
  have e1:decide ((k:Int)<0)=false:=bZ om
  have e2:decide ((n:Int)<=(k:Int))=false:=bZ om
  have z:=bE (vs:=rc n λj=>if a.idxOf j<i then aC (a.idxOf j:Nat) else aC 0) (off:=k) (by rw[dE];exact r) x S (aC i)
  rw[iQ] at z
  refine wE @B.ixa ci e1 e2 y z ?_
  rw[fJ i]
  refine⟨n-(i+1),om,i+1,aD rfl,om,?_,lS,F.set om _,rfl⟩
  congr 2
  refine bW λj s=>?_
  by_cases e:j=k
  .rw[aS e,e,K,aS om]
  .rw[aQ e]
   have N:a.idxOf j≠i:=λP=>e (by rw[<-(A.idx s).2,P,O])
   by_cases e2:a.idxOf j<i
   .rw[aS e2,aS om]
   .rw[aQ e2,aQ om]
 rw[bZ l]
 obtain rfl:i=n:=om
 refine aT ?_
 refine⟨by rw[iX,la,o],?_,by rw[o];exact lS,F⟩
 rw[o,y]
 congr 2
 rw[<-Pe,iX,la]
 exact bW λj s=>by rw[aS (A.idx s).1,oX (by rw[la];exact s)]
structure BC (b:Nat)(W:Nat->Prop)(h:H)(n:Nat)(tv:V)(ρ:Nat->Nat)(F:Nat->Nat->V)(t:Bm):Prop where
 sv:SV h tv 1 (rc n λi=> .sl (ρ i) 0 n (.kn n))
 off:vI W tv
 row: ∀i,i<n->h.get (ρ i)=some (.cells false (rc n (F i)))
 wb: ∀i,i<n->W (ρ i)
 AN: ∀id,W id->id<h.next
 low: ∀id,W id->b<=id
 inj: ∀i j,i<n->j<n->ρ i=ρ j->i=j
 kH: ∀i p,i<n->p<n->Slot W h (F i p) (t i p)
section
variable {b:Nat} {W:Nat->Prop} {h h':H} {n:Nat} {tv:V} {ρ:Nat->Nat} {F:Nat->Nat->V} {t:Bm}
theorem BC.open (R:BC b W h n tv ρ F t):dD tv=some (aC n)/\ ∃id off,Sl tv 1 n id off/\ ∀i,i<n->h.cell id (off+i)=some (.sl (ρ i) 0 n (.kn n)):=by
 have s:=R.sv;have f:(rc n λi=>V.sl (ρ i) 0 n (.kn n)).length=n:=dE n _;refine⟨by unfold dD;rw[SV.len s (n:=n) om om];rfl,?_⟩;obtain⟨id,off,d,a,c⟩:=SV.shape s n om om;refine⟨id,off,d,λi hi=>?_⟩;rw[c i om,yA hi]
theorem BC.cell (R:BC b W h n tv ρ F t){i p:Nat}(hi:i<n)(a:p<n):h.cell (ρ i) p=some (F i p):=vD (R.row i hi) a
theorem BC.mono (R:BC b W h n tv ρ F t)(f:Fr h h'):BC b W h' n tv ρ F t:=
 ⟨R.sv.mono f,R.off,λi hi=>by rw[f.get _ (R.AN _ (R.wb i hi))];exact R.row i hi,R.wb,λid a=>iD (R.AN id a) f.next,R.low,R.inj,λi p hi c=>(R.kH i p hi c).fx (Fx.of f)⟩
theorem BC.go (R:BC b W h n tv ρ F t){W':Nat->Prop}(f:Fx W h h')(j: ∀i,i<n->h'.get (ρ i)=h.get (ρ i))(c: ∀id,id<h.next->W' id->W id)(a: ∀id,W id->W' id)(AN: ∀id,W' id->id<h'.next)(low: ∀id,W' id->b<=id):BC b W' h' n tv ρ F t:=
 ⟨R.sv.fx R.off f,R.off.mE R.sv c,λi hi=>by rw[j i hi];exact R.row i hi,λi hi=>a _ (R.wb i hi),AN,low,R.inj,λi p hi d=>(R.kH i p hi d).go f c⟩
def WB (n:Nat)(ρ:Nat->Nat)(id:Nat):Prop:= ∃i,i<n/\ρ i=id
def F2 (F:Nat->Nat->V)(i p:Nat)(v:V):Nat->Nat->V:=λj q=>if j=i/\q=p then v else F j q
theorem BC.put (R:BC b W h n tv ρ F t){i p:Nat}(hi:i<n)(d:p<n){a:V}{x:List Nat}(l:PV W h a x):
  ∃h',dY (h.get (ρ i)) h (ρ i) p [a]=some h'/\BC b W h' n tv ρ (F2 F i p a) (Pm.put t i p x)/\Fx (WB n ρ) h h'/\h'.next=h.next:=by
 have m:=bE (vs:=rc n (F i)) (off:=p) (by rw[dE];exact d) h (ρ i) a
 rw[R.row i hi,m,iQ]
 refine⟨_,rfl,?_,Fx.set h (W:=WB n ρ) ⟨i,hi,rfl⟩ _,rfl⟩
 have f:Fx W h (h.set (ρ i) (some (.cells false (rc n λj=>if j=p then a else F i j)))):=Fx.set h (R.wb i hi) _
 refine⟨R.sv.fx R.off f,R.off,λj c=>?_,R.wb,R.AN,R.low,R.inj,λj q c k=>?_⟩
 .by_cases e:j=i
  .subst e
   rw[H.aJ]
   congr 2
   refine bW λq _=>?_
   unfold F2
   by_cases e2:q=p
   .rw[aS e2,aS ⟨rfl,e2⟩]
   .rw[aQ e2,aQ (λh=>e2 h.2)]
  .rw[H.Cj h (λe2=>e (R.inj _ _ c hi e2)),R.row j c]
   congr 2
   refine bW λq _=>?_
   unfold F2
   rw[aQ (λh=>e h.1)]
 .unfold F2 Pm.put
  by_cases e:j=i/\q=p
  .rw[aS e,aS e]
   exact PV.fx l f
  .rw[aQ e,aQ e]
   exact (R.kH j q c k).fx f
theorem PV.fresh {v:V}{l:List Nat}(s:SI h' v (zi l))(c: ∀id off len cap,v= .sl id off len cap->h.next<=id)(a: ∀id,W id->id<h.next):PV W h' v l:=by
 refine⟨s,?_⟩
 cases v with
 |sl id off len cap=>exact λd=>by have:=c _ _ _ _ rfl;have:=a id d;omega
 |_=>trivial
theorem Slot.nil {v:V}(s:Slot W h v none):v= .aH:=s
end
theorem Po (b:Nat)(W:Nat->Prop)(h:H)(n:Nat)(tv:V)(ρ:Nat->Nat)(F:Nat->Nat->V)(t:Bm)(vx:V)(x:List Nat)(hn:n<=64)(h0:0<n)(R:BC b W h n tv ρ F t)(hx:PV W h vx x)(X:bJ n x)(TI:tN n t):
  Ev T 264 [tv,vx] h (λv h'=> ∃F',v= .bool (ins t n 0 x).isSome/\BC b W h' n tv ρ F' (pW t n x)/\Fx (WB n ρ) h h'):=by
 obtain⟨Q,id,a6,sh,_⟩:=R.open
 refine lG ?_
 refine aP (λk' k hh=> ∃(i:Nat) (y:List Nat) (r:V),(∃g:Nat->V,k= [tv,r,g 2,aC i,g 4,g 5,g 6,g 7])/\i<=n/\ins t (n-i) i y=ins t n 0 x/\PV W hh r y/\bJ n y/\Fr h hh/\k'=n-i) n
  ⟨0,x,vx,aD rfl,fY _,rfl,hx,X,Fr.refl h,rfl⟩ ?_
 rintro k' k U ⟨i,y,r,⟨g,rfl⟩,hi,u,s,Y,f,rfl⟩
 have m:=R.mono f
 by_cases A:(i:Int)<(n:Int)
 case neg=>
  have e1:=bZ A;obtain rfl:i=n:=om
  refine eZ Q e1 ?_;rw[Nat.sub_self] at u;have a:ins t i 0 x=none:=u.symm;refine⟨F,by rw[a];rfl,?_,Fx.of f⟩;unfold pW;rw[a];exact m
 have e1:=cV A
 have c:i<n:=om
 obtain⟨a0,B,d,K,G⟩:=s.si.open
 rw[bD,Y.len] at d K G
 have ci:U.cell a0 (B+i)=some (aC (y.getD i 0:Nat)):=by rw[G i c];congr 2;simp [zi,Y.len,c]
 have O:=Y.eJ c
 obtain⟨p,o⟩:=exI (y.getD i 0)
 rw[o] at ci O
 have q:n-i=(n-(i+1))+1:=om
 rw[q] at u
 obtain⟨_,a5,a4,J,a3⟩:=m.open
 have cr:=a3 i c
 have N:=m.cell c O
 have P:=m.kH i p c O
 by_cases l:p=i
 .have a:ins t (n-(i+1)) (i+1) y=ins t n 0 x:=by
   rw[<-u]
   conv=>rhs;unfold ins
   rw[aS (o.trans l)]
  have e2:decide ((p:Int)=(i:Int))=true:=cV om;refine nW Q e1 @d.ixa ci e2 ?_;rw[fJ i];exact⟨n-(i+1),om,i+1,y,r,aD rfl,om,a,s,Y,f,rfl⟩
 have e2:decide ((p:Int)=(i:Int))=false:=bZ om
 have e3:decide ((p:Int)<0)=false:=bZ om
 have e4:decide ((n:Int)<=(p:Int))=false:=bZ om
 cases hto:t i p with
 |none=>
  rw[hto] at P;have a2:=P.nil;rw[a2] at N
  have a:ins t n 0 x=some (i,y):=by
   rw[<-u];unfold ins;rw[aQ (by rw[o];exact l),o,hto]
  obtain⟨h3,pt,R3,L,n3⟩:=m.put c O s;simp(disch:=omega)only[go_sem,Q,e1,d.ixa,ci,e2,e3,e4,J.ixa,cr,N,eH s.fX.1 s.fX.2,pt];have e5:pW t n x=Pm.put t i p y:=by unfold pW;rw[a];simp only;rw[o]
  refine⟨F2 F i p r,by rw[a];rfl,by rw[e5];exact R3,(Fx.of f).trans L (λ_ _ h=>h)⟩
 |some z=>
  rw[hto] at P;have Z:=TI.cF _ _ _ hto;have hz:PV W U (F i p) z:=P;have sn:=Sx hz (bJ.ne h0 Z) false
  have a:ins t (n-(i+1)) (i+1) (aZ y (bY z))=ins t n 0 x:=by
   rw[<-u]
   conv=>rhs;unfold ins
   rw[aQ (by rw[o];exact l),o,hto]
  generalize F i p=vz at N hz sn;simp(disch:=omega)only[go_sem,Q,e1,d.ixa,ci,e2,e3,e4,J.ixa,cr,N,sn];refine (aaY vz n z U om Z hz.si).mono ?_;rintro w h3 nw;have L:=nw.fr;have pw:=nw.pv (W:=W) (λhw=>by have:=m.AN _ hw;omega);refine aT ?_;refine (Ud r w y (bY z) h3 (by rw[Y.len];omega) (s.si.mono L) pw.si (λj hj=>by rw[iX,Z.len];exact Y.eJ (by rw[<-Y.len];exact hj))).mono ?_;rintro v h4 ⟨s4,f4,l4⟩;refine aT ?_;rw[fJ i];exact⟨n-(i+1),om,i+1,_,v,aD rfl,om,a,PV.fresh s4 l4 (λid a1=>iD (m.AN id a1) L.next),Y.mul Z.inv,(f.trans L).trans f4,rfl⟩
theorem xQ.frb {i h h':H}{x:V}{n m sz:Nat}{ws us:List V}(p:xQ h x n m sz ws us h')(f:Fr i h){b:Nat}{a:List V}(o:dF h x b a i.next):Fr i h':=by
 have l:=f.next;refine⟨by rw[p.next];omega,λid d=>?_⟩;rw[p.old id om (λk j n c e e2=>by have:=(o.in _ _ _ _ e).2.1;omega)];exact f.get id d
theorem jI.open {W:Nat->Prop}{h:H}{v:V}{ws:List V}{l:LN}(sv:SV h v 1 ws)(p:jI W h ws l):dD v=some (aC (l.length:Int))/\ ∃id off,Sl v 1 l.length id off/\ ∀i,i<l.length->id<h.next/\h.cell id (off+i)=some (ws.getD i .undef)/\PV W h (ws.getD i .undef) (l.getD i []):=by
 have j:=bH.length p;refine⟨by unfold dD;rw[SV.len sv (n:=l.length) om om];rfl,?_⟩;obtain⟨id,off,f,a,d⟩:=SV.shape sv l.length om om;refine⟨id,off,f,λi hi=>⟨a om,?_,?_⟩⟩
 .rw[d i om];simp [List.getD,show i<ws.length by omega]
 .obtain⟨w,c,b⟩:=jI.at p hi
  rw[List.getD,c];exact b
theorem SW {α:Type}{l:List α}{x d:α}{k:Nat}:x∈l.take k↔ ∃q,q<k/\q<l.length/\l.getD q d=x:=by
 constructor
 .intro h
  obtain⟨q,a,e⟩:=Bj.1 h;rw[jG] at a;refine⟨q,om,om,?_⟩;rw[List.getElem_take] at e;rw[List.getD,dJ om,<-e];rfl
 .rintro⟨q,h1,h2,e⟩
  rw[List.getD,dJ h2] at e;refine Bj.2 ⟨q,by rw[jG];omega,?_⟩;rw[List.getElem_take];exact e
set_option maxRecDepth 100000
set_option maxRecDepth 100000
set_option maxRecDepth 100000
theorem VT (h:H)(n:Nat)(a:n<=100000):sD h 1 24 [.aH] (aC n) (aC n)=some (.sl h.next 0 n (.kn n),h.new (.cells false (rc n λ_=> .aH))):=by
 have e:cJ [V.aH] n=rc n λ_=> .aH:=(Dg (by simp [cJ]) λi hi=>by simp [cJ,hi,Nat.mod_one]).symm
 rw[iH om (Int.le_refl _) om om,Mc,jP,e]
structure ajC (G:List Nat->Prop)(L:LN)(K:List Nat)(i b:Nat)(hh:H)(v:V):Prop where
 ex: ∃(Q:Nat) (ρ:Nat->Nat),v= .sl Q 0 K.length (.kn K.length)/\b<=Q/\Q<hh.next/\hh.get Q=some (.cells false (rc K.length λa=> .sl (ρ a) 0 K.length (.kn K.length)))/\ ∀a,a<K.length->Q<ρ a/\ρ a<hh.next/\hh.get (ρ a)=some (.cells false (rc K.length λk=> aC (mW G L K i a k:Nat)))
theorem ajC.sr {G:List Nat->Prop}{L:LN}{K:List Nat}{i b:Nat}{f:H}{v:V}(c:ajC G L K i b f v):SR f v ((List.range K.length).map λj=>zi ((List.range K.length).map (mW G L K i j))):=by
 obtain⟨Q,ρ,rfl,_,o,h,rows⟩:=c.ex;refine⟨(List.range K.length).map λa=> .sl (ρ a) 0 K.length (.kn K.length),?_,?_⟩
 .exact SV.all (by rw[dE,jP]) o h _
 .refine bH.jF siM λa n q=>?_
  have m:a<K.length:=by simpa using n
  simp only[List.getElem_map,List.getElem_range];obtain⟨_,l,d⟩:=rows a m
  have e:(rc K.length λk=>aC (mW G L K i a k:Nat))=ints (zi ((List.range K.length).map (mW G L K i a))):=by
   simp [rc,ints,zi,Function.comp_def]
  rw[e] at d;exact SV.all (by rw[aE,bD,dO,gT,jP]) l d _
set_option maxHeartbeats 64000000
theorem MH (D i:Nat)(n:Nat)(G:List Nat->Prop)(L:LN)(K:List Nat)(h:H)(n7:n<=20)(hG:oK n G)(E:fW G L)(ik:vU n G L K)(hl:L.length<=5040)(hr:K.length<=64)(d:DO n G L K h D):
  Ev T 45 [.ptr D 0,aC i] h (λv h'=>ajC G L K i h.next h' v/\Fr h h'):=by
 refine mV ?_
 obtain⟨vL,vC,Mn,ln,ks,gD,hD,d8,sL,sC,al,e7,c9,c0⟩:=d.ex
 obtain⟨M,hM⟩:=exI h.next
 obtain⟨h1,e1⟩:=exI (h.new (.wmap (.arr 2 .i64) []))
 have n1:h1.next=M+1:=by rw[<-e1,H.aM,hM]
 have g1:h1.get M=some (.wmap (.arr 2 .i64) []):=by rw[<-e1,<-hM];exact H.aI h _
 have o1: ∀k,k≠M->h1.get k=h.get k:=λk hk=>by rw[<-e1];exact H.bG h om _
 have f1:Fr h h1:=⟨om,λq hq=>o1 q om⟩
 obtain⟨r,a1⟩:=exI K.length
 obtain⟨R,b6⟩: ∃m,L.length=m:=⟨_,rfl⟩
 obtain⟨c5,eL,d6,c8,ws,b7,cL⟩:=Il sL
 obtain⟨a3,eC,a7,U,b5,cC⟩:=Df om sC al
 rw[a1] at a3 b5 cC hr
 rw[b6] at c5 b7 cL c0
 have y: ∀o,Fr h o->o.get D=some (.cells false [vL,vC,.mp Mn]):=λo f=>by rw[f.get _ hD];exact gD
 simp(disch:=omega)only[go_sem,aV,hM,e1,H.cell_of (y h1 f1),c5]
 refine dG (λvs o=> ∃(m:List ((Nat×Nat)×V)),(∃g:Nat->V,vs= [.ptr D 0,aC i,g 2,.mp M,g 4,g 5,g 6,g 7,g 8,g 9,g 10,g 11,g 12,g 13,g 14,g 15,g 16,g 17,g 18,g 19,g 20,g 21,g 22,g 23,g 24])/\o.get M=some (.wmap (.arr 2 .i64) (eU Zy m))/\(∀p∈m,PkP p.1)/\(∀j k,k<r->(Rt m (j,k)).getD (aC 0)= aC (Jz G L K i k L.length j:Nat))/\M<o.next/\Fr h o) ?_ ?_
 .refine aP (λs l o=> ∃(t:Nat) (m:List ((Nat×Nat)×V)),(∃g:Nat->V,l= [.ptr D 0,aC i,g 2,.mp M,g 4,g 5,g 6,g 7,g 8,g 9,vL,aC R,aC t,g 13,g 14,g 15,g 16,g 17,g 18,g 19,g 20,g 21,g 22,g 23,g 24])/\t<=R/\o.get M=some (.wmap (.arr 2 .i64) (eU Zy m))/\(∀p∈m,PkP p.1)/\(∀j k,k<r->(Rt m (j,k)).getD (aC 0)= aC (Jz G L K i k t j:Nat))/\M<o.next/\Fr h o/\s=R-t) R
   ⟨0, [],aD rfl,fY _,g1,λ_ h=>(by cases h),λj k _=>rfl,om,f1,rfl⟩ ?_
  rintro s l h2 ⟨t,m,⟨g,rfl⟩,ht,gM,Y,lk,nM,F,rfl⟩
  by_cases O:(t:Int)<(R:Int)
  case neg=>
   have d1:=bZ O;obtain rfl:t=R:=om
   refine bM d1 ?_;exact⟨m,aD rfl,gM,Y,by rw[b6];exact lk,nM,F⟩
  have d1:=cV O
  have f2:t<R:=om
  obtain⟨b1,c1,s1⟩:=cL t f2
  generalize ws.getD t V.undef=ve at c1 s1
  have X:=jZ hG E (show t<L.length by omega)
  have a5:L.getD t []∈L:=bF om
  have ix:L.idxOf (L.getD t [])=t:=by
   rw[gV,dJ om];exact E.nodup.idxOf_getElem _ _
  obtain⟨x,hx⟩:=exI (L.getD t [])
  rw[hx] at s1 X a5 ix
  have c2:h2.cell d6 (c8+t)=some ve:=by rw[F.cell b1];exact c1
  refine iG d1 @b7.ixa c2 ?_
  refine (XS D ve n G L K x h2 om (d.mono F) X a5 (s1.mono F)).mono ?_
  rw[ix]
  rintro _ h3 ⟨rfl,f3⟩
  have F3:=F.trans f3
  have a8:h3.get M=some (.wmap (.arr 2 .i64) (eU Zy m)):=by rw[f3.get _ nM];exact gM
  have n3:=f3.next
  by_cases hi:jJ G L K t=i
  case neg=>
   have d2:decide (((jJ G L K t:Nat):Int)≠(i:Int))=true:=cV om;refine bM d2 ?_;rw[fJ t];refine⟨R-(t+1),om,t+1,m,aD rfl,om,a8,Y,λj k hk=>?_,om,F3,rfl⟩;rw[lk j k hk,Fw,aQ (λe=>hi e.1),Nat.add_zero]
  have d2:decide (((jJ G L K t:Nat):Int)≠(i:Int))=false:=bZ om
  simp(disch:=omega)only[go_sem,d2,H.cell_of (y h3 F3),a3]
  refine aP (λs l o=> ∃(k:Nat) (m:List ((Nat×Nat)×V)),(∃g:Nat->V,l= [.ptr D 0,aC i,g 2,.mp M,ve,g 5,g 6,g 7,g 8,g 9,vL,aC R,aC t,g 13,g 14,vC,aC r,aC k,g 18,g 19,g 20,g 21,g 22,g 23,g 24])/\k<=r/\o.get M=some (.wmap (.arr 2 .i64) (eU Zy m))/\(∀p∈m,PkP p.1)/\(∀j s,s<r->(Rt m (j,s)).getD (aC 0)= aC (Jz G L K i s (if s<k then t+1 else t) j:Nat))/\M<o.next/\Fr h o/\s=r-k) r
   ⟨0,m,aD rfl,fY _,a8,Y,λj k hk=>by rw[aQ om];exact lk j k hk,om,F3,rfl⟩ ?_
  clear gM Y lk nM F f3 F3 a8 n3
  rintro s l h4 ⟨k,m,⟨g',rfl⟩,hk,gM,Y,lk,nM,F,rfl⟩
  by_cases J:(k:Int)<(r:Int)
  case neg=>
   have d3:=bZ J;obtain rfl:k=r:=om
   refine bM d3 ?_;rw[fJ t];exact⟨R-(t+1),om,t+1,m,aD rfl,om,gM,Y,λj s a2=>by rw[lk j s a2,aS a2],nM,F,rfl⟩
  have d3:=cV J
  have B:k<r:=om
  obtain⟨bC,rep,cr,_,b3,sr⟩:=cC k B
  obtain⟨z,hz⟩:=exI (L.getD (K.getD k 0) [])
  rw[hz] at sr b3
  have c3:K.getD k 0<L.length:=ik.lt (bF om)
  have Z:bJ n z:=by rw[<-hz];exact jZ hG E c3
  have d4:z∈L:=by rw[<-hz];exact bF c3
  have w3:=sr.cT
  have r4:h4.row a7 (U+k*3) 3=some [rep,aC (fC z n:Int),aC ((iK G L (K.getD k 0)).length:Int)]:=by
   have:h4.row a7 (U+k*3) 3=h.row a7 (U+k*3) 3:=by unfold H.row;rw[F.get _ bC]
   rw[this];exact b3
  obtain⟨A,hA⟩:=exI h4.next
  obtain⟨P,e5,n5,g5,o5,f5⟩:=iI hA [.aH,aC 0,aC 0]
  obtain⟨h6,e6,n6,g6,o6⟩:=xN P A [rep,aC (fC z n:Int),aC ((iK G L (K.getD k 0)).length:Int)]
  have a9:Fr h4 h6:=⟨om,λq hq=>by rw[o6 q om,o5 q om]⟩
  have F6:=F.trans a9
  have d5:h6.get M=some (.wmap (.arr 2 .i64) (eU Zy m)):=by rw[a9.get _ nM];exact gM
  have g8:=s1.dS
  have g7:=sr.dS
  simp(disch:=omega)only[go_sem,d3,b5.ixa,r4,hA,e5,lY P A 0 (v:=rep) (u:= aC (fC z n:Int)) (w:= aC ((iK G L (K.getD k 0)).length:Int)) w3.2.1 rfl rfl,g5,jE,e6,H.cell_of (y h6 F6),H.cell_of g6]
  have fb:=(Fr.refl h6).cU (n:=h6.next+17) om
  refine (abF ve rep n x z _ om X Z (s1.mono (F6.trans fb)) (sr.mono (F6.trans fb))).mono ?_
  rintro _ h7 ⟨rfl,f7⟩
  have b0:=fb.trans f7
  have F7:=F6.trans b0
  have c4:h7.get M=some (.wmap (.arr 2 .i64) (eU Zy m)):=by rw[b0.get _ (by have:=a9.next;omega)];exact d5
  have f8:h7.get Mn=some (.wmap (.arr 64 .u8) (eU WU ln)):=by rw[F7.get _ d8];exact e7
  have Qx:=X.inv.mul Z
  have d7:G (aZ (bY x) z):=hG.mul (hG.inv ((E.mem x).1 a5)) ((E.mem z).1 d4)
  obtain⟨iq,f0⟩:=Mg E d7
  obtain⟨q,hq⟩:=exI (jJ G L K (L.idxOf (aZ (bY x) z)))
  have g0:q<r:=by rw[<-hq,<-a1];exact (Ck hG E ik iq).1
  have c7:=c0 _ (show L.idxOf (aZ (bY x) z)<R by omega)
  rw[f0,hq] at c7
  have lo:=λw=>Cd (EN (n:=n) om) (λa A=>Uv (n:=n) om a A) c9 Qx w
  rw[c7] at lo
  have PQ:PkP (q,k):=⟨by show q<1000000;omega,by show k<1000000;omega⟩
  have ql:quK G L K t k=q:=by unfold quK;rw[hx,hz];exact hq
  have lc:=lk q k B
  rw[aQ om] at lc
  obtain⟨c,hc⟩:=exI (Jz G L K i k t q)
  rw[hc] at lc
  have h0:c<=t:=by rw[<-hc];exact acO ..
  have N:=Cd Rg Io Y PQ (aC 0)
  rw[lc] at N
  have g9:V.agg [aC q,aC k]=Zy (q,k):=rfl
  obtain⟨we,ni,m1,h8,ee,n8,o8,c6,f6,e9,en⟩:=abJ Rg Io Y PQ (aC 0) (aC (c+1:Nat)) h7 M c4
  have b2:=Cd Rg Io f6 PQ (aC 0)
  rw[e9,lc] at b2
  have a0:Ni (some (.wmap (.arr 2 .i64) (eU Zy m))) (.arr 2 .i64) (aC 0) false (V.agg [aC q,aC k])=_:=N
  have a4:Ni (some (.wmap (.arr 2 .i64) (eU Zy m1))) (.arr 2 .i64) (aC 0) false (V.agg [aC q,aC k])=_:=b2
  have e8:EO (some (.wmap (.arr 2 .i64) (eU Zy m))) h7 M (.arr 2 .i64) (aC 0) (V.agg [aC q,aC k])=_:=ee
  have b8:=y h7 F7
  have h9:h8.get D=some (.cells false [vL,vC,.mp Mn]):=by rw[o8 D om];exact b8
  simp(disch:=omega)only[go_sem,H.cell_of b8,f8,lo,Option.getD_some,PZ,c4,a0,show (c:Int)+1=((c+1:Nat):Int) from rfl,e8,c6,a4,en]
  have ok:okE h8 (.lkw (.arr 2 .i64) (aC 0) false (.c (.mp M)) (.c (.agg [aC q,aC k]))) (aC c)=true:=by
   simp only[okE,EY,xv,ER,c6,a4,Option.map_some,okV];simp [dS]
  rw[fJ k]
  have i0:=F7.next
  refine⟨by simp [dS],ok,r-(k+1),om,k+1,_,aD rfl,om,rfl,Pb PQ Y,λj s a2=>?_,by rw[n8];have:=b0.next;omega,⟨by show h.next<=h8.next;omega,λp hp=>by rw[H.Cj _ om,o8 p om];exact F7.get p hp⟩,rfl⟩
  rw[Rk]
  by_cases e:(j,s)=(q,k)
  .cases e
   rw[aS rfl,aS om,Fw,aS ⟨hi,ql⟩,hc]
   rfl
  .rw[aQ e,lk j s a2]
   by_cases ek:s=k
   .subst ek
    rw[aQ om,aS om,Fw,aQ (λh=>e (by rw[<-h.2,ql]))]
    rfl
   .by_cases e2:s<k
    .rw[aS e2,aS om]
    .rw[aQ e2,aQ om]
 rintro l hA ⟨m,⟨g,rfl⟩,gM,Y,lk,nM,FA⟩
 obtain⟨Q,hQ⟩:=exI hA.next
 obtain⟨hB,eB,nB,gB,oB,fB⟩:=iI hQ (rc r λ_=> .aH)
 simp(disch:=omega)only[go_sem,H.cell_of (y hA FA),a3,VT hA r om,hQ,eB]
 refine aP (λs l o=> ∃(j:Nat) (ρ:Nat->Nat),(∃g:Nat->V,l= [.ptr D 0,g 1,g 2,.mp M,g 4,g 5,g 6,.sl Q 0 r (.kn r),g 8,g 9,g 10,g 11,g 12,g 13,g 14,g 15,g 16,g 17,g 18,aC r,aC j,g 21,g 22,g 23,g 24])/\j<=r/\o.get Q=some (.cells false (rc r λa=>if a<j then .sl (ρ a) 0 r (.kn r) else .aH))/\(∀a,a<j->Q<ρ a/\ρ a<o.next/\o.get (ρ a)=some (.cells false (rc r λk=> aC (mW G L K i a k:Nat))))/\Fr hA o/\Q<o.next/\s=r-j) r
  ⟨0,λ_=>0,aD rfl,fY _,by rw[gB];rfl,λa h=>om,fB,om,rfl⟩ ?_
 rintro s l h2 ⟨j,ρ,⟨g',rfl⟩,hj,gQ,rows,F,nQ,rfl⟩
 have F0:=FA.trans F
 by_cases O:(j:Int)<(r:Int)
 case neg=>
  have d1:=bZ O;obtain rfl:j=r:=om
  refine bM d1 ?_;refine⟨⟨Q,ρ,by rw[a1],by have:=FA.next;omega,nQ,?_,by rw[a1];exact rows⟩,F0⟩;rw[gQ,a1];congr 2;exact bW λa ha=>by rw[aS ha]
 have d1:=cV O
 have a6:j<r:=om
 obtain⟨S,hS⟩:=exI h2.next
 obtain⟨h3,e3,n3,g3,o3,f3⟩:=iI hS (rc r λ_=> aC 0)
 have d9:h3.get Q=some (.cells false (rc r λa=>if a<j then .sl (ρ a) 0 r (.kn r) else .aH)):=by rw[o3 Q om];exact gQ
 obtain⟨h4,e4,n4,g4,o4⟩:=xN h3 Q (rc r λa=>if a<j+1 then .sl (if a=j then S else ρ a) 0 r (.kn r) else .aH)
 have p4:dY (some (.cells false (rc r λa=>if a<j then .sl (ρ a) 0 r (.kn r) else .aH))) h3 Q j [.sl S 0 r (.kn r)]=some h4:=by
  rw[bE (by rw[dE];exact a6),iQ,<-e4];congr 4;refine bW λa ha=>?_
  by_cases e:a=j
  .rw[aS e,aS om,aS e]
  .rw[aQ e]
   by_cases e2:a<j
   .rw[aS e2,aS om,aQ e]
   .rw[aQ e2,aQ om]
 have F4:Fr hA h4:=⟨by have:=F.next;omega,λq hq=>by rw[o4 q om,o3 q om];exact F.get q hq⟩
 have f9:h4.cell Q j=some (.sl S 0 r (.kn r)):=by
  rw[H.cell_of g4,yA a6,aS om,aS rfl]
 simp(disch:=omega)only[go_sem,d1,H.cell_of (y h2 F0),a3,anO h2 r om,hS,e3,d9,p4,f9]
 refine aP (λs l o=> ∃(k:Nat),(∃g:Nat->V,l= [.ptr D 0,g 1,g 2,.mp M,g 4,g 5,g 6,.sl Q 0 r (.kn r),aC j,g 9,g 10,g 11,g 12,g 13,g 14,g 15,g 16,g 17,g 18,aC r,aC j,g 21,aC r,aC k,g 24])/\k<=r/\o.get S=some (.cells false (rc r λa=> aC (if a<k then mW G L K i j a else 0:Nat)))/\Fx (· =S) h4 o/\s=r-k) r
  ⟨0,aD rfl,fY _,by rw[o4 S om,g3];rfl,Fx.refl _ _,rfl⟩ ?_
 rintro s l P ⟨k,⟨g2,rfl⟩,hk,gS,F5,rfl⟩
 have n5:=F5.next
 have b9:P.get Q=some (.cells false (rc r λa=>if a<j+1 then .sl (if a=j then S else ρ a) 0 r (.kn r) else .aH)):=by rw[F5.get Q om (by show Q≠S;omega)];exact g4
 have b4:Fr hA P:=⟨by have:=F4.next;omega,λq hq=>by rw[F5.get q (by have:=F4.next;omega) (by show q≠S;have:=F.next;omega)];exact F4.get q hq⟩
 by_cases J:(k:Int)<(r:Int)
 case neg=>
  have d3:=bZ J;obtain rfl:k=r:=om
  refine bM d3 ?_;rw[fJ j];refine⟨k-(j+1),om,j+1,λa=>if a=j then S else ρ a,aD rfl,om,b9,λa ha=>?_,b4,om,rfl⟩;show Q<(if a=j then S else ρ a)/\(if a=j then S else ρ a)<P.next/\P.get (if a=j then S else ρ a)=_
  by_cases e:a=j
  .subst e
   rw[aS rfl];refine⟨om,om,?_⟩;rw[gS];congr 2;exact bW λb hb=>by rw[aS hb]
  .rw[aQ e]
   obtain⟨r1,r2,r3⟩:=rows a om;exact⟨r1,om,by rw[F5.get _ om (by show ρ a≠S;omega),o4 _ om,o3 _ om];exact r3⟩
 have d3:=cV J
 have B:k<r:=om
 have f4:P.get M=some (.wmap (.arr 2 .i64) (eU Zy m)):=by rw[b4.get _ nM];exact gM
 have PQ:PkP (j,k):=⟨by show j<1000000;omega,by show k<1000000;omega⟩
 have N:=Cd Rg Io Y PQ (aC 0)
 rw[lk j k B] at N
 have a0:Ni (some (.wmap (.arr 2 .i64) (eU Zy m))) (.arr 2 .i64) (aC 0) false (V.agg [aC j,aC k])=some (aC (mW G L K i j k:Nat)):=N
 have d0:P.cell Q j=some (.sl S 0 r (.kn r)):=by
  rw[H.cell_of b9,yA a6,aS om,aS rfl]
 have pS:=λo=>bE (vs:=rc r λa=> aC (if a<k then mW G L K i j a else 0:Nat)) (off:=k) (by rw[dE];exact B) o S (aC (mW G L K i j k:Nat))
 refine Ie d3 d0 @PZ f4 a0 gS pS ?_
 rw[fJ k]
 refine⟨r-(k+1),om,k+1,aD rfl,om,?_,?_,rfl⟩
 .rw[iQ]
  congr 2
  refine bW λa ha=>?_
  by_cases e:a=k
  .rw[aS e,aS om,e]
  .rw[aQ e]
   by_cases e2:a<k
   .rw[aS e2,aS om]
   .rw[aQ e2,aQ om]
 .refine (F5.trans (Fx.of (W:=(· =S)) ((Fr.refl P).cU (n:=P.next+12) om)) λ_ _ h=>h).trans ?_ (λ_ _ h=>h)
  exact Fx.set _ (W:=(· =S)) rfl _
set_option maxHeartbeats 32000000
structure amG (b r:Nat)(f:Nat->Int)(hh:H)(v:V):Prop where
 ex: ∃S,v= .sl S 0 r (.kn r)/\b<=S/\S<hh.next/\hh.get S=cE (rc r λk=> aC (f k))
theorem amG.si {b r:Nat}{f:Nat->Int}{c:H}{v:V}(o:amG b r f c v):SI c v ((List.range r).map f):=by
 obtain⟨S,rfl,_,d,a⟩:=o.ex
 have e:(rc r λk=>aC (f k))=ints ((List.range r).map f):=by
  simp [rc,ints,Function.comp_def]
 rw[e] at a;exact SV.all (by rw[aE,dO,gT,jP]) d a _
set_option maxHeartbeats 16000000
noncomputable def TE (G:List Nat->Prop)(L:LN)(K:List Nat)(i:Nat):List (List Int):=(List.range K.length).map λj=>zi ((List.range K.length).map (mW G L K i j))
theorem UQ {P:Nat->Prop}(J:V)(z:Int)(n:Nat)(O:LN)(R:nZ)(G:List Nat->Prop)(h:H)(b:GC P h J n O R G)(L:LN)(F:cK O R n 0 (bI n)=L)(s:(dR G L L.length).length<60000):
  Ev T 18 [J,aC z] h (λv h'=> ∃K,vU n G L K/\Fr h h'/\(64<K.length/\v= .tup [.aH,aC 5]\/K.length<=64/\((z<0\/(K.length:Int)<=z)/\v= .tup [.aH,aC 2]\/ ∃(i:Nat) (vl:V),z=(i:Int)/\i<K.length/\v= .tup [vl,aC 0]/\SR h' vl (TE G L K i)))):=by
 have y:=b
 obtain⟨r,t,rfl,W,sR⟩:=b.ch
 have k:r.one=true:=NB W
 have l:t.one=true:=KY sR
 obtain⟨E,ll⟩:=dV b.kT b.isc
 have a1:=kF b
 rw[F] at E ll
 obtain⟨B,N⟩:=exI h.next
 obtain⟨h1,e1,n1,g1,o1,d⟩:=iI N [aC n,r,t]
 have Q:=dH h (v:= aC n) (u:=r) (w:=t) rfl k l
 refine Nk Q N e1 (bU g1) ?_
 refine (adW _ n O R G h1 (y.mono d) L F s).mono ?_
 rintro _ U ⟨K,f,o,⟨a,rfl⟩|⟨a,D,rfl,c⟩⟩
 .refine aT ?_
  refine bV (λ_=>?_) (λA=>(A deC).elim)
  refine aT ?_
  exact⟨K,f,d.trans o,.inl ⟨a,trivial⟩⟩
 refine aT ?_
 refine bV (λA=>(A rfl).elim) (λ_=>?_)
 obtain⟨vL,vC,Mn,ln,ks,gD,hD,a2,sL,sC,al,a0,Y,Z⟩:=c.ex
 have j:=(Df om sC al).1
 by_cases x:z<0
 .have m:=cV x
  refine eZ m @abL ?_
  exact⟨K,f,d.trans o,.inr ⟨a,.inl ⟨.inl x,trivial⟩⟩⟩
 have m:=bZ x
 by_cases q:(K.length:Int)<=z
 .have d2:=cV q
  simp(disch:=omega)only[go_sem,m,H.cell_of gD,j,d2]
  exact⟨K,f,d.trans o,.inr ⟨a,.inl ⟨.inr q,trivial⟩⟩⟩
 have d2:=bZ q
 obtain⟨i,rfl⟩: ∃i:Nat,z=(i:Int):=⟨z.toNat,om⟩
 simp(disch:=omega)only[go_sem,m,H.cell_of gD,j,d2]
 refine (MH D i n G L K U b.n7 b.kT E f om a c).mono ?_
 rintro vl h3 ⟨s3,f3⟩
 refine aT ?_
 exact⟨K,f,(d.trans o).trans f3,.inr ⟨a,.inr ⟨i,vl,rfl,om,rfl,s3.sr⟩⟩⟩
set_option maxHeartbeats 32000000
structure aiP (n:Nat)(G:List Nat->Prop)(L:LN)(K:List Nat)(D E:Nat)(hh:H):Prop where
 d:DO n G L K hh D
 g:hh.get E=cE [.ptr D 0]
 nx:E<hh.next
theorem aiP.mono {n:Nat}{G:List Nat->Prop}{L:LN}{K:List Nat}{D E:Nat}{h h':H}(c:aiP n G L K D E h)(f:Fr h h'):aiP n G L K D E h':=⟨c.d.mono f,by rw[f.get _ c.nx];exact c.g,iD c.nx f.next⟩
set_option maxHeartbeats 8000000
set_option maxHeartbeats 32000000
noncomputable def sX (G:List Nat->Prop)(L:LN)(K:List Nat)(i:Nat):Nat:=jJ G L K (L.idxOf (bY (L.getD (K.getD i 0) [])))
theorem aiH {n:Nat}{x:List Nat}(X:bJ n x):zp n x (-1)=bY x:=by
 have a:=rP X
 have e:zp n x (-1)=pw n x (fC x n- 1):=alL X (by
  rw[show ((fC x n- 1:Nat):Int)= -1+(fC x n:Nat)*1 by omega,Int.add_mul_emod_self_left])
 rw[e];refine uU (jW X _) X.inv X ?_;rw[dX X];have:aZ (pw n x (fC x n- 1)) x=pw n x (fC x n- 1+1):=rfl;rw[this,Nat.sub_add_cancel a,(mC X _).1 (Nat.dvd_refl _)]
section
variable {n:Nat} {G:List Nat->Prop} {L:LN} {K:List Nat} (hG:oK n G) (E:fW G L) (ik:vU n G L K)
include hG E ik
theorem acQ:L.getD (K.getD 0 0) []=bI n:=by
 rw[(sV hG E ik).2];exact (uE hG E).2
theorem aiK {y:List Nat}(a:G y):sQ G L K y=0↔y=bI n:=OH hG E ik a
theorem ajK {x:List Nat}(h:G x):sQ G L K (bY x)=sX G L K (sQ G L K x):=by
 have b:=Jg hG E ik h;have a:=pX E (ik.lt (bF (d:=0) b));obtain⟨c,f,e⟩:=(oY hG E ik a h).1 (yE hG E ik b);show _=sQ G L K (bY (L.getD (K.getD (sQ G L K x) 0) []));generalize sQ G L K x=k at*;rw[<-e,<-tT (hG.cF a) (hG.cF f),Un hG E ik (hG.inv a) f]
theorem QO {i:Nat}(hi:i<K.length):Mr n G L K (-1) (K.getD i 0)=sX G L K i:=by
 have h:=ik.lt (bF (d:=0) hi);rw[aeS];unfold sX;rw[aiH (jZ hG E h)]
end
end Go.Proofs.YtoighkablmjfeaaGreat
namespace Go.Proofs.YtoighkablmjfeaaGreat.Ln
open Go Go.Ay
theorem qS {l:List Int}{P:Int->Bool}:l.any P=true↔ ∃j,j<l.length/\P (l.getD j 0)=true:=by
 rw[List.any_eq_true];constructor
 .rintro⟨x,hx,hp⟩
  obtain⟨j,a,rfl⟩:=Bj.1 hx;exact⟨j,a,by rw[gV,dJ a];exact hp⟩
 .rintro⟨j,a,hp⟩
  rw[gV,dJ a] at hp;exact⟨l[j],Hn _,hp⟩
theorem ahZ (v:V)(l:List Int)(h:H)(f:SI h v l)(o:0<l.length)(F:l.length<1000000):Ev T 126 [v] h (λv h'=> ∃m,v= aC m/\h'=h/\ ∀t,decide (m<t)=l.any (λx=>decide (x<t))):=by
 obtain⟨id,d,c,A,s⟩:=f.open;have B:h.cell id d=some (aC (l.getD 0 0)):=s 0 o;refine pM @f.lens ?_;rw[bZ (show ¬(l.length:Int)<1 by omega)];refine eZ @c.ixa B ?_;refine aP (λu a r=> ∃(i:Nat) (m:Int),(∃g:Nat->V,a= [v,g 1,aC m,aC i,g 4,g 5])/\1<=i/\i<=l.length/\(∀t,m<t↔ ∃j,j<i/\l.getD j 0<t)/\r=h/\u=l.length-i) (l.length- 1)
  ⟨1,l.getD 0 0,aD rfl,dN _,o,λt=>⟨λx=>⟨0,om,x⟩,λ⟨j,q,x⟩=>by
   have:j=0:=om
   subst this;exact x⟩,rfl,rfl⟩ ?_
 rintro u a r ⟨i,m,⟨g,rfl⟩,w,z,k,rfl,rfl⟩;refine bM @f.lens ?_
 by_cases b:(i:Int)<(l.length:Int)
 .rw[cV b]
  have ci:=s i om;refine iG @c.ixa ci @TP ?_;rw[fJ i];refine⟨l.length-(i+1),om,i+1,_,aD rfl,om,om,λt=>?_,rfl⟩;constructor
  .intro x
   split at x
   .exact⟨i,om,x⟩
   .obtain⟨j,q,y⟩:=(k t).1 x
    exact⟨j,om,y⟩
  .rintro⟨j,q,y⟩
   by_cases n:j=i
   .subst n;split<;>omega
   .have:=(k t).2 ⟨j,om,y⟩
    split<;>omega
 .rw[bZ b]
  obtain rfl:i=l.length:=om
  refine aT ?_;refine⟨m,rfl,λt=>?_⟩;rw[Ri,decide_eq_true_eq,qS,k t];simp only[decide_eq_true_eq]
theorem akA (v:V)(l:List Int)(h:H)(f:SI h v l)(o:0<l.length)(F:l.length<1000000):Ev T 127 [v] h (λv h'=> ∃m,v= aC m/\h'=h/\ ∀t,decide (t<=m)=l.any (λx=>decide (t<=x))):=by
 obtain⟨id,d,c,A,s⟩:=f.open;have B:h.cell id d=some (aC (l.getD 0 0)):=s 0 o;refine pM @f.lens ?_;rw[bZ (show ¬(l.length:Int)<1 by omega)];refine eZ @c.ixa B ?_;refine aP (λu a r=> ∃(i:Nat) (m:Int),(∃g:Nat->V,a= [v,g 1,aC m,aC i,g 4,g 5])/\1<=i/\i<=l.length/\(∀t,t<=m↔ ∃j,j<i/\t<=l.getD j 0)/\r=h/\u=l.length-i) (l.length- 1)
  ⟨1,l.getD 0 0,aD rfl,dN _,o,λt=>⟨λx=>⟨0,om,x⟩,λ⟨j,q,x⟩=>by
   have:j=0:=om
   subst this;exact x⟩,rfl,rfl⟩ ?_
 rintro u a r ⟨i,m,⟨g,rfl⟩,w,z,k,rfl,rfl⟩;refine bM @f.lens ?_
 by_cases b:(i:Int)<(l.length:Int)
 .rw[cV b]
  have ci:=s i om;refine iG @c.ixa ci @XR ?_;rw[fJ i];refine⟨l.length-(i+1),om,i+1,_,aD rfl,om,om,λt=>?_,rfl⟩;constructor
  .intro x
   split at x
   .exact⟨i,om,x⟩
   .obtain⟨j,q,y⟩:=(k t).1 x
    exact⟨j,om,y⟩
  .rintro⟨j,q,y⟩
   by_cases n:j=i
   .subst n;split<;>omega
   .have:=(k t).2 ⟨j,om,y⟩
    split<;>omega
 .rw[bZ b]
  obtain rfl:i=l.length:=om
  refine aT ?_;refine⟨m,rfl,λt=>?_⟩;rw[Ri,decide_eq_true_eq,qS,k t];simp only[decide_eq_true_eq]
abbrev uQ:=Int×List (List Int)
def Jy (h:H)(v:V)(a:uQ):Prop:= ∃u,v= .agg [aC a.1,u]/\SR h u a.2
theorem Jy.mono {h h':H}{v:V}{a:uQ}(s:Jy h v a)(f:Fr h h'):Jy h' v a:=by
 have⟨u,e,s⟩:=s;exact⟨u,e,s.mono f⟩
def kA (p:Int)(n:Nat)(r:List Int):Bool:=decide (r.length=n)&&(!r.any (λx=>decide (x<0))&&!r.any (λx=>decide (p<=x)))
def iO (a:uQ):Int:=
 if fD a.1=false then 3
 else if a.2.length<1\/64<a.2.length\/(a.2.getD 0 []).length<1\/64<(a.2.getD 0 []).length then 2
 else if a.2.all (kA a.1 (a.2.getD 0 []).length) then 0 else 3
theorem VA {α:Type}{l:List α}{P:α->Bool}{i:Nat}(d:α)(hi:i<l.length):(l.take (i+1)).all P=((l.take i).all P&&P (l.getD i d)):=by
 rw[List.take_add_one,List.all_append,dJ hi,gV,dJ hi];simp
theorem ZZ {α:Type}{l:List α}{P:α->Bool}{i:Nat}(d:α)(hi:i<l.length)(a:P (l.getD i d)=false):l.all P=false:=by
 rw[List.all_eq_false];rw[gV,dJ hi] at a;exact⟨l[i],Hn _,by simpa using a⟩
theorem Bq (v:V)(a:uQ)(h:H)(ha:Jy h v a)(B:(a.2.length:Int)<=2^63- 1):Ev T 89 [v] h (λv h'=>v= aC (iO a)/\Fr h h'):=by
 obtain⟨u,rfl,t⟩:=ha;have⟨p,rows⟩:=a;simp only at t B;have hw:=SV.cT t.choose_spec.1;refine pM (oS h (v:= aC p) rfl hw.2.1) ?_;have b:Fr h (h.new (.cells false [aC p,u])):=(Fr.refl h).new _;have F:(h.new (.cells false [aC p,u])).get h.next=cE [aC p,u]:=H.aI ..;have b0:(h.new (.cells false [aC p,u])).next=h.next+1:=H.aM ..
 generalize h.new (.cells false [aC p,u])=Z at*;have x0:Z.cell h.next 0=some (aC p):=by rw[H.cell_of F];rfl
 have z:Z.cell h.next 1=some u:=by rw[H.cell_of F];rfl
 refine (anX p Z).mono ?_;rintro v h' ⟨rfl,rfl⟩
 cases hf:fD p with
 |false=>
  refine aT ?_;exact⟨by rw[iO,aS hf],b⟩
 |true=>
  have m: ∀w:Int,(if rows.length<1\/64<rows.length\/(rows.getD 0 []).length<1\/64<(rows.getD 0 []).length then (2:Int) else if rows.all (kA p (rows.getD 0 []).length) then 0 else 3)=w->iO (p,rows)=w:=λw e=>by
   rw[iO,aQ (by simp [hf])];exact e
  refine eZ z @t.lens ?_;refine bV (λa1=>?_) (λa1=>?_)
  .rw[cV a1]
   refine aT ?_;exact⟨by rw[m 2 (aS (.inl om))],b⟩
  rw[bZ a1];refine eZ z @t.lens ?_;refine bV (λa2=>?_) (λa2=>?_)
  .rw[cV a2]
   refine aT ?_;exact⟨by rw[m 2 (aS (.inr (.inl om)))],b⟩
  rw[bZ a2];obtain⟨id,q,O,K,G,a9,hc,o⟩:=(t.mono b).open;have c0:h'.cell id q=some (O.getD 0 .undef):=hc 0 om;have U:=Mz o (i:=0) om;refine jX z @K.ixa c0 @U.lens ?_;refine bV (λN=>?_) (λN=>?_)
  .rw[cV N]
   refine aT ?_;exact⟨by rw[m 2 (aS (.inr (.inr (.inl om))))],b⟩
  rw[bZ N];refine jX z @K.ixa c0 @U.lens ?_;refine bV (λL=>?_) (λL=>?_)
  .rw[cV L]
   refine aT ?_;exact⟨by rw[m 2 (aS (.inr (.inr (.inr om))))],b⟩
  rw[bZ L];refine eZ z @t.lens ?_;rw[aQ om] at m
  obtain⟨d,a6⟩: ∃n,(rows.getD 0 []).length=n:=⟨_,rfl⟩
  have l0:=U.lens;rw[a6] at m N L l0;refine aP (λk' k c=> ∃i:Nat,(∃g:Nat->V,k= [g 0,.ptr h.next 0,g 2,g 3,g 4,g 5,u,aC (rows.length:Int),aC i,g 9,g 10])/\i<=rows.length/\(rows.take i).all (kA p d)=true/\Fr h' c/\k'=rows.length-i) rows.length
   ⟨0,aD rfl,fY _,rfl,Fr.refl h',rfl⟩ ?_
  rintro k' k c ⟨i,⟨g,rfl⟩,hi,Q,R,rfl⟩;refine aT ?_
  by_cases J:(i:Int)<(rows.length:Int)
  .rw[cV J]
   have ci:c.cell id (q+i)=some (O.getD i .undef):=by rw[R.cell (G om)];exact hc i om
   have s:=Mz o (i:=i) om;have lr:=s.lens;obtain⟨r,hr⟩:=exI (rows.getD i []);rw[hr] at lr s;refine eZ @K.ixa ci ?_;have f:=R.cU (n:=c.next+20) om;have y:(H.mk c.tr (c.next+20)).cell h.next 0=some (aC p):=by rw[f.cell om];exact x0
   have z1:(H.mk c.tr (c.next+20)).cell h.next 1=some u:=by rw[f.cell om];exact z
   have zc:(H.mk c.tr (c.next+20)).cell id q=some (O.getD 0 .undef):=by rw[f.cell (G om)];exact c0
   have ri:=s.mono f;have hm:=VA (P:=kA p d) (l:=rows) (i:=i) [] om;have j:=ZZ (P:=kA p d) (l:=rows) (i:=i) [] om;rw[hr] at hm j;generalize H.mk c.tr (c.next+20)=hh at*;generalize O.getD i .undef=wi at*;have Y:kA p d r=false->iO (p,rows)=3:=λhg=>m 3 (aQ (by rw[j hg];simp))
   have a0:kA p d r=true->(rows.take (i+1)).all (kA p d)=true:=λhg=>by rw[hm,Q,hg];rfl
   refine nW lr z1 @K.ixa zc l0 ?_
   by_cases A:r.length=d
   .have d1:decide ((r.length:Int)≠(d:Int))=false:=bZ om
    refine bM d1 ?_;refine (ahZ wi r hh ri om om).mono ?_;rintro v a7 ⟨mn,rfl,rfl,a5⟩;refine aT ?_;have e1:=a5 0
    cases hA:r.any (λx=>decide (x<0)) with
    |true=>
     rw[hA] at e1;refine iG e1 @abL y ?_;exact⟨by rw[Y (by rw[kA,hA];simp)],b.trans f⟩
    |false=>
     rw[hA] at e1;refine eZ e1 y ?_;refine (akA wi r _ ri om om).mono ?_;rintro v a8 ⟨mx,rfl,rfl,W⟩;have e2:=W p;refine eZ y e2 ?_
     cases hB:r.any (λx=>decide (p<=x)) with
     |true=>
      refine eZ y e2 ?_;exact⟨by rw[Y (by rw[kA,hA,hB];simp)],b.trans f⟩
     |false=>
      refine eZ y e2 ?_;rw[fJ i];exact⟨rows.length-(i+1),om,i+1,aD rfl,om,a0 (by rw[kA,hA,hB,cV A];rfl),f,rfl⟩
   .have d1:decide ((r.length:Int)≠(d:Int))=true:=cV om
    refine iG d1 @abL y ?_;exact⟨by rw[Y (by rw[kA,bZ A];rfl)],b.trans f⟩
  .rw[bZ J]
   obtain rfl:i=rows.length:=om
   rw[List.take_length] at Q;refine aT ?_;exact⟨by rw[m 0 (aS Q)],b.trans R⟩
theorem gO {a p:Int}(b:0<=a):a.tmod p=a%p:=Int.tmod_eq_emod_of_nonneg b
theorem aaP (p x:Int)(h:H):Ev T 258 [aC p,aC x] h (λv h'=> ∃ix ip,v= .fn 270 [] [.ptr ix 0,.ptr ip 0]/\h'.cell ix 0=some (aC x)/\h'.cell ip 0=some (aC p)/\(h.next<=ix/\ix<h'.next)/\(h.next<=ip/\ip<h'.next)/\Fr h h'):=by
 refine lG ?_;have a:=(Fr.refl h).new (.cells false [aC p])
 have b:((h.new (.cells false [aC p])).new (.cells false [aC x])).get (h.next+1)=cE [aC x]:=by
  have:=H.aI (h.new (.cells false [aC p])) (.cells false [aC x]);rw[H.aM] at this;exact this
 have c:((h.new (.cells false [aC p])).new (.cells false [aC x])).get h.next=cE [aC p]:=by
  rw[H.bG _ (by rw[H.aM];omega)];exact H.aI ..
 exact⟨_,_,rfl,by rw[H.cell_of b];rfl,by rw[H.cell_of c];rfl,om,om,a.new _⟩
theorem YB (f d:Nat)(p x a b:Int)(h:H)(j:h.cell f 0=some (aC x))(i:h.cell d 0=some (aC p))(l:0<=a/\a<1000000000)(m:0<=x*b/\x*b<1000000000000)(c:0<p)(k:p<1000000):
  mD T (.fn 270 [] [.ptr f 0,.ptr d 0]) [aC a,aC b] h (λv h'=>v= aC ((a+x*b)%p)/\h'=h):=by
 have e:=gO (a:=a+x*b) (p:=p) om
 have r:=bX (a+x*b) c
 show Ev T 270 [aC a,aC b,.ptr f 0,.ptr d 0] h _
 refine mV ?_
 exact amM @aV j i e
theorem akI (A t f:V)(a b:List Int)(G:Int->Int->Int)(h:H)(R:SI h A a)(Y:SI h t b)(U:a.length<=b.length)(hl:a.length<1000000)(hf: ∀h',Fr h h'-> ∀i,i<a.length->mD T f [aC (a.getD i 0),aC (b.getD i 0)] h' (λv h''=>v= aC (G (a.getD i 0) (b.getD i 0))/\h''=h')):
  Ev T 257 [A,t,f] h (λv h'=>dF h' v 1 (ints (List.zipWith G a b)) h.next/\Fr h h'):=by
 have K:sD h 1 8 [aC 0] (aC (a.length:Int)) (aC (a.length:Int))=some (.sl h.next 0 a.length (.kn a.length),h.new (.cells false (ints (List.replicate a.length 0)))):=by
  rw[iH om (Int.le_refl _) om om,Mc,jP,qT]
 refine Hv @R.lens K ?_
 have J:Fr h (h.new (.cells false (ints (List.replicate a.length 0)))):=(Fr.refl h).new _
 have y:(h.new (.cells false (ints (List.replicate a.length 0)))).get h.next=cE (ints (List.replicate a.length 0)):=H.aI ..
 have F:(h.new (.cells false (ints (List.replicate a.length 0)))).next=h.next+1:=H.aM ..
 generalize h.new (.cells false (ints (List.replicate a.length 0)))=hz at*
 obtain⟨z,q,sa,l,Z⟩:=R.open
 obtain⟨w,r,sb,n,cb⟩:=Y.open
 refine aP (λO c d=> ∃(i:Nat) (o:List Int),(∃g:Nat->V,c= [g 0,t,f,g 3,.sl h.next 0 a.length (.kn a.length),g 5,g 6,A,aC (a.length:Int),aC i,g 10])/\i<=a.length/\o.length=a.length/\(∀k,k<i->o.getD k 0=G (a.getD k 0) (b.getD k 0))/\d.get h.next=cE (ints o)/\d.next=h.next+1/\Fr h d/\O=a.length-i) a.length
  ⟨0,_,aD rfl,fY _,List.length_replicate ..,λk N=>absurd N (Nat.not_lt_zero k),y,F,J,rfl⟩ ?_
 rintro O c d ⟨i,o,⟨g,rfl⟩,hi,x,P,L,W,s,rfl⟩
 refine aT ?_
 by_cases m:(i:Int)<(a.length:Int)
 .rw[cV m]
  have B:d.cell z (q+i)=some (aC (a.getD i 0)):=by rw[s.cell (l om)];exact Z i om
  have u:d.cell w (r+i)=some (aC (b.getD i 0)):=by rw[s.cell (n om)];exact cb i om
  refine jX @sa.ixa @sb.ixa B u ?_
  refine (hf d s i om).mono ?_
  rintro v h4 ⟨rfl,rfl⟩
  refine bM L ?_
  rw[fJ i]
  refine⟨a.length-(i+1),om,i+1,o.set i (G (a.getD i 0) (b.getD i 0)),aD rfl,om,by rw[List.length_set];exact x,λk N=>?_,rfl,W,s.set (dN _) _,rfl⟩
  rw[uB]
  by_cases Q:i=k
  .subst Q;rw[aS rfl,aS om]
  .rw[aQ Q];exact P k om
 .rw[bZ m]
  obtain rfl:i=a.length:=om
  refine aT ?_
  have:List.zipWith G a b=o:=by
   refine vH (by rw[List.length_zipWith,x];omega) λj hj=>?_
   rw[List.length_zipWith] at hj;rw[P j om,gV,List.getElem?_zipWith,gV,gV,dJ (show j<a.length by omega),dJ (show j<b.length by omega)]
   rfl
  rw[this]
  exact⟨.inr ⟨h.next,a.length,_, [],rfl,by rw[aE,x,jP],.inr ⟨rfl,rfl⟩,dN _,om,by rw[qH];exact L⟩,s⟩
section
variable {n:Nat} {f:Nat->Int}
def kH (rows:List (List Int))(i k:Nat):Int:=(rows.getD i []).getD k 0
def eN (n:Nat)(f:Nat->Int):List Int:=(List.range n).map f
theorem aW (n:Nat)(f:Nat->Int):(eN n f).length=n:=by rw[eN,dO,gT]
theorem cZ (f:Nat->Int){k:Nat}(a:k<n):(eN n f).getD k 0=f k:=by
 rw[eN,gV,Al,List.getElem?_range a];rfl
theorem tE {l:List Int}(a:l.length=n)(h: ∀k,k<n->l.getD k 0=f k):l=eN n f:=
 vH (by rw[aW];exact a) λk b=>by rw[cZ f om];exact h k om
theorem fN {g:Nat->Int}(h: ∀k,k<n->f k=g k):eN n f=eN n g:=tE (aW n f) λk a=>by rw[cZ f a];exact h k a
theorem abW {l:List Int}(b:l.length=n)(G:Int->Int->Int):List.zipWith G (eN n f) l=eN n (λk=>G (f k) (l.getD k 0)):=by
 refine tE (by rw[List.length_zipWith,aW,b];omega) λk a=>?_
 rw[gV,List.getElem?_zipWith];have e1:=cZ f a;rw[gV,dJ (by rw[aW];exact a)] at e1;rw[dJ (show k<(eN n f).length by rw[aW];exact a),dJ (show k<l.length by omega),gV,dJ (show k<l.length by omega)];simp only[Option.getD_some] at e1 |-;rw[e1]
structure Vd (a:uQ)(c:Nat):Prop where
 p:fD a.1=true
 r1:1<=a.2.length
 r2:a.2.length<=64
 c1:1<=c
 c2:c<=64
 row: ∀i,i<a.2.length->(a.2.getD i []).length=c
 lo: ∀i k,i<a.2.length->k<c->0<=kH a.2 i k
 hi: ∀i k,i<a.2.length->k<c->kH a.2 i k<a.1
theorem yL {a:uQ}(h:iO a=0):Vd a (a.2.getD 0 []).length:=by
 rw[iO] at h;split at h
 .cases h
 rename_i q;split at h
 .cases h
 rename_i r;split at h
 .rename_i j
  have m: ∀i,i<a.2.length->kA a.1 (a.2.getD 0 []).length (a.2.getD i [])=true:=λi hi=>by
   rw[gV (l:=a.2) (i:=i),dJ hi];exact uR.1 j _ (Hn _)
  have b: ∀i,i<a.2.length->(a.2.getD i []).length=(a.2.getD 0 []).length/\ ∀k,k<(a.2.getD i []).length->0<=kH a.2 i k/\kH a.2 i k<a.1:=λi hi=>by
   have o:=m i hi;simp only[kA,oD,decide_eq_true_eq,Bool.not_eq_true'] at o;refine⟨o.1,λk d=>⟨?_,?_⟩⟩
   .refine Int.not_lt.1 λc=>?_
    have:=(qS (P:=λx=>decide (x<0))).2 ⟨k,d,cV c⟩;rw[o.2.1] at this;cases this
   .refine Int.not_le.1 λc=>?_
    have:=(qS (P:=λx=>decide (a.1<=x))).2 ⟨k,d,cV c⟩;rw[o.2.2] at this;cases this
  exact⟨by simpa using q,om,om,om,om,λi hi=>(b i hi).1,λi k hi d=>((b i hi).2 k (by rw[(b i hi).1];exact d)).1,λi k hi d=>((b i hi).2 k (by rw[(b i hi).1];exact d)).2⟩
 .cases h
theorem yJ {a:uQ}{c:Nat}(v:Vd a c):iO a=0:=by
 have h:=v.row 0 v.r1;have:=v.r1;have:=v.r2;have:=v.c1;have:=v.c2;rw[iO,aQ (by rw[v.p];simp),aQ om,aS];rw[uR];intro r d;obtain⟨i,hi,rfl⟩:=Bj.1 d;have e:a.2[i]=a.2.getD i []:=by rw[gV,dJ hi];rfl
 have b:=v.row i hi;rw[kA,e,b,h,cV rfl,Bool.true_and,oD,Bool.not_eq_true',Bool.not_eq_true'];constructor
 .rw[<-Bool.not_eq_true,qS]
  rintro⟨k,hk,hd⟩;have:=v.lo i k hi om;rw[kH] at this;have:=of_decide_eq_true hd;omega
 .rw[<-Bool.not_eq_true,qS]
  rintro⟨k,hk,hd⟩;have:=v.hi i k hi om;rw[kH] at this;have:=of_decide_eq_true hd;omega
end
section
variable {h h':H} {ws:List V} {w u:V} {ll:List (List Int)} {lo a:Nat}
theorem EI {x y v:V}{sz bytes b n m:Nat}{us:List V}(o:dF h x sz ws b)(j:ws.length=n*sz)(c:m≠0)(d:0<sz)(f:SV h y sz us)(l:us.length=m*sz)(e:tW h sz bytes x y=some (v,h')):v= .sl h.next 0 (n+m) (.un sz):=by
 simp only[tW,f.len l d,f.slice] at e;unfold Ay.tV at e;simp only[o.sv.len j d,o.sv.slice,aQ c] at e;split at e
 .rcases o with ⟨rfl,rfl⟩|⟨id,k,s,i,rfl,r,q,A,z,t⟩
  .simp at e;exact e.1.symm
  .have:k=n:=Nat.eq_of_mul_eq_mul_right d (r.symm.trans j)
   subst this;rcases q with rfl|⟨rfl,rfl⟩
   .simp only[t,if_true] at e
    simp at e;exact e.1.symm
   .simp only at e
    rw[aQ om] at e;simp at e;exact e.1.symm
 .cases e
theorem SI.lt {r:List Int}(s:SI h w r){id off n:Nat}{c:qD}(e:w= .sl id off n c):id<h.next:=by
 rcases s with ⟨b|⟨_,b⟩,_⟩|⟨f,i,j,k,_,_,b,_,d,_⟩
 .rw[b] at e;cases e
 .rw[b] at e;cases e
 .rw[b] at e;cases e;exact d
theorem SI.iU {r:List Int}(s:SI h w r)(x:h.next<=h'.next)(t: ∀id off n c,w= .sl id off n c->h'.get id=h.get id):SI h' w r:=by
 rcases s with b|⟨id,v,k,m,l,f,b,i,q,j,o,d⟩
 .exact .inl b
 .exact .inr ⟨id,v,k,m,l,f,b,i,iD q x,by rw[t _ _ _ _ b];exact j,o,d⟩
theorem bH.iU {α β:Type}{R S:α->β->Prop}:{as9:List α}->{bs:List β}->bH R as9 bs->(∀a∈as9,∀b,R a b->S a b)->bH S as9 bs
 | [], [],_,_=>trivial
 |a::as9,b::bs,h,k=>⟨k a (wI ..) b h.1,bH.iU h.2 λx c y=>k x (wH _ c) y⟩
 | [],_::_,h,_=>h.elim
 |_::_, [],h,_=>h.elim
theorem kI {sz b k:Nat}(o:dF h u sz ws b)(i:k<b):cW u k:=by
 rcases o with ⟨c,_⟩|⟨id,n,f,d,c,_,_,j,_⟩
 .rw[c];exact cW.aH k
 .rw[c];exact cW.sl om
structure tD (h:H)(u:V)(ws:List V)(ll:List (List Int))(lo:Nat):Prop where
 own:dF h u 1 ws lo
 row:bH (SI h) ws ll
 uY: ∀w∈ws,NI u w
 frs: ∀w∈ws,zQ w lo
theorem tD.aH (h:H)(lo:Nat):tD h .aH [] [] lo:=⟨dF.aH _ _ _,trivial,λ_ h=>(by cases h),λ_ h=>by cases h⟩
theorem tD.sr (r:tD h u ws ll lo):SR h u ll:=⟨ws,r.own.sv,r.row⟩
theorem tD.fr (r:tD h u ws ll lo)(f:Fr h h'):tD h' u ws ll lo:=⟨r.own.fr f,r.row.mono λ_ _ s=>s.mono f,r.uY,r.frs⟩
theorem tD.set {x:Nat}(r:tD h u ws ll lo)(i:x<lo)(o:Option Ob):tD (h.set x o) u ws ll lo:=
 ⟨r.own.set i o,bH.iU r.row λw d b s=>SI.iU s (dN _) λid f n c e=>H.Cj h (by have:=r.frs w d _ _ _ _ e;omega) o,r.uY,r.frs⟩
theorem tD.app (r:tD h u ws ll lo)(q:lo<=h.next){y:V}{l:List Int}(A:SV h y 1 [w])(z:SI h w l)(K:NI u w)(R:zQ w lo)(W:ws.length<1000000):
  ∃v h',tW h 1 24 u y=some (v,h')/\tD h' v (ws++ [w]) (ll++ [l]) lo/\h.next<=h'.next/\(∀k,k<h.next->cW u k->h'.get k=h.get k)/\ ∀a,Fr a h->a.next<=lo->Fr a h':=by
 obtain⟨v,h',e,a⟩:=r.own.app (bytes:=24) (n:=ws.length) (m:=1) (us:= [w]) (y:=y) q A om rfl om om
 have J:=EI r.own (n:=ws.length) om (m:=1) om om A rfl e
 have t:=a.get
 have Y:=a.next
 have iU: ∀x l,SI h x l->NI u x->SI h' x l:=λx l s d=>SI.iU s om λid N n c e=>t id (SI.lt s e) λP Q B F L G=>d _ _ _ _ L _ _ _ _ e G.symm
 refine⟨v,h',e,⟨a.own,bH.append (bH.iU r.row λx f b s=>iU x b s (r.uY x f)) ⟨iU w l z K,trivial⟩,λx f=>?_,λx f=>(by
  rcases Es.1 f with f|f
  .exact r.frs x f
  .rw[List.mem_singleton.1 f];exact R)⟩,om,t,a.fr⟩
 have j: ∃l,SI h x l:=by
  rcases Es.1 f with f|f
  .obtain⟨i,hi,rfl⟩:=Bj.1 f
   have:=r.row.length;exact⟨_,r.row.get i hi om⟩
  .rw[List.mem_singleton.1 f];exact⟨_,z⟩
 have⟨U,O⟩:=j
 intro i o n c e1 Z Q B F e2
 rw[J] at e1;cases e1
 have:=SI.lt O e2
 omega
def Cf (h:H)(a:Nat)(w:V):H:=H.mk ((H.mk h.tr a).new (.cells false [w])).tr h.next
theorem TY (h:H)(a:Nat)(w:V):H.mk ((H.mk h.tr a).new (.cells false [w])).tr h.next=Cf h a w:=rfl
theorem LA (h:H)(a:Nat)(w:V):(Cf h a w).get a=cE [w]:=by
 rw[Cf,H.kL];exact H.aI ..
theorem Vw (h:H){k:Nat}(w:V)(b:k≠a):(Cf h a w).get k=h.get k:=by
 rw[Cf,H.kL,H.bG _ b,H.kL]
theorem VQ {b:H}(f:Fr b h)(d:b.next<=a)(w:V):Fr b (Cf h a w):=⟨f.next,λk c=>(Vw h w om).trans (f.get k c)⟩
theorem SJ (h:H)(w:V)(b:a<h.next):SV (Cf h a w) (.sl a 0 1 (.kn 1)) 1 [w]:= .inr ⟨a,0,1,_,false, [w],rfl,rfl,b,LA h a w,dN _,rfl⟩
end
def kM (r c:Nat)(f:Nat->Nat->Int):List (List Int):=(List.range r).map λi=>eN c (f i)
theorem dC (r c:Nat)(f:Nat->Nat->Int):(kM r c f).length=r:=by rw[kM,dO,gT]
theorem jT {r c:Nat}(f:Nat->Nat->Int){i:Nat}(hi:i<r):(kM r c f).getD i []=eN c (f i):=by
 rw[kM,gV,Al,List.getElem?_range hi];rfl
theorem mG {r c:Nat}(f:Nat->Nat->Int){i k:Nat}(hi:i<r)(a:k<c):kH (kM r c f) i k=f i k:=by rw[kH,jT f hi,cZ _ a]
theorem zK {r c:Nat}{f g:Nat->Nat->Int}(h: ∀i k,i<r->k<c->f i k=g i k):kM r c f=kM r c g:=by
 rw[kM,kM];refine Nt λi hi=>fN λk a=>h i k (mS.1 hi) a
theorem alI (h:H)(w:V)(b:w.cells= [w])(a:w.one=true):lU h 1 [.aH] 1 [(0,1,w)]=some (.sl h.next 0 1 (.kn 1),h.new (.cells false [w])):=by
 have e1:putAt [V.aH] 0 [w]=some [w]:=by simp [putAt]
 simp only[lU,fP,cJ,b,List.length_singleton,List.all_cons,List.all_nil,a,Bool.and_self,and_self,if_true,e1,Option.map_some];simp [b,a,putAt]
theorem tD.le {h:H}{u:V}{ws:List V}{d:List (List Int)}{b a:Nat}(r:tD h u ws d b)(c:a<=b):tD h u ws d a:=⟨r.own.le c,r.row,r.uY,λw f=>(r.frs w f).le c⟩
def De (h:H)(v:V)(a:uQ)(lo:Nat):Prop:= ∃u ws,v= .agg [aC a.1,u]/\tD h u ws a.2 lo
theorem De.mv {h:H}{v:V}{a:uQ}{b:Nat}(o:De h v a b):Jy h v a:=by
 have⟨u,c,e,r⟩:=o;exact⟨u,e,r.sr⟩
def Km (a b:uQ)(ca cb:Nat):uQ:=(a.1,kM a.2.length cb (λi k=>sm ca (λj=>kH a.2 i j*kH b.2 j k)%a.1))
def bxH (h:H)(N:Int)(u:V):H:=(h.new (.cells false [aC 0,.aH])).set h.next (cE [aC N,u])
theorem ajT (h:H)(N:Int)(u:V):Fr h (bxH h N u):=((Fr.refl h).new _).set (dN _) _
theorem aeJ (h:H)(N:Int)(u:V):(bxH h N u).get h.next=cE [aC N,u]:=H.aJ ..
theorem RZ (h:H)(N:Int)(u:V):(bxH h N u).next=h.next+1:=by rw[bxH,H.bT,H.aM]
def KQ (a b:uQ):Int:=if iO a≠0 then iO a else if iO b≠0 then iO b else if b.1≠a.1 then 10 else 0
def akO (a b:uQ):uQ×Int:=
 if KQ a b≠0 then ((0, []),KQ a b) else if (a.2.getD 0 []).length≠b.2.length then ((0, []),10) else (Km a b (a.2.getD 0 []).length (b.2.getD 0 []).length,0)
theorem PS {h h':H}{ws:List V}{c:List (List Int)}(a:bH (SI h) ws c)(i:Nat){w:V}{l:List Int}(d:SI h' w l)(k: ∀x∈ws,∀b,SI h x b->SI h' x b):bH (SI h') (ws.set i w) (c.set i l):=(bH.iU a k).set i d
theorem tD.put {h h':H}{R n:Nat}{c:qD}{ws:List V}{t:List (List Int)}{f:Nat}(r:tD h (.sl R 0 n c) ws t f)(L:c= .kn n)(F:h.next<=h'.next)(B: ∀k,k<h.next->k≠R->h'.get k=h.get k){i:Nat}{w:V}{l:List Int}(J:h'.get R=cE (ws.set i w))(v:SI h' w l)(q:zQ w h.next):tD h' (.sl R 0 n c) (ws.set i w) (t.set i l) f:=by
 subst L
 have d:R<h.next/\f<=R/\ws.length=n*1:=by
  rcases r.own with ⟨j,_⟩|⟨id,O,K,u,j,z,_,A,G,_⟩
  .cases j
  .cases j;exact⟨G,A,z⟩
 refine⟨.inr ⟨R,n,.kn n, [],rfl,by rw[List.length_set];exact d.2.2,.inr ⟨rfl,rfl⟩,d.2.1,om,by rw[qH];exact J⟩,PS r.row i v λx a b s=>SI.iU s F λid y m c e=>B id (SI.lt s e) λe2=>r.uY x a _ _ _ _ rfl _ _ _ _ e e2.symm,λx a=>?_,λx a=>?_⟩
 .rcases List.mem_or_eq_of_mem_set a with a|rfl
  .exact r.uY x a
  .intro U o m c e Q W P N e2
   cases e;have:=q _ _ _ _ e2;omega
 .rcases List.mem_or_eq_of_mem_set a with a|rfl
  .exact r.frs x a
  .exact q.le om
def amR (n:Nat)(p:Int):uQ:=(p,kM n n (λi k=>if i=k then 1 else 0))
def alF (n p:Int):uQ×Int:=if fD p=false then ((0, []),3) else if n<1\/64<n then ((0, []),2) else (amR n.toNat p,0)
set_option maxRecDepth 100000
set_option maxRecDepth 100000
theorem tD.get {h:H}{R n:Nat}{ws:List V}{i:List (List Int)}{k:Nat}(r:tD h (.sl R 0 n (.kn n)) ws i k):h.get R=cE ws/\ws.length=n/\R<h.next:=by
 rcases r.own with ⟨b,_⟩|⟨id,l,j,d,b,m,a,_,f,c⟩
 .cases b
 .cases b
  rcases a with a|⟨_,a⟩
  .cases a
  .subst a
   rw[qH] at c;exact⟨c,om,f⟩
def akS (a b:uQ):uQ×Int:=
 if KQ a b≠0 then ((0, []),KQ a b) else if a.2.length≠b.2.length\/(a.2.getD 0 []).length≠(b.2.getD 0 []).length then ((0, []),10)
 else ((a.1,kM a.2.length (a.2.getD 0 []).length (λi k=>(kH a.2 i k+1*kH b.2 i k)%a.1)),0)
section
variable {h:H} {R n lo:Nat} {ws:List V} {ll:List (List Int)}
structure PA (h:H)(R n:Nat)(ws:List V)(ll:List (List Int))(lo:Nat):Prop where
 gR:h.get R=cE ws
 lw:ws.length=n
 lr:ll.length=n
 hR:R<lo
 lt:lo<=h.next
 own: ∀k,k<n->dF h (ws.getD k .undef) 1 (ints (ll.getD k [])) lo
 uY: ∀k k',k<n->k'<n->k≠k'->NI (ws.getD k .undef) (ws.getD k' .undef)
theorem PA.fr {h':H}(g:PA h R n ws ll lo)(f:Fr h h'):PA h' R n ws ll lo:=
 ⟨(f.get R (iD g.hR g.lt)).trans g.gR,g.lw,g.lr,g.hR,kQ g.lt f.next,λk a=>(g.own k a).fr f,g.uY⟩
theorem PA.rws (g:PA h R n ws ll lo):tD h (.sl R 0 n (.kn n)) ws ll R:=by
 have q:=g.lt;have y:=g.hR;have b: ∀k (a:k<ws.length),ws.getD k .undef=ws[k]:=λk a=>by rw[gV,dJ a];rfl
 have f: ∀k (a:k<ll.length),ll.getD k []=ll[k]:=λk a=>by rw[gV,dJ a];rfl
 have j: ∀w∈ws,∃r,dF h w 1 (ints r) lo:=λw d=>by
  obtain⟨k,a,rfl⟩:=Bj.1 d;exact⟨_,by rw[<-b k a];exact g.own k (by rw[<-g.lw];exact a)⟩
 refine⟨.inr ⟨R,n,.kn n, [],rfl,by rw[g.lw,jP],.inr ⟨rfl,rfl⟩,dN _,om,by rw[qH];exact g.gR⟩,bH.jF (by rw[g.lw,g.lr]) λk l s=>?_,λw d=>?_,λw d=>?_⟩
 .rw[<-b k l,<-f k s]
  exact (g.own k (by rw[<-g.lw];exact l)).sv
 .obtain⟨r,o⟩:=j w d
  intro i x m c e v z u t e2;cases e;have:=zQ.own o _ _ _ _ e2;omega
 .obtain⟨r,o⟩:=j w d
  exact (zQ.own o).le om
theorem PA.push (g:PA h R n ws ll lo){k:Nat}(s:k<n){y:V}{x:Int}(L:SV h y 1 (ints [x]))(hs:(ll.getD k []).length<1000000):
  ∃v h',tW h 1 8 (ws.getD k .undef) y=some (v,h')/\v.cells= [v]/\v.one=true/\PA (h'.set R (cE (ws.set k v))) R n (ws.set k v) (ll.set k (ll.getD k []++ [x])) lo/\h'.get R=cE ws/\h.next<=h'.next/\ ∀id,id<lo->h'.get id=h.get id:=by
 have Q:=g.lt
 have F:=g.hR
 have z:=g.own k s
 obtain⟨v,h',e,a⟩:=z.app (bytes:=8) (n:=(ll.getD k []).length) (m:=1) (us:=ints [x]) (y:=y) g.lt L (by rw[aE,jP]) rfl om om
 have K:=EI z (n:=(ll.getD k []).length) (by rw[aE,jP]) (m:=1) om om L rfl e
 have O:=SV.cT a.own.sv
 have N:=a.next
 have low: ∀id,id<lo->h'.get id=h.get id:=λid G=>a.get id om (kI z G)
 have A: ∀j,(ws.set k v).getD j .undef=if k=j then v else ws.getD j .undef:=λj=>by
  rw[uB];split
  .rw[aS (by rw[g.lw];exact s)]
  .rfl
 have P: ∀j,(ll.set k (ll.getD k []++ [x])).getD j []=if k=j then ll.getD k []++ [x] else ll.getD j []:=λj=>by
  rw[uB];split
  .rw[aS (by rw[g.lr];exact s)]
  .rfl
 have other: ∀j,j<n->k≠j->dF h' (ws.getD j .undef) 1 (ints (ll.getD j [])) lo:=λj d l=>(g.own j d).mono N λid q m c e1 t w=>a.get id w λB J m' c' e2 he=>g.uY k j s d l _ _ _ _ e2 _ _ _ _ e1 he.symm
 refine⟨v,h',e,O.1,O.2.1,⟨H.aJ ..,by rw[List.length_set];exact g.lw,by rw[List.length_set];exact g.lr,g.hR,by rw[H.bT];omega,λj d=>?_,λj u d r l=>?_⟩,(low R F).trans g.gR,N,low⟩
 .rw[A,P]
  by_cases b:k=j
  .rw[aS b,aS b,fQ]
   exact a.own.set F _
  .rw[aQ b,aQ b]
   exact (other j d b).set F _
 .rw[A,A]
  have lt: ∀j,j<n-> ∀id q m c,ws.getD j .undef= .sl id q m c->id<h.next:=λj d id q m c e1=>by
   rcases g.own j d with ⟨t,_⟩|⟨B,_,_,_,t,_,_,_,w,_⟩
   .rw[t] at e1;cases e1
   .rw[t] at e1;cases e1;exact w
  by_cases b:k=j
  .rw[aS b,aQ om]
   intro i o m c e1 W Y U Z e2
   rw[K] at e1;cases e1
   have:=lt u r _ _ _ _ e2
   omega
  .rw[aQ b]
   by_cases f:k=u
   .rw[aS f]
    intro i o m c e1 W Y U Z e2
    rw[K] at e2;cases e2
    have:=lt j d _ _ _ _ e1
    omega
   .rw[aQ f]
    exact g.uY j u d r l
end
def pY (h:H)(a:Nat)(l:List V)(m:Nat):H:=H.mk ((H.mk h.tr a).new (.cells false l)).tr m
theorem Ih (h:H)(a:Nat)(l:List V)(m:Nat):H.mk ((H.mk h.tr a).new (.cells false l)).tr m=pY h a l m:=rfl
theorem xO (h:H)(a:Nat)(l:List V)(m:Nat):(pY h a l m).get a=cE l:=by
 rw[pY,H.kL];exact H.aI ..
theorem Ua (h:H){a k:Nat}(l:List V)(m:Nat)(b:k≠a):(pY h a l m).get k=h.get k:=by
 rw[pY,H.kL,H.bG _ b,H.kL]
theorem zA (h:H)(a:Nat)(l:List V)(m:Nat):(pY h a l m).next=m:=rfl
theorem IV (h:H)(a:Nat)(l:List V)(m off:Nat):(pY h a l m).cell a off=l[off]? :=H.cell_of (xO ..) off
theorem GJ (h:H){a k:Nat}(l:List V)(m off:Nat)(b:k≠a):(pY h a l m).cell k off=h.cell k off:=by unfold H.cell;rw[Ua h l m b]
attribute [go_sem] xO Ua zA IV GJ
theorem Md (a b c:Nat)(d:qD):dS (.sl a b c d) (.sl a b c d)=true:=by simp [dS]
theorem HG (h:H)(x:Int):lU h 1 [aC 0] 1 [(0,1,aC x)]=some (.sl h.next 0 1 (.kn 1),h.new (.cells false (ints [x]))):=by
 simp [lU,fP,cJ,V.cells,V.one,putAt,ints]
theorem Bo {b h:H}(f:Fr b h){a m:Nat}(i:b.next<=a)(c:b.next<=m)(l:List V):Fr b (pY h a l m):=⟨c,λk d=>(Ua h l m om).trans (f.get k d)⟩
def afW (a:uQ):uQ×Int:=
 if iO a≠0 then ((0, []),iO a) else ((a.1,kM (a.2.getD 0 []).length a.2.length (λk i=>kH a.2 i k)),0)
def xB (c i k:Nat)(F:Nat->Nat->Int):List (List Int):=(List.range c).map λk'=>eN (if k'<k then i+1 else i) (F k')
theorem DG (c i:Nat)(F:Nat->Nat->Int):xB c i 0 F=kM c i F:=by
 rw[xB,kM];exact Nt λk _=>by rw[aQ (Nat.not_lt_zero k)]
theorem CJ (c i:Nat)(F:Nat->Nat->Int):xB c i c F=kM c (i+1) F:=by
 rw[xB,kM];exact Nt λk a=>by rw[aS (mS.1 a)]
theorem RU {c i k:Nat}(F:Nat->Nat->Int)(a:k<c):(xB c i k F).getD k []=eN i (F k):=by
 rw[xB,gV,Al,List.getElem?_range a];simp
theorem YA (n:Nat)(f:Nat->Int):eN (n+1) f=eN n f++ [f n]:=by
 rw[eN,List.range_succ,List.map_append];rfl
theorem DU {c i k:Nat}(F:Nat->Nat->Int)(b:k<c):(xB c i k F).set k (eN i (F k)++ [F k i])=xB c i (k+1) F:=by
 refine List.ext_getElem (by simp [xB]) λj a d=>?_
 rw[List.getElem_set];simp only[xB,List.getElem_map,List.getElem_range]
 by_cases e:k=j
 .subst e;rw[aS rfl,aS om,YA]
 .rw[aQ e]
  by_cases e2:j<k
  .rw[aS e2,aS om]
  .rw[aQ e2,aQ om]
theorem NX {a b:List (List Int)}(d:a.length=b.length)(h: ∀j,j<a.length->a.getD j []=b.getD j []):a=b:=by
 apply List.ext_getElem d;intro i c f;have:=h i c;rw[gV,dJ c,gV,dJ f] at this;exact this
theorem Ed (K A:V)(a b:List (List Int))(h:H)(O:SR h K a)(Q:SR h A b)(a2:a.length<1000000)(a4:b.length<1000000)(y: ∀i,i<a.length->(a.getD i []).length<1000000)(B: ∀i,i<b.length->(b.getD i []).length<1000000):
  Ev T 38 [K,A] h (λv h'=>v= .bool (decide (a=b))/\Fr h h'):=by
 refine EvZ fM rfl ?_
 obtain⟨id,G,ws,z,P,a0,hc,u⟩:=O.open
 obtain⟨F,t,L,w,q,U,J,m⟩:=Q.open
 simp(disch:=omega)only[go_sem,fM,aV,O.lens,Q.lens]
 refine bV (λx=>?_) (λr=>?_)
 .refine aT ?_
  have:a≠b:=λe=>x (by rw[e])
  exact⟨by rw[bZ this],Fr.refl h⟩
 have r:a.length=b.length:=om
 refine aT ?_
 refine aP (λR f c=> ∃(i:Nat),(∃g:Nat->V,f= [K,A,g 2,aC i,g 4,g 5,g 6])/\i<=a.length/\(∀j,j<i->a.getD j []=b.getD j [])/\Fr h c/\R=a.length-i) a.length
  ⟨0,aD rfl,fY _,λj Z=>om,Fr.refl h,rfl⟩ ?_
 rintro R f c ⟨i,⟨g,rfl⟩,hi,k,d,rfl⟩
 refine bM @O.lens ?_
 by_cases o:(i:Int)<(a.length:Int)
 .rw[cV o]
  have s:=kV d P hc i om
  have l:=kV d q J i om
  refine jX @z.ixa @w.ixa s l ?_
  have N:=d.cU (n:=c.next+10) om
  have r1:=(Mz u (i:=i) om).mono N
  have r2:=(Mz m (i:=i) om).mono N
  have a3:(H.mk c.tr (c.next+10)).cell id (G+i)=some (ws.getD i .undef):=s
  have a1:(H.mk c.tr (c.next+10)).cell F (t+i)=some (L.getD i .undef):=l
  generalize H.mk c.tr (c.next+10)=hh at*
  refine (Ry _ _ _ _ hh r1 r2 (y i om) (B i om)).mono ?_
  rintro v W ⟨rfl,f3⟩
  have Y:=N.trans f3
  by_cases e:a.getD i []=b.getD i []
  .rw[cV e]
   refine aT ?_
   rw[fJ i]
   refine⟨a.length-(i+1),om,i+1,aD rfl,om,λj Z=>?_,Y,rfl⟩
   by_cases W:j=i
   .rw[W];exact e
   .exact k j om
  .rw[bZ e]
   refine aT ?_
   have:a≠b:=λe2=>e (by rw[e2])
   exact⟨by rw[bZ this],Y⟩
 .rw[bZ o]
  refine aT ?_
  have:a=b:=NX r λj Z=>k j om
  exact⟨by rw[cV this],d⟩
section
variable {h:H} {u:V} {A:List (List Int)} {c R n lo:Nat} {ρ:Nat->Nat} {f:Nat->Nat->Int}
structure Rd (h:H)(u:V)(A:List (List Int))(c id off:Nat)(ws:List V)(ρ o:Nat->Nat):Prop where
 sl:Sl u 1 A.length id off
 lt: ∀i,i<A.length->id<h.next
 at_: ∀i,i<A.length->h.cell id (off+i)=some (ws.getD i .undef)
 row: ∀i,i<A.length->SI h (ws.getD i .undef) (A.getD i [])
 rsl: ∀i,i<A.length->Sl (ws.getD i .undef) 1 c (ρ i) (o i)
 rlt: ∀i k,i<A.length->k<c->ρ i<h.next
 kH: ∀i k,i<A.length->k<c->h.cell (ρ i) (o i+k)=some (aC (kH A i k))
theorem SR.rd (s:SR h u A)(w: ∀i,i<A.length->(A.getD i []).length=c): ∃id off ws ρ o,Rd h u A c id off ws ρ o:=by
 obtain⟨id,off,ws,sl,j,v,d,b⟩:=s.open
 have a: ∀i,∃r:Nat×Nat,i<A.length->Sl (ws.getD i .undef) 1 c r.1 r.2/\(0<c->r.1<h.next)/\ ∀k:Nat,k<c->h.cell r.1 (r.2+k)=some (aC ((A.getD i []).getD k 0)):=λi=>by
  by_cases hi:i<A.length
  .obtain⟨x,y,t,l,m⟩:=(Mz b hi).open
   rw[w i hi] at t l m;exact⟨(x,y),λ_=>⟨t,l,m⟩⟩
  .exact⟨(0,0),λh=>absurd h hi⟩
 exact⟨id,off,ws,λi=>(a i).choose.1,λi=>(a i).choose.2,sl,λi hi=>j om,d,λi hi=>Mz b hi,λi hi=>((a i).choose_spec hi).1,λi k hi q=>((a i).choose_spec hi).2.1 om,λi k hi q=>((a i).choose_spec hi).2.2 k q⟩
theorem Rd.fr {h':H}{id off:Nat}{ws:List V}{o:Nat->Nat}(r:Rd h u A c id off ws ρ o)(f:Fr h h'):Rd h' u A c id off ws ρ o:=
 ⟨r.sl,λi hi=>iD (r.lt i hi) f.next,λi hi=>by rw[f.cell (r.lt i hi)];exact r.at_ i hi,λi hi=>(r.row i hi).mono f,r.rsl,λi k hi a=>iD (r.rlt i k hi a) f.next,λi k hi a=>by rw[f.cell (r.rlt i k hi a)];exact r.kH i k hi a⟩
theorem Rd.lens {id off:Nat}{ws:List V}{o:Nat->Nat}(r:Rd h u A c id off ws ρ o){i:Nat}(hi:i<A.length):dD (ws.getD i .undef)=some (aC c):=(r.rsl i hi).lens
structure Nf (h:H)(R n c:Nat)(ρ:Nat->Nat)(f:Nat->Nat->Int)(lo:Nat):Prop where
 gR:h.get R=some (.cells false ((List.range n).map λi=>V.sl (ρ i) 0 c (.kn c)))
 row: ∀i,i<n->h.get (ρ i)=some (.cells false (ints (eN c (f i))))
 inj: ∀i j,i<n->j<n->ρ i=ρ j->i=j
 hR:lo<=R
 ltR:R<h.next
 hρ: ∀i,i<n->lo<=ρ i
 ltρ: ∀i,i<n->ρ i<h.next
 ne: ∀i,i<n->ρ i≠R
theorem Nf.fr {h':H}(g:Nf h R n c ρ f lo)(F:Fr h h'):Nf h' R n c ρ f lo:=
 ⟨(F.get R g.ltR).trans g.gR,λi hi=>(F.get _ (g.ltρ i hi)).trans (g.row i hi),g.inj,g.hR,iD g.ltR F.next,g.hρ,λi hi=>iD (g.ltρ i hi) F.next,g.ne⟩
theorem Nf.le {a:Nat}(g:Nf h R n c ρ f lo)(b:a<=lo):Nf h R n c ρ f a:=
 ⟨g.gR,g.row,g.inj,kQ b g.hR,g.ltR,λi hi=>kQ b (g.hρ i hi),g.ltρ,g.ne⟩
theorem Nf.set {x:Nat}(g:Nf h R n c ρ f lo)(a:x<lo)(o:Option Ob):Nf (h.set x o) R n c ρ f lo:=
 ⟨by rw[H.Cj _ (by have:=g.hR;omega)];exact g.gR,λi hi=>by rw[H.Cj _ (by have:=g.hρ i hi;omega)];exact g.row i hi,g.inj,g.hR,g.ltR,g.hρ,g.ltρ,g.ne⟩
theorem Nf.congr {f':Nat->Nat->Int}(g:Nf h R n c ρ f lo)(e: ∀i k,i<n->k<c->f i k=f' i k):Nf h R n c ρ f' lo:=
 ⟨g.gR,λi hi=>by rw[g.row i hi,fN λk a=>e i k hi a],g.inj,g.hR,g.ltR,g.hρ,g.ltρ,g.ne⟩
theorem Nf.cR (g:Nf h R n c ρ f lo): ∀i,i<n->h.cell R i=some (.sl (ρ i) 0 c (.kn c)):=λi hi=>by
 rw[H.cell_of g.gR,Al,List.getElem?_range hi];rfl
theorem Nf.cρ (g:Nf h R n c ρ f lo): ∀i k,i<n->k<c->h.cell (ρ i) k=some (aC (f i k)):=λi k hi a=>by
 rw[H.cell_of (g.row i hi),mK (by rw[aW];exact a),cZ _ a]
def HJ (f:Nat->Nat->Int)(i k:Nat)(x:Int):Nat->Nat->Int:=λa b=>if a=i/\b=k then x else f a b
theorem Ct {f:Nat->Int}{k:Nat}(x:Int):(eN n f).set k x=eN n (λj=>if j=k then x else f j):=by
 refine tE (by rw[List.length_set,aW]) λj a=>?_
 rw[uB,aW]
 by_cases e:k=j
 .subst e;rw[aS rfl,aS a,aS rfl]
 .rw[aQ e,aQ om,cZ _ a]
theorem Nf.put (g:Nf h R n c ρ f lo){i k:Nat}(hi:i<n)(d:k<c)(x:Int):
  dY (h.get (ρ i)) h (ρ i) k [aC x]=some (h.set (ρ i) (some (.cells false (ints (eN c (HJ f i k x i))))))/\Nf (h.set (ρ i) (some (.cells false (ints (eN c (HJ f i k x i)))))) R n c ρ (HJ f i k x) lo:=by
 have e:(eN c (f i)).set k x=eN c (HJ f i k x i):=by
  rw[Ct]
  exact fN λj _=>by
   simp only[HJ,true_and]
 refine⟨by rw[g.row i hi,Fl (by rw[aW];exact d),e],⟨?_,λj a=>?_,g.inj,g.hR,g.ltR,g.hρ,g.ltρ,g.ne⟩⟩
 .rw[H.Cj _ (λe=>g.ne i hi e.symm)];exact g.gR
 .by_cases e:j=i
  .subst e;rw[H.aJ]
  .rw[H.Cj _ λh=>e (g.inj j i a hi h),g.row j a,fN λb _=>?_]
   simp only[HJ]
   rw[aQ λh=>e h.1]
theorem Nf.rws (g:Nf h R n c ρ f lo){cap:qD}(a:cap= .un 1\/cap= .kn n):tD h (.sl R 0 n cap) ((List.range n).map λi=>V.sl (ρ i) 0 c (.kn c)) (kM n c f) lo:=by
 refine⟨.inr ⟨R,n,cap, [],rfl,siM,?_,g.hR,g.ltR,by rw[qH];exact g.gR⟩,bH.jF (by simp [kM]) λi d j=>?_,λw b=>?_,λw b=>?_⟩
 .rcases a with h|h
  .exact .inl h
  .exact .inr ⟨h,rfl⟩
 .simp only[dO,gT] at d
  simp only[List.getElem_map,List.getElem_range,kM];have:=SI.own (h:=h) (g.ltρ i d) (g.row i d) (.kn c);rw[aW] at this;exact this
 .obtain⟨i,hi,rfl⟩:=oG.1 b
  intro _ _ _ _ e1 _ _ _ _ e2;cases e1;cases e2;exact λe=>g.ne i (mS.1 hi) e.symm
 .obtain⟨i,hi,rfl⟩:=oG.1 b
  intro _ _ _ _ e2;cases e2;exact g.hρ i (mS.1 hi)
end
set_option maxRecDepth 100000
set_option maxRecDepth 100000
theorem qN {x y p:Int}(c:0<=x)(d:x<p)(h2:0<=y)(h3:y<p)(f:p<10000):0<=x*y/\x*y<100000000:=by
 have a:=Int.mul_nonneg c h2;have b:=Int.mul_le_mul (show x<=9999 by omega) (show y<=9999 by omega) h2 om;omega
set_option maxRecDepth 100000
set_option maxRecDepth 100000
set_option maxRecDepth 100000
end Go.Proofs.YtoighkablmjfeaaGreat.Ln
namespace Go.Ay
def Ik:Nat->Nat->Nat
 |_,0=>1
 |0,_+1=>0
 |n+1,k+1=>Ik n k+Ik n (k+1)
theorem Er (n:Nat):Ik n 0=1:=by cases n<;>rfl
theorem rY (n k:Nat):Ik (n+1) (k+1)=Ik n k+Ik n (k+1):=rfl
theorem uD: ∀n k,n<k->Ik n k=0
 |0,0,h=>om
 |0,_+1,_=>rfl
 |n+1,0,h=>om
 |n+1,k+1,h=>by rw[rY,uD n k om,uD n (k+1) om]
theorem Ix: ∀n k,(k+1)*Ik (n+1) (k+1)=(n+1)*Ik n k
 |0,0=>rfl
 |0,k+1=>by rw[uD 1 (k+2) om,uD 0 (k+1) om];omega
 |n+1,0=>by
  have h:=Ix n 0;rw[rY,Er,Nat.mul_add,h,Er];omega
 |n+1,k+1=>by
  have a:=Ix n k;have b:=Ix n (k+1);rw[rY (n+1) (k+1),Nat.mul_add,b,rY n k];rw[rY n k] at a;generalize Ik n k=x at*;generalize Ik n (k+1)=y at*;grind
theorem akM (n:Nat)(a:Int):(1+a)^n=rZ (n+1) (λk=>(Ik n k:Int)) a:=by
 induction n with
 |zero=>simp [rZ,sm,Ik]
 |succ n ih=>
  rw[Int.pow_succ,ih,show rZ (n+1) (λk=>(Ik n k:Int)) a*(1+a)=rZ (n+1) (λk=>(Ik n k:Int)) a+a*rZ (n+1) (λk=>(Ik n k:Int)) a by grind,<-Sy,<-Dj (n:=n+1) (m:=n+1+1) (c:=λk=>(Ik n k:Int)) om λk b d=>by rw[uD n k om];rfl,<-FH];refine KM (λk _=>?_) a
  cases k with
  |zero=>simp [Hx,Er]
  |succ k=>
   simp only[Hx,aQ (Nat.succ_ne_zero k),Nat.add_sub_cancel];rw[rY];omega
structure Pr (p:Nat):Prop where
 two:2<=p
 div: ∀d,d∣p->d=1\/d=p
theorem Pr.cop {p:Nat}(P:Pr p){a:Nat}(b:0<a)(c:a<p):Nat.Coprime p a:=by
 rcases P.div (Nat.gcd p a) (Nat.gcd_dvd_left p a) with h|h
 .exact h
 .have:=Nat.le_of_dvd b (Nat.gcd_dvd_right p a)
  omega
theorem Pr.Ik {p:Nat}(P:Pr p){k:Nat}(b:0<k)(a:k<p):p∣Ay.Ik p k:=by
 obtain⟨q,rfl⟩: ∃q,p=q+1:=⟨p- 1,om⟩
 obtain⟨j,rfl⟩: ∃j,k=j+1:=⟨k- 1,om⟩
 have h:=Ix q j;exact (P.cop b a).dvd_of_dvd_mul_left (h▸Nat.dvd_mul_right (q+1) _)
theorem II {p:Nat}(P:Pr p): ∀a:Nat,((a:Int))^p%p=(a:Int)%p
 |0=>by
  have:=P.two;rw[show ((0:Nat):Int)=0 from rfl,Int.zero_pow om]
 |a+1=>by
  have i:=P.two;have e:((a+1:Nat):Int)=1+(a:Int):=om
  rw[e,akM]
  obtain⟨q,rfl⟩: ∃q,p=q+1:=⟨p- 1,om⟩
  have e2:rZ (q+1+1) (λk=>(Ay.Ik (q+1) k:Int)) (a:Int)%((q+1:Nat):Int)=(1+(a:Int)^(q+1))%((q+1:Nat):Int):=by
   rw[rZ,bQ]
   have c:sm (q+1) (λk=>(Ay.Ik (q+1) k:Int)*(a:Int)^k)%((q+1:Nat):Int)=sm (q+1) (λk=>if k=0 then 1 else 0)%((q+1:Nat):Int):=dM λk b=>by
    by_cases h:k=0
    .subst h;rw[aS rfl,Er];simp
    .rw[aQ h]
     obtain⟨t,f⟩:=P.Ik (k:=k) om b;rw[f,Int.natCast_mul,Int.mul_assoc,Int.mul_emod_right];rfl
   have d:Ay.Ik (q+1) (q+1)=1:=by
    have: ∀n,Ay.Ik n n=1:=λn=>by
     induction n with
     |zero=>rfl
     |succ n ih=>rw[rY,ih,uD n (n+1) om]
    exact this _
   rw[Int.add_emod,c,d,<-Int.add_emod,nE (t:=0) om (λ_=>1)];simp
  rw[e2,Int.add_emod,II P a,<-Int.add_emod]
theorem RP {p:Nat}(P:Pr p){a:Int}(j:0<a)(i:a<p):a*a^(p- 2)%p=1:=by
 have f:=P.two
 obtain⟨n,rfl⟩: ∃n:Nat,a=n:=⟨a.toNat,om⟩
 have h:=II P n
 obtain⟨q,rfl⟩: ∃q,p=q+2:=⟨p- 2,om⟩
 rw[Nat.add_sub_cancel];have e:(n:Int)^(q+2)-n=n*(n*(n:Int)^q- 1):=by rw[Int.pow_succ,Int.pow_succ];grind
 have d:((q+2:Nat):Int)∣(n:Int)^(q+2)-n:=Int.dvd_of_emod_eq_zero (Int.emod_eq_emod_iff_emod_sub_eq_zero.1 h);rw[e] at d;have c:Nat.Coprime (q+2) n:=P.cop om om
 have b:((q+2:Nat):Int)∣(n:Int)*(n:Int)^q- 1:=by
  have:=Int.natAbs_dvd_natAbs.2 d;rw[Int.natAbs_mul,Int.natAbs_natCast,Int.natAbs_natCast] at this;have:=c.dvd_of_dvd_mul_left this;exact Int.natAbs_dvd_natAbs.1 (by rw[Int.natAbs_natCast];exact this)
 have:=Int.emod_eq_emod_iff_emod_sub_eq_zero.2 (Int.emod_eq_zero_of_dvd b);rw[this];exact Int.emod_eq_of_lt om om
end Go.Ay
namespace Go.Proofs.YtoighkablmjfeaaGreat.Ln
open Go Go.Ay
theorem Ol {n:Nat}: ∀f d,2<=d->JX n f d=n-> ∀e,d<=e->e<d+f->e*e<=n->n%e≠0
 |0,d,_,_,e,h1,h2,_=>om
 |f+1,d,hd,h,e,h1,h2,h3=>by
  rw[JX] at h
  by_cases b:d*d<=n
  .rw[aS b] at h
   by_cases a:n%d=0
   .rw[aS a] at h
    subst h;have:=Nat.mul_le_mul_left d hd;omega
   .rw[aQ a] at h
    by_cases c:e=d
    .subst c;exact a
    .exact Ol f (d+1) om h e om om h3
  .have:=Nat.mul_le_mul h1 h1
   omega
theorem Kh {p:Int}(h:cF p=true):Pr p.toNat:=by
 simp only[cF,oD,decide_eq_true_eq] at h;have⟨v,s,m⟩:=h;refine⟨om,λd k=>?_⟩;have⟨q,f⟩:=k;refine zL λl=>?_
 have c: ∀a b:Nat,p.toNat=a*b->2<=a->a<=b->False:=λa b i n j=>by
  have t:=Nat.mul_le_mul_left a j
  have w:a<1002:=by
   refine Nat.lt_of_not_le λh=>?_
   have:=Nat.mul_le_mul h h;omega
  exact Ol 1000 2 (dN _) m a n om om (by rw[i];exact Nat.mul_mod_right a b)
 have o:d≠0:=λe=>by subst e;simp at f;omega
 have r:q≠0:=λe=>by subst e;simp at f;omega
 have u:q≠1:=λe=>by subst e;simp at f;omega
 rcases Nat.le_total d q with h|h
 .exact c d q f om h
 .exact c q d (by rw[f,Nat.mul_comm]) om h
theorem pow_mod {a b p:Int}(h:a%p=b%p)(k:Nat):a^k%p=b^k%p:=by
 induction k with
 |zero=>rw[Int.pow_zero,Int.pow_zero]
 |succ k ih=>rw[Int.pow_succ,Int.pow_succ];exact mul_mod ih h
theorem Gx (a n:Int)(h:H)(f:0<n)(i:n<1000000000):Ev T 194 [aC a,aC n] h (λv h'=>v= aC (a%n)/\h'=h):=by
 have j:=zC a f;have b:=Dv a f;refine lG ?_;refine bV (λd=>?_) (λc=>?_)
 .rw[aS d] at b
  refine aT ?_;exact⟨by rw[b],trivial⟩
 .rw[aQ c] at b
  refine aT ?_;exact⟨by rw[b],trivial⟩
theorem ML (p:Int)(h:H):Ev T 196 [aC p] h (λv h'=> ∃ip,v= .fn 243 [] [.ptr ip 0]/\h'.cell ip 0=some (aC p)/\(h.next<=ip/\ip<h'.next)/\Fr h h'):=by
 refine lG ?_;have a:(h.new (.cells false [aC p])).get h.next=some (.cells false [aC p]):=H.aI ..;exact⟨_,rfl,by rw[H.cell_of a];rfl,om,(Fr.refl h).new _⟩
theorem Az (d:Nat)(p a b:Int)(h:H)(j:h.cell d 0=some (aC p))(i:0<=a/\a<p)(f:0<=b/\b<p)(c:p<10000):
  mD T (.fn 243 [] [.ptr d 0]) [aC a,aC b] h (λv h'=>v= aC (a*b%p)/\h'=h):=by
 have m:=qN i.1 i.2 f.1 f.2 c
 have e:=gO (a:=a*b) (p:=p) m.1
 show Ev T 243 [aC a,aC b,.ptr d 0] h _
 refine mV ?_
 exact agS @aV j e
theorem Kd (i:Nat)(p x u:Int)(n:Nat)(h:H)(o:h.cell i 0=some (aC p))(G:0<=x/\x<p)(F:0<=u/\u<p)(f:p<10000)(J:n<1000000):
  Ev T 195 [aC x,aC u,aC n,.fn 243 [] [.ptr i 0]] h (λv h'=> ∃r,v= aC r/\0<=r/\r<p/\r%p=u*x^n%p/\h'=h):=by
 refine lG ?_
 refine aP (λb c s=> ∃(m:Nat) (y w:Int),(∃g:Nat->V,c= [aC y,aC w,aC m,.fn 243 [] [.ptr i 0],g 4,g 5,g 6])/\(0<=y/\y<p)/\(0<=w/\w<p)/\w*y^m%p=u*x^n%p/\m<1000000/\s=h/\b=m) n
  ⟨n,x,u,aD rfl,G,F,rfl,J,rfl,rfl⟩ ?_
 rintro b c s ⟨m,y,w,⟨g,rfl⟩,j,l,t,L,rfl,rfl⟩
 refine aT ?_
 by_cases z:0<(b:Int)
 .rw[cV z]
  have B:(b:Int).tmod 2=((b%2:Nat):Int):=Bv b 2
  have eq:(b:Int).tdiv 2=((b/2:Nat):Int):=rfl
  have k:=bX (y*y) (show 0<p by omega)
  have d: ∀a:Int,a%p%p=a%p:=λa=>Int.emod_emod_of_dvd _ (Int.dvd_refl p)
  refine bM B ?_
  refine bV (λK=>?_) (λK=>?_)
  .refine aT ?_
   refine (Az i p w y s o l j f).mono ?_
   rintro v A ⟨rfl,rfl⟩
   refine aT ?_
   refine (Az i p y y _ o j j f).mono ?_
   rintro v A ⟨rfl,rfl⟩
   refine bM eq ?_
   refine⟨b/2,om,b/2,_,_,aD rfl,k,bX _ om,?_,om,rfl⟩
   rw[mul_mod (d (w*y)) (pow_mod (d (y*y)) (b/2)),<-t]
   congr 1
   have e2:b=2*(b/2)+1:=om
   generalize b/2=q at*
   subst e2
   rw[Int.pow_succ,Int.pow_mul,show y^2=y*y by rw[Int.pow_succ,Int.pow_succ,Int.pow_zero,Int.one_mul]]
   grind
  .refine aT ?_
   refine (Az i p y y _ o j j f).mono ?_
   rintro v A ⟨rfl,rfl⟩
   refine bM eq ?_
   refine⟨b/2,om,b/2,_,_,aD rfl,k,l,?_,om,rfl⟩
   rw[mul_mod (rfl:w%p=w%p) (pow_mod (d (y*y)) (b/2)),<-t]
   congr 1
   have e2:b=2*(b/2):=om
   generalize b/2=q at*
   subst e2
   rw[Int.pow_mul,show y^2=y*y by rw[Int.pow_succ,Int.pow_succ,Int.pow_zero,Int.one_mul]]
 .rw[bZ z]
  obtain rfl:b=0:=om
  refine aT ?_
  exact⟨w,rfl,l.1,l.2,by rw[<-t,Int.pow_zero,Int.mul_one],trivial⟩
theorem aaE (a p:Int)(h:H)(b:cF p=true)(c:0<a/\a<p):Ev T 131 [aC a,aC p] h (λv h'=>v= .tup [aC a,aC 0]/\h'=h):=by
 have f:=Kh b;have d:p<1000000:=by simp only[cF,oD,decide_eq_true_eq] at b;omega
 refine lG ?_;refine (sS p h).mono ?_;rintro v h' ⟨rfl,rfl⟩;refine bM b ?_;refine (Gx a p _ om om).mono ?_;rintro v h' ⟨rfl,rfl⟩;rw[Int.emod_eq_of_lt om c.2];refine aT ?_;rw[bZ (show ¬a=0 by omega)];exact alU
theorem akL (a:Int)(n:Nat)(p:Int)(h:H)(m:0<=a/\a<p)(b:1<p)(c:p<10000)(k:n<1000000):Ev T 132 [aC a,aC n,aC p] h (λv h'=> ∃r,v= aC r/\0<=r/\r<p/\r%p=a^n%p/\Fr h h'):=by
 have d:(1:Int).tmod p=1:=by rw[gO om];exact Int.emod_eq_of_lt om b
 refine pM d ?_;have j:Fr h (H.mk h.tr (h.next+8)):=(Fr.refl h).cU om;generalize H.mk h.tr (h.next+8)=f at*;refine (ML p f).mono ?_;rintro v s ⟨q,rfl,u,w,l⟩;refine aT ?_;refine (Kd q p a 1 n s u m om c k).mono ?_;rintro v x ⟨r,rfl,i,o,t,rfl⟩;refine aT ?_;exact⟨r,rfl,i,o,by rw[t,Int.one_mul],j.trans l⟩
theorem DR (a p:Int)(h:H)(c:cF p=true)(b:p<10000)(d:0<a/\a<p):Ev T 93 [aC a,aC p] h (λv h'=> ∃r,v= .tup [aC r,aC 0]/\0<=r/\r<p/\r*a%p=1/\Fr h h'):=by
 have i:=Kh c;have n:=i.two;refine lG ?_;refine (aaE a p h c d).mono ?_;rintro v h' ⟨rfl,rfl⟩;refine aT ?_;rw[bZ (show ¬((0:Int)≠0) by omega)];refine aT ?_;rw[show p- 2=((p.toNat- 2:Nat):Int) by omega];refine (akL a (p.toNat- 2) p h' om om b om).mono ?_;rintro v o ⟨r,rfl,m,k,l,j⟩;refine aT ?_;refine⟨r,rfl,m,k,?_,j⟩;have f:=RP i (a:=a) d.1 om;rw[show (p.toNat:Int)=p by omega] at f;rw[mul_mod l (rfl:a%p=a%p),Int.mul_comm];exact f
set_option maxRecDepth 100000
section
variable {h:H} {x y W R n lo:Nat} {p d:Int} {ws:List V} {ll:List (List Int)}
def MQ (w:V):Prop:= ∀id off m c,w= .sl id off m c->c= .un 1\/ ∃k,c= .kn k/\m<=k
theorem DP {v:V}{l:List Int}(s:SI h v l)(c:MQ v){k:Nat}(u:k<l.length): ∃v',pV 1 v (some (aC k)) none none=some v'/\SI h v' (l.drop k):=by
 rcases s with ⟨_,r⟩|⟨id,a,len,i,o,w,rfl,j,t,z,B,m⟩
 .have:(ints l).length=0:=by rw[r];rfl
  rw[aE] at this;omega
 .rw[aE,jP] at j
  subst j
  have f: ∀b,SI h (.sl id (a+k) (l.length-k) b) (l.drop k):=λb=> .inr ⟨id,a+k,l.length-k,b,o,w,rfl,by rw[aE,jR,jP],t,z,om,by
   rw[jP] at m |-
   rw[<-Qb,<-m,List.drop_take,List.drop_drop]⟩
  rcases c id a l.length i rfl with rfl|⟨q,rfl,A⟩
  .refine⟨.sl id (a+k) (l.length-k) (.un 1),?_,f _⟩
   simp only[pV,mQ];rw[aS ⟨om,om⟩];simp [u]
  .refine⟨.sl id (a+k) (l.length-k) (.kn (q-k)),?_,f _⟩
   simp only[pV,mQ];rw[aS ⟨om,om⟩];simp only[Mc];rw[aS om,aQ om,jP]
structure Wk (h:H)(W R n:Nat)(p d:Int)(ws:List V)(ll:List (List Int))(lo:Nat):Prop where
 gW:h.get W=cE [aC p,aC d,.sl R 0 n (.un 1)]
 gR:h.get R=cE ws
 lw:ws.length=n
 row:bH (SI h) ws ll
 sep: ∀w∈ws,∀id off m c,w= .sl id off m c->id≠R/\id≠W
 cap: ∀w∈ws,MQ w
 WR:W≠R
 frs: ∀w∈ws,zQ w lo
 lt:lo<=h.next
 ltW:W<h.next
 ltR:R<h.next
structure YW (x y:Nat)(h h':H):Prop where
 next:h.next<=h'.next
 get: ∀id,id<h.next->id≠x->id≠y->h'.get id=h.get id
theorem YW.refl (x y:Nat)(h:H):YW x y h h:=⟨dN _,λ_ _ _ _=>rfl⟩
theorem YW.of {h':H}(f:Fr h h'):YW x y h h':=⟨f.next,λid a _ _=>f.get id a⟩
theorem YW.trans {a b c:H}(f:YW x y a b)(g:YW x y b c):YW x y a c:=⟨kQ f.next g.next,λid i k j=>(g.get id (iD i f.next) k j).trans (f.get id i k j)⟩
theorem YW.fr {a b c:H}(f:Fr a b)(k:a.next<=x)(j:a.next<=y)(g:YW x y b c):Fr a c:=⟨kQ f.next g.next,λid i=>(g.get id (iD i f.next) om om).trans (f.get id i)⟩
theorem Wk.lr (k:Wk h W R n p d ws ll lo):ll.length=n:=by rw[<-k.row.length,k.lw]
theorem Wk.at_ (k:Wk h W R n p d ws ll lo): ∀i,i<n->h.cell R i=some (ws.getD i .undef):=λi hi=>by
 rw[H.cell_of k.gR,gV,dJ (by rw[k.lw];exact hi)];rfl
theorem Wk.si (k:Wk h W R n p d ws ll lo){i:Nat}(hi:i<n):SI h (ws.getD i .undef) (ll.getD i []):=Mz k.row (by rw[k.lr];exact hi)
theorem Wk.fr {h':H}(k:Wk h W R n p d ws ll lo)(f:Fr h h'):Wk h' W R n p d ws ll lo:=
 ⟨(f.get W k.ltW).trans k.gW,(f.get R k.ltR).trans k.gR,k.lw,k.row.mono λ_ _ s=>s.mono f,k.sep,k.cap,k.WR,k.frs,kQ k.lt f.next,iD k.ltW f.next,iD k.ltR f.next⟩
theorem Wk.put (k:Wk h W R n p d ws ll lo)(i:Nat){w:V}{l:List Int}(f:SI h w l)(sw: ∀id off m c,w= .sl id off m c->id≠R/\id≠W)(j:MQ w)(o:zQ w lo):Wk (h.set R (cE (ws.set i w))) W R n p d (ws.set i w) (ll.set i l) lo:=by
 have iU: ∀x b,(∀id off m c,x=V.sl id off m c->id≠R/\id≠W)->SI h x b->SI (h.set R (cE (ws.set i w))) x b:=λx b a s=>SI.iU s (dN _) λid off m c e=>H.Cj h (a _ _ _ _ e).1 _
 refine⟨by rw[H.Cj _ k.WR];exact k.gW,H.aJ ..,by rw[List.length_set];exact k.lw,(bH.iU k.row λx a b s=>iU x b (k.sep x a) s).set i (iU w l sw f),λx a=>?_,λx a=>?_,k.WR,λx a=>?_,k.lt,k.ltW,k.ltR⟩
 .rcases List.mem_or_eq_of_mem_set a with a|rfl
  .exact k.sep x a
  .exact sw
 .rcases List.mem_or_eq_of_mem_set a with a|rfl
  .exact k.cap x a
  .exact j
 .rcases List.mem_or_eq_of_mem_set a with a|rfl
  .exact k.frs x a
  .exact o
end
set_option maxRecDepth 100000
theorem tD.amH {h:H}{u:V}{ws:List V}{f:List (List Int)}{b:Nat}(r:tD h u ws f b)(c:b<=h.next){w y:V}{l:List Int}(d:SV h y 1 [w])(j:SI h w l)(F:NI u w)(o:zQ w b)(x:ws.length<1000000):
  ∃h',tW h 1 24 u y=some (.sl h.next 0 (ws.length+1) (.un 1),h')/\tD h' (.sl h.next 0 (ws.length+1) (.un 1)) (ws++ [w]) (f++ [l]) b/\h'.get h.next=cE (ws++ [w])/\h.next<h'.next/\(∀k,k<h.next->cW u k->h'.get k=h.get k)/\ ∀a,Fr a h->a.next<=b->Fr a h':=by
 obtain⟨v,h',e,A,J,G,s⟩:=r.app c d j F o x
 have z:=EI r.own (n:=ws.length) om (m:=1) om om d rfl e
 subst z
 obtain⟨K,q,e2,a⟩:=r.own.app (bytes:=24) (n:=ws.length) (m:=1) (us:= [w]) (y:=y) c d om rfl om om
 rw[e] at e2
 simp only[Option.some.injEq,Prod.mk.injEq] at e2
 obtain⟨rfl,rfl⟩:=e2
 rcases a.cT with ⟨i,_⟩|⟨id,i,q,t,B⟩
 .omega
 .have:id=h.next:=by cases i;rfl
  subst this
  exact⟨h',e,A,B,t,G,s⟩
theorem GQ (h:H){x u:V}(d:x.cells= [x])(a:x.one=true)(c:u.cells= [u])(b:u.one=true):lU h 1 [.aH] 2 [(0,1,x),(1,1,u)]=some (.sl h.next 0 2 (.kn 2),h.new (.cells false [x,u])):=by
 have e:cJ [V.aH] 2= [.aH,.aH]:=rfl;simp [lU,fP,e,d,c,a,b,putAt]
def CR (a:uQ):Int:=if iO a≠0 then iO a else if a.2.length≠(a.2.getD 0 []).length then 10 else 0
theorem alJ {a:uQ}(h:CR a=0):Vd a a.2.length:=by
 rw[CR] at h;split at h
 .contradiction
 rename_i c;split at h
 .cases h
 rename_i b;have d:=yL (zL c);rw[<-show a.2.length=(a.2.getD 0 []).length from zL b] at d;exact d
theorem NM (x:V)(a:uQ)(h:H)(L:Jy h x a)(la:(a.2.length:Int)<=2^63- 1):Ev T 234 [x] h (λv h'=>v= aC (CR a)/\Fr h h'):=by
 obtain⟨c,rfl,b⟩:=L;have P:=SV.cT b.choose_spec.1;refine pM (oS h (v:= aC a.1) rfl P.2.1) ?_;have j:Fr h (h.new (.cells false [aC a.1,c])):=(Fr.refl h).new _;have l:(h.new (.cells false [aC a.1,c])).get h.next=cE [aC a.1,c]:=H.aI ..;have F:(h.new (.cells false [aC a.1,c])).next=h.next+1:=H.aM ..
 generalize h.new (.cells false [aC a.1,c])=J at*;refine bM (jH l) ?_;refine (Bq _ a J ⟨c,rfl,b.mono j⟩ la).mono ?_;rintro v z ⟨rfl,w⟩;have m:=j.trans w;have o:=(w.get h.next om).trans l;have N:z.cell h.next 1=some c:=by rw[H.cell_of o];rfl
 refine aT ?_
 by_cases f:iO a=0
 .rw[cV f]
  have y:=yL f;have K:=y.r1;have G:=y.r2;obtain⟨n,k,s,q,t,A,r,d⟩:=(b.mono m).open;have O:z.cell n k=some (s.getD 0 .undef):=r 0 om;have B:=(Mz d (i:=0) om).lens;refine nW N @b.lens @q.ixa O B ?_
  by_cases u:a.2.length=(a.2.getD 0 []).length
  .rw[bZ (show ¬((a.2.length:Int)≠((a.2.getD 0 []).length:Int)) by omega)]
   refine aT ?_;exact⟨by rw[CR,aQ (by simp [f]),aQ (by simp only[ne_eq,u,not_true_eq_false,not_false_eq_true]),f],m.cU om⟩
  .rw[cV (show ((a.2.length:Int)≠((a.2.getD 0 []).length:Int)) by omega)]
   refine aT ?_;exact⟨by rw[CR,aQ (by simp [f]),aS u],m.cU om⟩
 .rw[bZ f]
  refine bM @abL ?_;exact⟨by rw[CR,aS f],m.cU om⟩
theorem De.set {h:H}{v:V}{a:uQ}{b x:Nat}(o:De h v a b)(f:x<b)(c:Option Ob):De (h.set x c) v a b:=by
 have⟨u,d,e,r⟩:=o;exact⟨u,d,e,r.set f c⟩
theorem De.le {h:H}{v:V}{a:uQ}{c b:Nat}(o:De h v a c)(f:b<=c):De h v a b:=by
 have⟨u,d,e,r⟩:=o;exact⟨u,d,e,r.le f⟩
theorem De.fr {h h':H}{v:V}{a:uQ}{b:Nat}(o:De h v a b)(f:Fr h h'):De h' v a b:=by
 have⟨u,c,e,r⟩:=o;exact⟨u,c,e,r.fr f⟩
theorem Vd.mul {a b:uQ}{j d:Nat}(c:Vd a j)(h:Vd b d):Vd (Km a b j d) d:=by
 have l:=jB c.p
 exact⟨c.p,by rw[Km,dC];exact c.r1,by rw[Km,dC];exact c.r2,h.c1,h.c2,λi hi=>by
  rw[Km,dC] at hi;simp only[Km]
  rw[jT _ hi,aW],λi k hi f=>by
  rw[Km,dC] at hi;simp only[Km]
  rw[mG _ hi f];exact (bX _ om).1,λi k hi f=>by
  rw[Km,dC] at hi;simp only[Km]
  rw[mG _ hi f];exact (bX _ om).2⟩
def mA:uQ:=(5, [[1,2], [3,4]])
section
variable {x:Nat} {h h':H}
theorem dF.fx {v:V}{sz:Nat}{ws:List V}{b:Nat}(o:dF h v sz ws b)(d:x<b)(f:Fx x h h'):dF h' v sz ws b:=
 o.mono f.next λid _ _ _ _ c a=>f.get id a om
theorem tD.fx {u:V}{ws:List V}{c:List (List Int)}{a:Nat}(r:tD h u ws c a)(b:x<a)(f:Fx x h h'):tD h' u ws c a:=
 ⟨dF.fx r.own b f,bH.iU r.row λw d _ s=>SI.fx s (r.frs w d) b f,r.uY,r.frs⟩
theorem De.fx {v:V}{a:uQ}{b:Nat}(o:De h v a b)(d:x<b)(f:Fx x h h'):De h' v a b:=by
 have⟨u,c,e,r⟩:=o;exact⟨u,c,e,tD.fx r d f⟩
def FF (p:Int)(n:Nat)(A:Mx):Prop:= ∀i k,i<n->k<n->0<=A i k/\A i k<p
end
section
variable {n:Nat} {A B:Mx} {h:H}
structure Sq (p:Int)(n:Nat):Prop where
 f:fD p=true
 n1:1<=n
 n2:n<=64
theorem Sq.p {p:Int}{n:Nat}(s:Sq p n):2<=p/\p<10000:=jB s.f
theorem WW (a:1<=n)(A:Mx):((kM n n A).getD 0 []).length=n:=by rw[jT _ a,aW]
theorem Sq.vd {p:Int}(s:Sq p n)(b:FF p n A):Vd (p,kM n n A) n:=
 ⟨s.f,by simp only[dC];exact s.n1,by simp only[dC];exact s.n2,s.n1,s.n2,λi hi=>by
  simp only[dC] at hi;simp only
  rw[jT _ hi,aW],λi k hi a=>by
  simp only[dC] at hi;simp only
  rw[mG _ hi a];exact (b i k hi a).1,λi k hi a=>by
  simp only[dC] at hi;simp only
  rw[mG _ hi a];exact (b i k hi a).2⟩
theorem Sq.fit {p:Int}(s:Sq p n)(a:FF p n A)(b:FF p n B):KQ (p,kM n n A) (p,kM n n B)=0:=by
 rw[KQ,yJ (s.vd a),yJ (s.vd b)];simp
theorem Sq.la {p:Int}(s:Sq p n)(A:Mx):(((p,kM n n A):uQ).2.length:Int)<=2^63- 1:=by
 have:=s.n2;simp only[dC];omega
def mmP (p:Int)(n:Nat)(A B:Mx):Mx:=λi k=>mulM n A B i k%p
theorem Sq.mul {p:Int}(s:Sq p n)(d:FF p n A)(c:FF p n B):akO (p,kM n n A) (p,kM n n B)=((p,kM n n (mmP p n A B)),0):=by
 rw[akO,s.fit d c,aQ siM,aQ (by simp only[dC,WW s.n1,ne_eq,not_true_eq_false,not_false_eq_true])];simp only[WW s.n1,Km,dC];rw[zK λi k hi b=>?_];refine congrArg (· %p) (aU λj a=>?_);rw[mG _ hi a,mG _ a b]
theorem Sq.mm {p:Int}(s:Sq p n)(A B:Mx):FF p n (mmP p n A B):=λi k _ _=>bX _ (by have:=s.p;omega)
theorem Sq.add {p:Int}(s:Sq p n)(c:FF p n A)(b:FF p n B):akS (p,kM n n A) (p,kM n n B)=((p,kM n n (λi k=>(A i k+B i k)%p)),0):=by
 rw[akS,s.fit c b,aQ siM,aQ (by simp only[dC,WW s.n1,ne_eq,not_true_eq_false,or_self,not_false_eq_true])];simp only[WW s.n1,dC];rw[zK λi k hi a=>?_];rw[mG _ hi a,mG _ hi a,Int.one_mul]
theorem Sq.ad {p:Int}(s:Sq p n)(A B:Mx):FF p n (λi k=>(A i k+B i k)%p):=λi k _ _=>bX _ (by have:=s.p;omega)
theorem Sq.akN {p:Int}(s:Sq p n)(b:FF p n A):afW (p,kM n n A)=((p,kM n n (Sv A)),0):=by
 rw[afW,yJ (s.vd b),aQ siM];simp only[WW s.n1,dC];rw[zK λi k hi a=>?_];rw[mG _ a hi];rfl
theorem Sq.tr {p:Int}(b:FF p n A):FF p n (Sv A):=λi k hi a=>b k i a hi
theorem Sq.sc {p:Int}(s:Sq p n)(k:Int)(A:Mx):FF p n (λi j=>(k%p)*A i j%p):=λi k _ _=>bX _ (by have:=s.p;omega)
theorem Sq.one {p:Int}(s:Sq p n):alF (n:Int) p=((p,kM n n wC),0):=by
 have:=s.n1;have:=s.n2;rw[alF,aQ (by rw[s.f];simp),aQ om,Mc];rfl
theorem Sq.on {p:Int}(s:Sq p n):FF p n wC:=λi k _ _=>by
 have:=s.p;simp only[wC];split<;>omega
def MB (h:H)(id:Nat)(a:uQ):Prop:= ∃u,h.get id=some (.cells false [aC a.1,u])/\SR h u a.2/\id<h.next
theorem MB.mono {h':H}{id:Nat}{a:uQ}(b:MB h id a)(f:Fr h h'):MB h' id a:=by
 have⟨u,d,i,c⟩:=b;exact⟨u,(f.get id c).trans d,i.mono f,iD c f.next⟩
theorem MB.row {id:Nat}{p:Int}{L:List (List Int)}(b:MB h id (p,L)): ∃u,h.row id 0 2=some [aC p,u]/\Jy h (.agg [aC p,u]) (p,L):=by
 have⟨u,a,c,d⟩:=b;exact⟨u,jH a,u,rfl,c⟩
theorem MB.new {p:Int}{L:List (List Int)}{u:V}(s:SR h u L):MB (bxH h p u) h.next (p,L):=
 ⟨u,aeJ h p u,s.mono (ajT h p u),by rw[RZ];omega⟩
end
end Go.Proofs.YtoighkablmjfeaaGreat.Ln
namespace Go.Ay
theorem aiM (n:Nat)(f:Nat->Int):sm n (λi=>f (n- 1-i))=sm n f:=by
 induction n with
 |zero=>rfl
 |succ n ih=>
  rw[Dy,bQ,<-ih];have:sm n (λk=>f (n+1- 1-(k+1)))=sm n (λi=>f (n- 1-i)):=aU λk _=>by rw[show n+1- 1-(k+1)=n- 1-k by omega]
  rw[this];simp only[Nat.add_sub_cancel,Nat.sub_zero];omega
theorem Db (n:Nat)(A:Mx)(k:Nat)(h:n<k):lT n A k=0:=Bx n _ _ k h
theorem SM (A:Mx)(k:Nat):lT 0 A k=if k=0 then 1 else 0:=rfl
def mU (A:Mx)(n:Nat):Nat->Int
 |0=>1
 |d+1=>mU A n d*A (n-d) (n-d- 1)
theorem HT (A:Mx)(n:Nat): ∀d,mU A (n+1) (d+1)=A (n+1) n*mU A n d
 |0=>by simp [mU]
 |d+1=>by
  rw[mU,HT A n d,mU,show n+1-(d+1)=n-d by omega];grind
theorem Kw {A:Mx}{t:Int}(h: ∀i j,j+1<i->A i j=0): ∀d j,iE (j+d+1) (del (wQ A t) j (j+d+1))=Lx (d+1)*mU A (j+d+1) (d+1)*iE j (wQ A t)
 |d,j=>by
  have e:iE (j+d+1) (del (wQ A t) j (j+d+1))= -A (j+d+1) (j+d)*iE (j+d) (del (del (wQ A t) j (j+d+1)) (j+d) (j+d)):=by
   have row: ∀c,c<j+d+1->del (wQ A t) j (j+d+1) (j+d) c= -A (j+d+1) c:=λc a=>by
    simp only[del,vM];rw[aQ om,aS a];simp only[wQ];rw[aQ om];omega
   rw[Ve (n:=j+d) (i:=j+d) om,iP (t:=j+d) om λc a f=>by
    rw[row c a,h _ _ om];simp,row _ om,Ip,Int.one_mul]
  rw[e]
  cases d with
  |zero=>
   have e2:iE (j+0) (del (del (wQ A t) j (j+0+1)) (j+0) (j+0))=iE j (wQ A t):=fK λr c b a=>by
    simp only[del,Nat.add_zero];rw[Nat.add_zero] at b a;rw[show vM j r=r by unfold vM;rw[aS b],show vM j c=c by unfold vM;rw[aS a],show vM j r=r by unfold vM;rw[aS b],show vM (j+1) c=c by unfold vM;rw[aS om]]
   rw[e2];simp [mU,Lx]
  |succ d=>
   have e2:iE (j+(d+1)) (del (del (wQ A t) j (j+(d+1)+1)) (j+(d+1)) (j+(d+1)))=iE (j+d+1) (del (wQ A t) j (j+d+1)):=fK λr c b a=>by
    simp only[del];rw[show vM (j+(d+1)) r=r by unfold vM;rw[aS om],show vM (j+(d+1)) c=c by unfold vM;rw[aS om],show vM (j+(d+1)+1) c=c by unfold vM;rw[aS om],show vM (j+d+1) c=c by unfold vM;rw[aS om]]
   rw[e2,Kw h d j,show j+(d+1)+1=(j+d+1)+1 by omega,HT A (j+d+1) (d+1),show j+(d+1)=j+d+1 by omega,yD (d+1)];grind
theorem YT {A:Mx}(h: ∀i j,j+1<i->A i j=0)(n k:Nat)(f:k<n+2):lT (n+1) A k=Hx (lT n A) k-A n n*lT n A k-sm n (λd=>A (n- 1-d) n*mU A n (d+1)*lT (n- 1-d) A k):=by
 refine Mk (c:=λk=>Hx (lT n A) k-A n n*lT n A k-sm n (λd=>A (n- 1-d) n*mU A n (d+1)*lT (n- 1-d) A k)) (λt _=>?_) k f;rw[zM (j:=n) om,Zu,bQ,FL,FL,Ce,Sy,Dj (n:=n+1) (m:=n+2) (c:=lT n A) om λk r b=>Db _ _ _ om]
 have e1:iE n (del (wQ A t) n n)=rZ (n+1) (lT n A) t:=by
  rw[<-sI]
  exact fK λi j hi o=>by
   simp only[del,vM];rw[aS hi,aS o]
 have e2:wQ A t n n=t-A n n:=by simp only[wQ,if_true]
 rw[e1,e2,Ip,Int.one_mul]
 have l: ∀i,i<n->Lx (i+n)*wQ A t i n*iE n (del (wQ A t) i n)= -(A i n*mU A n (n-i)*iE i (wQ A t)):=λi hi=>by
  obtain⟨d,rfl⟩: ∃d,n=i+d+1:=⟨n-i- 1,om⟩
  rw[Kw h d i,show i+d+1-i=d+1 by omega,show i+(i+d+1)=(i+i)+(d+1) by omega,GO,Ip,Int.one_mul];have s:=YV (d+1);have e:wQ A t i (i+d+1)= -A i (i+d+1):=by simp only[wQ];rw[aQ om];omega
  rw[e];grind
 rw[aU l,Ur]
 have q:rZ (n+1+1) (λk=>sm n (λd=>A (n- 1-d) n*mU A n (d+1)*lT (n- 1-d) A k)) t=sm n (λi=>A i n*mU A n (n-i)*iE i (wQ A t)):=by
  rw[GB]
  have a: ∀d,d<n->rZ (n+1+1) (λk=>A (n- 1-d) n*mU A n (d+1)*lT (n- 1-d) A k) t=(λi=>A i n*mU A n (n-i)*iE i (wQ A t)) (n- 1-d):=λd u=>by
   simp only;rw[Ce,sI,Dj (n:=n- 1-d+1) (m:=n+1+1) om λk r b=>Db _ _ _ om,show n-(n- 1-d)=d+1 by omega]
  rw[aU a];exact aiM n (λi=>A i n*mU A n (n-i)*iE i (wQ A t))
 rw[q];grind
section
variable {a b i n k c:Nat} {p:Int} {A B B':Mx}
def sw (a b i:Nat):Nat:=if i=a then b else if i=b then a else i
theorem zV (d:a<n)(f:b<n)(hi:i<n):sw a b i<n:=by unfold sw;split<;>(try split)<;>omega
theorem WV {j:Nat}:sw a b i=sw a b j↔i=j:=by unfold sw;split<;>split<;>(try split)<;>(try split)<;>omega
theorem Up (a b:Nat):sw a b a=b:=aS rfl
theorem xC (a b:Nat):sw a b b=a:=by unfold sw;split<;>simp_all
theorem xP (d:i≠a)(h2:i≠b):sw a b i=i:=by unfold sw;rw[aQ d,aQ h2]
theorem aeK (a i:Nat):sw a a i=i:=by unfold sw;split<;>simp_all
theorem RX (A:Mx)(h:a≠b)(i j:Nat):swp A a b i j=A (sw a b i) j:=by
 by_cases d:i=a
 .subst d;rw[swp_left A h,Up]
 .by_cases f:i=b
  .subst f;rw[swp_right,xC]
  .rw[swp_other A d f,xP d f]
theorem aiX (f:a<n)(d:b<n)(h:a≠b)(A:Mx):iE n (λi j=>A (sw a b i) (sw a b j))=iE n A:=by
 have e1:iE n (λi j=>A (sw a b i) (sw a b j))= -iE n (λi j=>A i (sw a b j)):=by
  rw[<-(kP n).swap f d h];exact fK λi j _ _=>(RX (λi j=>A i (sw a b j)) h i j).symm
 have e2:iE n (λi j=>A i (sw a b j))= -iE n A:=by
  rw[<-Ba n A,<-(kP n).swap f d h,<-Ba];exact fK λi j _ _=>(RX (Sv A) h i j).symm
 rw[e1,e2];omega
theorem QQ (l:a<n)(f:b<n)(A:Mx)(k:Nat)(d:k<n+1):lT n (λi j=>A (sw a b i) (sw a b j)) k=lT n A k:=by
 by_cases h:a=b
 .subst h
  exact zI (λi j _ _=>by simp only[aeK]) k d
 .refine Mk (λt _=>?_) k d
  rw[<-sI,<-aiX l f h (wQ A t)];exact fK λi j _ _=>by simp only[wQ,WV]
def tZ (A:Mx)(k c:Nat)(f:Int):Mx:=λi j=>(if i=k then A k j-f*A c j else A i j)+(if j=c then f*(if i=k then A k k-f*A c k else A i k) else 0)
theorem DI (d:k<n)(l:c<n)(h:k≠c)(f:Int)(X:Mx):iE n (λi j=>if i=k then X k j-f*X c j else X i j)=iE n X:=by
 rw[<-(kP n).Ti X l d (Ne.symm h) (-f)];refine fK λi j _ _=>?_
 simp only[fO];split
 .grind
 .rfl
theorem DF (d:k<n)(l:c<n)(h:k≠c)(f:Int)(X:Mx):iE n (λi j=>X i j+(if j=c then f*X i k else 0))=iE n X:=by
 rw[<-Ba n X,<-(kP n).Ti (Sv X) d l h f,<-Ba];refine fK λi j _ _=>?_
 simp only[fO,Sv];split
 .rename_i e;subst e;grind
 .grind
theorem LQ (m:k<n)(r:c<n)(h:k≠c)(f:Int)(A:Mx)(q:Nat)(s:q<n+1):lT n (tZ A k c f) q=lT n A q:=by
 refine Mk (λt _=>?_) q s;rw[<-sI,<-(DF m r h f (λi j=>if i=k then wQ A t k j-f*wQ A t c j else wQ A t i j)).trans (DI m r h f (wQ A t))];refine fK λi j _ _=>?_
 simp only[wQ,tZ]
 by_cases l:i=k
 .subst l
  by_cases d:j=c
  .subst d
   simp only[if_true,aQ h,aQ (Ne.symm h)];grind
  .by_cases o:i=j
   .subst o
    simp only[if_true,aQ d,aQ (Ne.symm h)];grind
   .simp only[if_true,aQ d,aQ o,aQ (Ne.symm d)]
    grind
 .by_cases d:j=c
  .subst d
   simp only[aQ l,if_true];grind
  .simp only[aQ l,aQ d]
   grind
structure Mw (p:Int)(n:Nat)(A:Mx)(c:Nat)(B:Mx):Prop where
 rng: ∀i j,i<n->j<n->0<=B i j/\B i j<p
 low: ∀i j,i<n->j<c->j+1<i->B i j=0
 lT: ∀q,q<n+1->lT n B q%p=lT n A q%p
theorem Mw.start (h: ∀i j,i<n->j<n->0<=A i j/\A i j<p)(e: ∀i j,i<n->j<n->B i j=A i j):Mw p n A 0 B:=
 ⟨λi j hi d=>by rw[e i j hi d];exact h i j hi d,λi j _ d=>absurd d (Nat.not_lt_zero j),λq f=>by rw[zI e q f]⟩
theorem Mw.congr (b:Mw p n A c B)(e: ∀i j,i<n->j<n->B' i j=B i j)(l:c<=n):Mw p n A c B':=
 ⟨λi j hi d=>by rw[e i j hi d];exact b.rng i j hi d,λi j hi d h=>by rw[e i j hi om];exact b.low i j hi d h,λq f=>by rw[zI e q f];exact b.lT q f⟩
theorem Mw.skip (b:Mw p n A c B)(h: ∀i,c+1<i->i<n->B i c=0):Mw p n A (c+1) B:=
 ⟨b.rng,λi j hi f d=>by
  by_cases e:j=c
  .subst e;exact h i d hi
  .exact b.low i j hi om d,b.lT⟩
theorem Mw.swap {r:Nat}(b:Mw p n A c B)(f:r<n)(l:c+1<n)(o:c+1<=r)(e: ∀i j,i<n->j<n->B' i j=B (sw r (c+1) i) (sw r (c+1) j)):Mw p n A c B':=by
 refine⟨λi j hi d=>?_,λi j hi d h=>?_,λq m=>?_⟩
 .rw[e i j hi d];exact b.rng _ _ (zV f l hi) (zV f l d)
 .rw[e i j hi om,xP (show j≠r by omega) (show j≠c+1 by omega)]
  refine b.low _ j (zV f l hi) d ?_;unfold sw;split
  .omega
  .split
   .omega
   .exact h
 .rw[zI e q m,QQ f l B q m];exact b.lT q m
theorem Mw.tZ (b:Mw p n A c B)(m:0<p)(o:k<n)(s:c+1<k)(f:Int)(e: ∀i j,i<n->j<n->B' i j=tZ B k (c+1) f i j%p):Mw p n A c B':=by
 refine⟨λi j hi d=>?_,λi j hi d h=>?_,λq l=>?_⟩
 .rw[e i j hi d];exact⟨Int.emod_nonneg _ om,Int.emod_lt_of_pos _ m⟩
 .rw[e i j hi om]
  simp only[Ay.tZ];rw[aQ (show j≠c+1 by omega),b.low (c+1) j om d om];split
  .rename_i r
   rw[<-r,b.low i j hi d h];simp
  .rw[b.low i j hi d h];simp
 .rw[adD (B:=Ay.tZ B k (c+1) f) (λi j hi d=>by rw[e i j hi d,Int.emod_emod_of_dvd _ (Int.dvd_refl p)]) q,LQ o om om f B q l]
  exact b.lT q l
theorem NC {x:Int}(q:1<p)(d:k<n)(l:c+1<k)(m: ∀i j,i<n->j<n->0<=B i j/\B i j<p)(o:x*B (c+1) c%p=1)(e: ∀i j,i<n->j<n->B' i j=tZ B k (c+1) (B k c*x%p) i j%p):
  B' k c=0/\ ∀i,i<n->i≠k->B' i c=B i c:=by
 refine⟨?_,λi hi h=>?_⟩
 .rw[e k c d om]
  simp only[tZ,if_true]
  rw[aQ (show ¬c=c+1 by omega),Int.add_zero]
  have f:B k c*x%p*B (c+1) c%p=B k c%p:=by
   rw[Int.mul_emod,Int.emod_emod_of_dvd _ (Int.dvd_refl p),<-Int.mul_emod,Int.mul_assoc,Int.mul_emod,o,Int.mul_one,Int.emod_emod_of_dvd _ (Int.dvd_refl p)]
  rw[Int.sub_emod,f,Int.sub_self,Int.zero_emod]
 .rw[e i c hi om]
  simp only[tZ]
  rw[aQ h,aQ om,Int.add_zero]
  have:=m i c hi om
  exact Int.emod_eq_of_lt this.1 this.2
end
end Go.Ay
namespace Go.Proofs.YtoighkablmjfeaaGreat.Ln
open Go Go.Ay
structure Gc (h:H)(R n c:Nat)(ρ:Nat->Nat)(κ:Nat->qD)(τ:Nat->List V)(f:Nat->Nat->Int)(lo:Nat):Prop where
 gR:h.get R=some (.cells false ((List.range n).map λi=>V.sl (ρ i) 0 c (κ i)))
 row: ∀i,i<n->h.get (ρ i)=some (.cells false (ints (eN c (f i))++τ i))
 inj: ∀i j,i<n->j<n->ρ i=ρ j->i=j
 hR:lo<=R
 ltR:R<h.next
 hρ: ∀i,i<n->lo<=ρ i
 ltρ: ∀i,i<n->ρ i<h.next
 ne: ∀i,i<n->ρ i≠R
section
variable {h h':H} {R n c:Nat} {ρ:Nat->Nat} {κ:Nat->qD} {τ:Nat->List V} {f:Nat->Nat->Int} {lo:Nat}
theorem Gc.fr (g:Gc h R n c ρ κ τ f lo)(F:Fr h h'):Gc h' R n c ρ κ τ f lo:=
 ⟨(F.get R g.ltR).trans g.gR,λi hi=>(F.get _ (g.ltρ i hi)).trans (g.row i hi),g.inj,g.hR,iD g.ltR F.next,g.hρ,λi hi=>iD (g.ltρ i hi) F.next,g.ne⟩
theorem Gc.congr {f':Nat->Nat->Int}(g:Gc h R n c ρ κ τ f lo)(e: ∀i k,i<n->k<c->f i k=f' i k):Gc h R n c ρ κ τ f' lo:=
 ⟨g.gR,λi hi=>by rw[g.row i hi,fN λk a=>e i k hi a],g.inj,g.hR,g.ltR,g.hρ,g.ltρ,g.ne⟩
theorem Gc.cR (g:Gc h R n c ρ κ τ f lo): ∀i,i<n->h.cell R i=some (.sl (ρ i) 0 c (κ i)):=λi hi=>by
 rw[H.cell_of g.gR,Al,List.getElem?_range hi];rfl
theorem Gc.cρ (g:Gc h R n c ρ κ τ f lo): ∀i k,i<n->k<c->h.cell (ρ i) k=some (aC (f i k)):=λi k hi a=>by
 rw[H.cell_of (g.row i hi),Aw (by rw[aE,aW];exact a),mK (by rw[aW];exact a),cZ _ a]
theorem Gc.si (g:Gc h R n c ρ κ τ f lo){i:Nat}(hi:i<n):SI h (.sl (ρ i) 0 c (κ i)) (eN c (f i)):=
 .inr ⟨ρ i,0,c,κ i,false,_,rfl,by rw[aE,aW,jP],g.ltρ i hi,g.row i hi,by rw[eE,aE,aW];omega,by
  rw[List.drop_zero,jP,List.take_append_of_le_length (by rw[aE,aW];omega),Nb (by rw[aE,aW];omega)]⟩
theorem Gc.put (g:Gc h R n c ρ κ τ f lo){i k:Nat}(hi:i<n)(d:k<c)(x:Int):
  dY (h.get (ρ i)) h (ρ i) k [aC x]=some (h.set (ρ i) (some (.cells false (ints (eN c (HJ f i k x i))++τ i))))/\Gc (h.set (ρ i) (some (.cells false (ints (eN c (HJ f i k x i))++τ i)))) R n c ρ κ τ (HJ f i k x) lo:=by
 have e:(eN c (f i)).set k x=eN c (HJ f i k x i):=by
  rw[Ct]
  exact fN λj _=>by
   simp only[HJ,true_and]
 refine⟨by rw[g.row i hi,bE (by rw[eE,aE,aW];omega),List.set_append_left _ _ (by rw[aE,aW];exact d),ints_set,e],⟨?_,λj a=>?_,g.inj,g.hR,g.ltR,g.hρ,g.ltρ,g.ne⟩⟩
 .rw[H.Cj _ (λe=>g.ne i hi e.symm)];exact g.gR
 .by_cases e:j=i
  .subst e;rw[H.aJ]
  .rw[H.Cj _ λh=>e (g.inj j i a hi h),g.row j a,fN λb _=>?_]
   simp only[HJ]
   rw[aQ λh=>e h.1]
theorem Gc.sr (g:Gc h R n c ρ κ τ f lo)(cap:qD):SR h (.sl R 0 n cap) (kM n c f):=by
 refine⟨(List.range n).map λi=>V.sl (ρ i) 0 c (κ i),?_,bH.jF (by simp [kM]) λi a b=>?_⟩
 .exact SV.all siM g.ltR g.gR cap
 .simp only[dO,gT] at a
  simp only[List.getElem_map,List.getElem_range,kM];exact g.si a
theorem Gc.swap (g:Gc h R n c ρ κ τ f lo){a b:Nat}(d:a<n)(l:b<n):
  Gc (h.set R (some (.cells false ((((List.range n).map λi=>V.sl (ρ i) 0 c (κ i)).set a (.sl (ρ b) 0 c (κ b))).set b (.sl (ρ a) 0 c (κ a)))))) R n c (λi=>ρ (sw a b i)) (λi=>κ (sw a b i)) (λi=>τ (sw a b i)) (λi k=>f (sw a b i) k) lo:=by
 have el:(((List.range n).map λi=>V.sl (ρ i) 0 c (κ i)).set a (.sl (ρ b) 0 c (κ b))).set b (.sl (ρ a) 0 c (κ a))=(List.range n).map λi=>V.sl (ρ (sw a b i)) 0 c (κ (sw a b i)):=by
  refine List.ext_getElem siM λi q o=>?_
  rw[List.getElem_set,List.getElem_set,List.getElem_map,List.getElem_map,List.getElem_range]
  by_cases e1:b=i
  .subst e1;rw[aS rfl,xC]
  .rw[aQ e1]
   by_cases e2:a=i
   .subst e2;rw[aS rfl,Up]
   .rw[aQ e2,xP (Ne.symm e2) (Ne.symm e1)]
 rw[el]
 refine⟨H.aJ ..,λi hi=>?_,λi j hi m e=>?_,g.hR,g.ltR,λi hi=>g.hρ _ (zV d l hi),λi hi=>g.ltρ _ (zV d l hi),λi hi=>g.ne _ (zV d l hi)⟩
 .rw[H.Cj _ (g.ne _ (zV d l hi))]
  exact g.row _ (zV d l hi)
 .exact WV.1 (g.inj _ _ (zV d l hi) (zV d l m) e)
theorem Gc.same (g:Gc h R n c ρ κ τ f lo)(e: ∀id,h'.get id=h.get id)(a:h'.next=h.next):Gc h' R n c ρ κ τ f lo:=
 ⟨(e R).trans g.gR,λi hi=>(e _).trans (g.row i hi),g.inj,g.hR,by rw[a];exact g.ltR,g.hρ,λi hi=>by rw[a];exact g.ltρ i hi,g.ne⟩
theorem LI (h:H)(R:Nat)(a b:Option Ob): ∀id,((h.set R a).set R b).get id=(h.set R b).get id:=λid=>by
 rw[H.gY,H.gY,H.gY];split<;>rfl
def Ef {α:Type}(ρ:Nat->α)(i:Nat)(x:α):Nat->α:=λj=>if j=i then x else ρ j
theorem WZ {w:V}{l:List Int}{b:Nat}(o:dF h w 1 (ints l) b)(r:0<l.length): ∃id cap rest,w= .sl id 0 l.length cap/\b<=id/\id<h.next/\h.get id=some (.cells false (ints l++rest)):=by
 rcases o with ⟨_,k⟩|⟨id,m,cap,rest,i,a,_,q,d,j⟩
 .have:(ints l).length=0:=by rw[k];rfl
  rw[aE] at this;omega
 .rw[aE,jP] at a
  subst a;exact⟨id,cap,rest,i,q,d,j⟩
theorem Gc.US (g:Gc h R n c ρ κ τ f lo)(F:Fr h h'){i:Nat}(hi:i<n){u:Nat->Int}{id:Nat}{cap:qD}{l:List V}(s:h.next<=id)(h2:id<h'.next)(h3:h'.get id=some (.cells false (ints (eN c u)++l))):
  Gc (h'.set R (some (.cells false (((List.range n).map λi=>V.sl (ρ i) 0 c (κ i)).set i (.sl id 0 c cap))))) R n c (Ef ρ i id) (Ef κ i cap) (Ef τ i l) (λa k=>if a=i then u k else f a k) lo:=by
 have o:=g.fr F
 have lR:=g.ltR
 have el:((List.range n).map λi=>V.sl (ρ i) 0 c (κ i)).set i (.sl id 0 c cap)=(List.range n).map λj=>V.sl (Ef ρ i id j) 0 c (Ef κ i cap j):=by
  refine List.ext_getElem siM λj _ _=>?_
  rw[List.getElem_set,List.getElem_map,List.getElem_map,List.getElem_range];simp only[Ef]
  by_cases e:i=j
  .subst e;simp
  .rw[aQ e,aQ (Ne.symm e),aQ (Ne.symm e)]
 rw[el]
 have m:id≠R:=om
 refine⟨H.aJ ..,λj d=>?_,λa b r q e=>?_,g.hR,o.ltR,λj d=>?_,λj d=>?_,λj d=>?_⟩
 .simp only[Ef]
  by_cases e:j=i
  .subst e
   simp only[if_true]
   rw[H.Cj _ m];exact h3
  .simp only[aQ e]
   rw[H.Cj _ (g.ne j d)];exact o.row j d
 .simp only[Ef] at e
  have la:=g.ltρ a r
  have lb:=g.ltρ b q
  by_cases e1:a=i
  .by_cases e2:b=i
   .omega
   .rw[aS e1,aQ e2] at e;omega
  .by_cases e2:b=i
   .rw[aQ e1,aS e2] at e;omega
   .rw[aQ e1,aQ e2] at e
    exact g.inj a b r q e
 .simp only[Ef]
  split
  .exact kQ (kQ g.hR (Nat.le_of_lt lR)) s
  .exact g.hρ j d
 .simp only[Ef]
  split
  .exact h2
  .exact o.ltρ j d
 .simp only[Ef]
  split
  .exact m
  .exact g.ne j d
end
section
variable {h:H} {R n c lo:Nat} {f:Nat->Nat->Int}
structure Gp (h:H)(R n c i:Nat)(ρ:Nat->Nat)(f:Nat->Nat->Int)(lo:Nat):Prop where
 gR:h.get R=some (.cells false ((List.range n).map λj=>if j<i then V.sl (ρ j) 0 c (.un 1) else .aH))
 row: ∀j,j<i->h.get (ρ j)=some (.cells false (ints (eN c (f j))))
 inj: ∀a b,a<i->b<i->ρ a=ρ b->a=b
 hR:lo<=R
 ltR:R<h.next
 hρ: ∀j,j<i->R<ρ j
 ltρ: ∀j,j<i->ρ j<h.next
theorem Gp.zero (g:h.get R=some (.cells false (List.replicate n .aH)))(k:lo<=R)(h2:R<h.next):Gp h R n c 0 (λ_=>0) f lo:=
 ⟨by rw[g];congr 2;refine List.ext_getElem siM λi _ _=>?_;simp,λj d=>absurd d (Nat.not_lt_zero j),λa b l=>absurd l (Nat.not_lt_zero a),k,h2,λj d=>absurd d (Nat.not_lt_zero j),λj d=>absurd d (Nat.not_lt_zero j)⟩
theorem Gp.step {h':H}{i:Nat}{ρ:Nat->Nat}(g:Gp h R n c i ρ f lo)(hi:i<n)(F:Fr h h'){id:Nat}(o:h.next<=id)(h2:id<h'.next)(h3:h'.get id=some (.cells false (ints (eN c (f i))))):
  dY (h'.get R) h' R i [.sl id 0 c (.un 1)]=some (h'.set R (some (.cells false (((List.range n).map λj=>if j<i then V.sl (ρ j) 0 c (.un 1) else .aH).set i (.sl id 0 c (.un 1))))))/\
  Gp (h'.set R (some (.cells false (((List.range n).map λj=>if j<i then V.sl (ρ j) 0 c (.un 1) else .aH).set i (.sl id 0 c (.un 1)))))) R n c (i+1) (Ef ρ i id) f lo:=by
 have lR:=g.ltR
 have k:=(F.get R lR).trans g.gR
 refine⟨by rw[k,bE (by simpa using hi)],?_⟩
 have el:((List.range n).map λj=>if j<i then V.sl (ρ j) 0 c (.un 1) else .aH).set i (.sl id 0 c (.un 1))=(List.range n).map λj=>if j<i+1 then V.sl (Ef ρ i id j) 0 c (.un 1) else .aH:=by
  refine List.ext_getElem siM λj _ _=>?_
  rw[List.getElem_set,List.getElem_map,List.getElem_map,List.getElem_range];simp only[Ef]
  by_cases e:i=j
  .subst e;simp
  .rw[aQ e,aQ (Ne.symm e)]
   by_cases e2:j<i
   .rw[aS e2,aS om]
   .rw[aQ e2,aQ om]
 rw[el]
 have d:id≠R:=om
 refine⟨H.aJ ..,λj l=>?_,λa b m q e=>?_,g.hR,iD lR F.next,λj l=>?_,λj l=>?_⟩
 .simp only[Ef]
  by_cases e:j=i
  .subst e;rw[aS rfl,H.Cj _ d];exact h3
  .have:=g.hρ j om
   rw[aQ e,H.Cj _ om]
   exact (F.get _ (g.ltρ j om)).trans (g.row j om)
 .simp only[Ef] at e
  by_cases e1:a=i
  .by_cases e2:b=i
   .omega
   .have:=g.ltρ b om
    rw[aS e1,aQ e2] at e;omega
  .have:=g.ltρ a om
   by_cases e2:b=i
   .rw[aQ e1,aS e2] at e;omega
   .rw[aQ e1,aQ e2] at e
    exact g.inj a b om om e
 .simp only[Ef]
  split
  .omega
  .exact g.hρ j om
 .simp only[Ef]
  split
  .exact h2
  .exact iD (g.ltρ j om) F.next
theorem Gp.done {ρ:Nat->Nat}(g:Gp h R n c n ρ f lo):Gc h R n c ρ (λ_=> .un 1) (λ_=> []) f lo:=by
 refine⟨?_,λi hi=>by rw[qH];exact g.row i hi,g.inj,g.hR,g.ltR,λi hi=>kQ g.hR (Nat.le_of_lt (g.hρ i hi)),g.ltρ,λi hi=>by have:=g.hρ i hi;omega⟩;rw[g.gR];congr 2;refine List.ext_getElem siM λj a _=>?_
 simp only[dO,gT] at a;rw[List.getElem_map,List.getElem_map,List.getElem_range,aS a]
theorem YK {p a b c d:Int}(h:a%p=b%p)(k:c%p=d%p):(a+c)%p=(b+d)%p:=by
 rw[Int.add_emod,h,k,<-Int.add_emod]
theorem TN {p f:Int}{k:Nat}{B:Mx}(m: ∀i j,i<n->j<n->0<=B i j/\B i j<p)(o:k<n)(q:c<n){i j:Nat}(hi:i<n)(l:j<n):
  (if j=c then ((if i=k then (B k c+(p-f)*B c c)%p else B i c)+f*(if i=k then (B k k+(p-f)*B c k)%p else B i k))%p else (if i=k then (B k j+(p-f)*B c j)%p else B i j))=tZ B k c f i j%p:=by
 have d: ∀z:Int,z%p%p=z%p:=λz=>Int.emod_emod_of_dvd _ (Int.dvd_refl p)
 have e1: ∀x y:Int,(x+(p-f)*y)%p=(x-f*y)%p:=λx y=>by
  rw[show x+(p-f)*y=(x-f*y)+p*y by grind,Int.add_mul_emod_self_left]
 simp only[tZ]
 by_cases b:i=k
 .rw[aS b,aS b,aS b,aS b,aS b]
  by_cases a:j=c
  .rw[aS a,aS a,a]
   exact YK (by rw[d,e1]) (mul_mod rfl (by rw[d,e1]))
  .rw[aQ a,aQ a,Int.add_zero,e1]
 .rw[aQ b,aQ b,aQ b,aQ b,aQ b]
  by_cases a:j=c
  .rw[aS a,aS a,a]
  .rw[aQ a,aQ a,Int.add_zero]
   have:=m i j hi l
   exact (Int.emod_eq_of_lt this.1 this.2).symm
theorem acI (va:V)(a:uQ)(n:Nat)(h:H)(ha:Jy h va a)(da:Vd a n)(Y:a.2.length=n):
  Ev T 235 [va] h (λv h'=> ∃R B,v= .sl R 0 n (.kn n)/\SR h' v (kM n n B)/\Mw a.1 n (kH a.2) n B/\Fr h h'):=by
 obtain⟨ua,rfl,O⟩:=ha
 obtain⟨p,A⟩:=a
 simp only at O Y
 have wa:=SV.cT O.choose_spec.1
 have a4:=da.p
 have hp:=jB a4
 have hP:cF p=true:=by simp only[fD,oD] at a4;exact a4.2
 have b3:=da.r1
 have c5:=da.r2
 simp only at hp b3 c5 a4
 rw[Y] at b3 c5
 refine mV ?_
 simp (disch:=first|omega|(simp only[Qn];(try omega);done)|fail) only[go_sem,aV,oS h (v:= .int .i64 p) rfl wa.2.1]
 have a7:Fr h (h.new (.cells false [.int .i64 p,ua])):=(Fr.refl h).new _
 have b6:(h.new (.cells false [.int .i64 p,ua])).get h.next=some (.cells false [.int .i64 p,ua]):=H.aI ..
 have f6:(h.new (.cells false [.int .i64 p,ua])).next=h.next+1:=H.aM ..
 generalize h.new (.cells false [.int .i64 p,ua])=o at*
 have x0:o.cell h.next 0=some (.int .i64 p):=by rw[H.cell_of b6];rfl
 have x1:o.cell h.next 1=some ua:=by rw[H.cell_of b6];rfl
 have lu:=O.lens
 rw[Y] at lu
 have f0:Fr o (H.mk o.tr (h.next+1+7)):=(Fr.refl o).cU om
 have d8:sD (H.mk o.tr (h.next+1+7)) 1 24 [.aH] (.int .i64 (n:Int)) (.int .i64 (n:Int))=some (.sl (h.next+1+7) 0 n (.kn n),(H.mk o.tr (h.next+1+7)).new (.cells false (List.replicate n .aH))):=by
  rw[iH om (Int.le_refl _) om om,Mc,jP];congr 4;refine List.ext_getElem (by simp [cJ]) λi _ _=>?_
  simp [cJ,Nat.mod_one]
 simp (disch:=first|omega|(simp only[Qn];(try omega);done)|fail) only[go_sem,x0,x1,lu,d8]
 have c8:(H.mk o.tr (h.next+1+7)).next=h.next+1+7:=rfl
 generalize H.mk o.tr (h.next+1+7)=q at*
 rw[<-c8]
 have d9:Fr q (q.new (.cells false (List.replicate n .aH))):=(Fr.refl q).new _
 have d7:(q.new (.cells false (List.replicate n .aH))).get q.next=some (.cells false (List.replicate n .aH)):=H.aI ..
 have d1:(q.new (.cells false (List.replicate n .aH))).next=q.next+1:=H.aM ..
 generalize q.new (.cells false (List.replicate n .aH))=hm at*
 have Fm:Fr o hm:=f0.trans d9
 have G0:Gp hm q.next n n 0 (λ_=>0) (kH A) o.next:=Gp.zero d7 om om
 have Fh:Fr h hm:=a7.trans Fm
 have e7:hm.cell h.next 1=some ua:=by rw[Fm.cell om];exact x1
 obtain⟨b8,a5,c0,sa,N,K,W,J⟩:=(O.mono Fh).open
 rw[Y] at sa N K W
 obtain⟨R,hR⟩:=exI q.next
 rw[hR] at G0 d1
 rw[hR]
 refine aP (λt d s=> ∃(i:Nat) (ρ:Nat->Nat),(∃g:Nat->V,d=(g 0::g 1::g 2:: .int .i64 p:: .int .i64 (n:Int):: .sl R 0 n (.kn n)::g 6::g 7::g 8::g 9::g 10::g 11::g 12::g 13::g 14::ua:: .int .i64 (n:Int):: .int .i64 (i:Int)::g 18::g 19::g 20::g 21::g 22::g 23::g 24::g 25::g 26::g 27::g 28::g 29::g 30::g 31::g 32:: []))/\i<=n/\Gp s R n n i ρ (kH A) o.next/\Fr o s/\SR s ua A/\t=n-i) n
  ⟨0,_,aD rfl,fY _,G0,Fm,O.mono Fh,rfl⟩ ?_
 clear G0 Fm Fh e7 b8 a5 c0 sa N K W J
 rintro t d s ⟨i,ρ,⟨g,rfl⟩,hi,G3,F3,s3,rfl⟩
 simp (disch:=first|omega|(simp only[Qn];(try omega);done)|fail) only[go_sem]
 by_cases Z:(i:Int)<(n:Int)
 .rw[decide_eq_true Z]
  obtain⟨b8,a5,c0,sa,N,K,W,J⟩:=s3.open
  rw[Y] at sa N K W
  have ri:=Mz J (i:=i) om
  have e5:(A.getD i []).length=n:=da.row i (by simp only;omega)
  have d3:A.getD i []=eN n (kH A i):=tE e5 λk _=>rfl
  rw[d3] at ri
  simp (disch:=first|omega|(simp only[Qn];(try omega);done)|fail) only[go_sem,sa.ixa,W i om]
  refine (rW _ _ s ri (by rw[aW];omega)).mono ?_
  rintro v h4 ⟨_,f4,c7⟩
  obtain⟨id,rfl,d6,e9,c9⟩:=c7 (by rw[aW];omega)
  rw[aW]
  obtain⟨pt,G4⟩:=G3.step om f4 d6 e9 c9
  simp (disch:=first|omega|(simp only[Qn];(try omega);done)|fail) only[go_sem,pt]
  have e4:=G3.ltR
  have Q:=G3.hR
  refine⟨n-(i+1),om,i+1,_,aD rfl,om,G4,(F3.trans f4).set Q _,?_,rfl⟩
  exact (O.mono a7).mono ((F3.trans f4).set Q _)
 rw[decide_eq_false Z]
 obtain rfl:n=i:=om
 simp (disch:=first|omega|(simp only[Qn];(try omega);done)|fail) only[go_sem]
 have d5:=F3
 have e4:=G3.ltR
 have Q:=G3.hR
 have hA: ∀i j,i<n->j<n->0<=kH A i j/\kH A i j<p:=λi j hi hj=>⟨da.lo i j (by simp only;omega) hj,da.hi i j (by simp only;omega) hj⟩
 refine aP (λt d s=> ∃(c:Nat) (ρ:Nat->Nat) (κ:Nat->qD) (τ:Nat->List V) (B:Mx),(∃g:Nat->V,d=(g 0::g 1::g 2:: .int .i64 p:: .int .i64 (n:Int):: .sl R 0 n (.kn n)::g 6::g 7::g 8::g 9::g 10::g 11::g 12::g 13::g 14::g 15::g 16::g 17::g 18:: .int .i64 (n:Int):: .int .i64 (c:Int)::g 21::g 22::g 23::g 24::g 25::g 26::g 27::g 28::g 29::g 30::g 31::g 32:: []))/\c<=n/\Gc s R n n ρ κ τ B o.next/\Mw p n (kH A) c B/\Fr o s/\t=n-c) n
  ⟨0,ρ,_,_,kH A,aD rfl,fY _,G3.done,Mw.start hA λ_ _ _ _=>rfl,F3,rfl⟩ ?_
 clear G3 F3 s3 d5
 rintro t d s ⟨c,ρ,κ,τ,B,⟨g,rfl⟩,hc,G,Bn,F,rfl⟩
 simp (disch:=first|omega|(simp only[Qn];(try omega);done)|fail) only[go_sem]
 by_cases Z:(c:Int)<(n:Int)
 .rw[decide_eq_true Z]
  simp (disch:=first|omega|(simp only[Qn];(try omega);done)|fail) only[go_sem]
  rw[show (c:Int)+1=((c+1:Nat):Int) from om]
  refine aP (λt d h4=>h4=s/\ ∃r:Nat,(∃g:Nat->V,d=(g 0::g 1::g 2:: .int .i64 p:: .int .i64 (n:Int):: .sl R 0 n (.kn n)::g 6::g 7:: .int .i64 (c:Int):: .int .i64 (r:Int)::g 10::g 11::g 12::g 13::g 14::g 15::g 16::g 17::g 18:: .int .i64 (n:Int):: .int .i64 (c:Int)::g 21::g 22::g 23::g 24::g 25::g 26::g 27::g 28::g 29::g 30::g 31::g 32:: []))/\c+1<=r/\r<=n/\(∀i,c+1<=i->i<r->B i c=0)/\t=n-r) (n-(c+1))
   ⟨rfl,c+1,aD rfl,dN _,om,λi h1 h2=>om,rfl⟩ ?_
  rintro t d h4 ⟨rfl,r,⟨g,rfl⟩,d0,f3,hz,rfl⟩
  simp (disch:=first|omega|(simp only[Qn];(try omega);done)|fail) only[go_sem]
  by_cases b0:(r:Int)<(n:Int)
  .rw[decide_eq_true b0]
   simp (disch:=first|omega|(simp only[Qn];(try omega);done)|fail) only[go_sem,G.cR r om,G.cρ r c om om]
   by_cases hB:B r c=0
   .rw[decide_eq_true hB]
    simp (disch:=first|omega|(simp only[Qn];(try omega);done)|fail) only[go_sem]
    rw[show (r:Int)+1=((r+1:Nat):Int) from om]
    refine⟨n-(r+1),om,r+1,aD rfl,om,om,λi h1 h2=>?_,rfl⟩
    by_cases e:i=r
    .rw[e];exact hB
    .exact hz i h1 om
   rw[decide_eq_false hB]
   simp (disch:=first|omega|(simp only[Qn];(try omega);done)|fail) only[go_sem]
   rw[decide_eq_false (show ¬(n:Int)<=(r:Int) by omega)]
   have tn:((c:Int)+1).toNat=c+1:=om
   have U:Fr h4 (H.mk h4.tr (h4.next+18)):=(Fr.refl h4).cU om
   have G5:=G.fr U
   have F5:=F.trans U
   have hr:r<n:=om
   have l:c+1<n:=om
   have c2:=λhh=>eH (y:=V.sl (ρ (c+1)) 0 n (κ (c+1))) rfl rfl hh R r
   have b4:=λhh=>eH (y:=V.sl (ρ r) 0 n (κ r)) rfl rfl hh R (c+1)
   have c6:=λhh=>bE (vs:=(List.range n).map λi=>V.sl (ρ i) 0 n (κ i)) (off:=r) (by simpa using hr) hh R (V.sl (ρ (c+1)) 0 n (κ (c+1)))
   have c1:=λhh=>bE (vs:=((List.range n).map λi=>V.sl (ρ i) 0 n (κ i)).set r (V.sl (ρ (c+1)) 0 n (κ (c+1)))) (off:=c+1) (by simpa using l) hh R (V.sl (ρ r) 0 n (κ r))
   simp (disch:=first|omega|(simp only[Qn];(try omega);done)|fail) only[go_sem,tn,G.cR (c+1) om,G.cR r om,G5.gR,c2,b4,c6,c1]
   have G6:=(G5.swap hr l).same (h':=(((H.mk h4.tr (h4.next+18)).set R (some (.cells false (((List.range n).map λi=>V.sl (ρ i) 0 n (κ i)).set r (.sl (ρ (c+1)) 0 n (κ (c+1))))))).set R (some (.cells false ((((List.range n).map λi=>V.sl (ρ i) 0 n (κ i)).set r (.sl (ρ (c+1)) 0 n (κ (c+1)))).set (c+1) (.sl (ρ r) 0 n (κ r))))))) (LI _ _ _ _) rfl
   have F6:=(F5.set Q (some (.cells false (((List.range n).map λi=>V.sl (ρ i) 0 n (κ i)).set r (.sl (ρ (c+1)) 0 n (κ (c+1))))))).set Q (some (.cells false ((((List.range n).map λi=>V.sl (ρ i) 0 n (κ i)).set r (.sl (ρ (c+1)) 0 n (κ (c+1)))).set (c+1) (.sl (ρ r) 0 n (κ r)))))
   generalize ((H.mk h4.tr (h4.next+18)).set R (some (.cells false (((List.range n).map λi=>V.sl (ρ i) 0 n (κ i)).set r (.sl (ρ (c+1)) 0 n (κ (c+1))))))).set R (some (.cells false ((((List.range n).map λi=>V.sl (ρ i) 0 n (κ i)).set r (.sl (ρ (c+1)) 0 n (κ (c+1)))).set (c+1) (.sl (ρ r) 0 n (κ r)))))=h6 at*
   clear G G5 F F5 U c2 b4 c6 c1
   have eB: ∀k,k=r->B (sw r (c+1) (c+1)) c≠0:=λk _=>by rw[xC];exact hB
   generalize (λi=>ρ (sw r (c+1) i))=ρ at*
   generalize (λi=>κ (sw r (c+1) i))=κ at*
   generalize (λi=>τ (sw r (c+1) i))=τ at*
   refine aP (λt d s=> ∃(i:Nat),(∃g:Nat->V,d=(g 0::g 1::g 2:: .int .i64 p:: .int .i64 (n:Int):: .sl R 0 n (.kn n)::g 6::g 7:: .int .i64 (c:Int):: .int .i64 (r:Int)::g 10::g 11::g 12::g 13::g 14::g 15::g 16::g 17::g 18:: .int .i64 (n:Int):: .int .i64 (c:Int)::g 21::g 22::g 23:: .sl R 0 n (.kn n):: .int .i64 (n:Int):: .int .i64 (i:Int)::g 27::g 28::g 29::g 30::g 31::g 32:: []))/\i<=n/\Gc s R n n ρ κ τ (λa b=>if a<i then B (sw r (c+1) a) (sw r (c+1) b) else B (sw r (c+1) a) b) o.next/\Fr o s/\t=n-i) n
    ⟨0,aD rfl,fY _,G6.congr λa b _ _=>by rw[aQ (Nat.not_lt_zero a)],F6,rfl⟩ ?_
   clear G6 F6
   rintro t d h7 ⟨i,⟨g,rfl⟩,hi,G,F,rfl⟩
   simp (disch:=first|omega|(simp only[Qn];(try omega);done)|fail) only[go_sem]
   by_cases a0:(i:Int)<(n:Int)
   .rw[decide_eq_true a0]
    have m:i<n:=om
    have U:Fr h7 (H.mk h7.tr (h7.next+18)):=(Fr.refl h7).cU om
    have G5:=G.fr U
    have F5:=F.trans U
    obtain⟨p1,G7⟩:=G5.put m hr (B (sw r (c+1) i) (c+1))
    obtain⟨p2,G8⟩:=G7.put m l (B (sw r (c+1) i) r)
    have y1:=G.cρ i (c+1) m l
    have y2:=G.cρ i r m hr
    have L:=G.hρ i m
    simp only[aQ (Nat.lt_irrefl i)] at y1 y2
    replace p1:dY (h7.get (ρ i)) (H.mk h7.tr (h7.next+18)) (ρ i) r [.int .i64 (B (sw r (c+1) i) (c+1))]=_:=p1
    rw[H.aJ] at p2
    simp (disch:=first|omega|(simp only[Qn];(try omega);done)|fail) only[go_sem,tn,G.cR i m,y1,y2,p1,p2]
    rw[show (i:Int)+1=((i+1:Nat):Int) from om]
    refine⟨n-(i+1),om,i+1,aD rfl,om,G8.congr λa b ha q=>?_,(F5.set L _).set L _,rfl⟩
    simp only[HJ]
    by_cases e:a=i
    .subst e
     rw[aS (show a<a+1 by omega)]
     simp only[true_and,aQ (Nat.lt_irrefl a)]
     by_cases e1:b=c+1
     .rw[aS e1,e1,xC]
     .rw[aQ e1]
      by_cases e2:b=r
      .rw[aS e2,e2,Up]
      .rw[aQ e2,xP e2 e1]
    .rw[aQ (λh=>e h.1),aQ (λh=>e h.1)]
     by_cases e3:a<i
     .rw[aS e3,aS om]
     .rw[aQ e3,aQ om]
   rw[decide_eq_false a0]
   obtain rfl:n=i:=om
   have Bs:Mw p n (kH A) c (λa b=>B (sw r (c+1) a) (sw r (c+1) b)):=Bn.swap hr l d0 λ_ _ _ _=>rfl
   have G:=G.congr (f':=λa b=>B (sw r (c+1) a) (sw r (c+1) b)) λa b ha _=>aS ha
   have f1:(λa b=>B (sw r (c+1) a) (sw r (c+1) b)) (c+1) c≠0:=by
    simp only;rw[xC,xP (show c≠r by omega) (show c≠c+1 by omega)];exact hB
   clear Bn eB hB hz
   generalize (λa b=>B (sw r (c+1) a) (sw r (c+1) b))=B at*
   have pv:=Bs.rng (c+1) c l om
   simp (disch:=first|omega|(simp only[Qn];(try omega);done)|fail) only[go_sem,tn,G.cR (c+1) l,G.cρ (c+1) c l om]
   refine (DR (B (c+1) c) p h7 hP hp.2 om).mono ?_
   rintro v h8 ⟨x,rfl,x1,x2,x3,f8⟩
   replace G:=G.fr f8
   replace F:=F.trans f8
   simp (disch:=first|omega|(simp only[Qn];(try omega);done)|fail) only[go_sem,List.getElem?_cons_zero,List.getElem?_cons_succ]
   rw[show (c:Int)+2=((c+2:Nat):Int) from om]
   refine aP (λt d s=> ∃(k:Nat) (ρ:Nat->Nat) (κ:Nat->qD) (τ:Nat->List V) (B:Mx),(∃g:Nat->V,d=(g 0::g 1::g 2:: .int .i64 p:: .int .i64 (n:Int):: .sl R 0 n (.kn n)::g 6::g 7:: .int .i64 (c:Int)::g 9::g 10:: .int .i64 x:: .int .i64 (k:Int)::g 13::g 14::g 15::g 16::g 17::g 18:: .int .i64 (n:Int):: .int .i64 (c:Int)::g 21::g 22::g 23::g 24::g 25::g 26::g 27::g 28::g 29::g 30::g 31::g 32:: []))/\c+2<=k/\k<=n/\Gc s R n n ρ κ τ B o.next/\Mw p n (kH A) c B/\x*B (c+1) c%p=1/\(∀i,c+1<i->i<k->B i c=0)/\Fr o s/\t=n-k) (n-(c+2))
    ⟨c+2,ρ,κ,τ,B,aD rfl,dN _,om,G,Bs,x3,λi h1 h2=>om,F,rfl⟩ ?_
   clear G F Bs x3 pv f1 f8
   rintro t d h9 ⟨k,ρ,κ,τ,B,⟨g,rfl⟩,f7,f5,G,Bs,x3,hz,F,rfl⟩
   simp (disch:=first|omega|(simp only[Qn];(try omega);done)|fail) only[go_sem]
   by_cases a9:(k:Int)<(n:Int)
   .rw[decide_eq_true a9]
    have z:k<n:=om
    have q:=Bs.rng
    have b1:=qN (q k c z om).1 (q k c z om).2 (show 0<=x by omega) x2 hp.2
    have em:=gO (p:=p) b1.1
    have rf:=bX (B k c*x) (show 0<p by omega)
    have U:Fr h9 (H.mk h9.tr (h9.next+19)):=(Fr.refl h9).cU om
    have G5:=G.fr U
    have F5:=F.trans U
    have n5:(H.mk h9.tr (h9.next+19)).next=h9.next+19:=rfl
    simp (disch:=first|omega|(simp only[Qn];(try omega);done)|fail) only[go_sem,tn,G.cR k z,G.cR (c+1) l,G.cρ k c z om,em]
    generalize H.mk h9.tr (h9.next+19)=d4 at*
    obtain⟨f,hf⟩:=exI (B k c*x%p)
    rw[hf] at rf
    rw[hf]
    refine (aaP p (p-f) d4).mono ?_
    rintro w e8 ⟨ix,ip,rfl,cx,cp,lx,lp,b5⟩
    have G6:=G5.fr b5
    have F6:=F5.trans b5
    simp (disch:=first|omega|(simp only[Qn];(try omega);done)|fail) only[go_sem,G6.cR k z,G6.cR (c+1) l,Md]
    refine (akI _ _ _ _ _ (λa b=>(a+(p-f)*b)%p) e8 (G6.si z) (G6.si l) (by rw[aW,aW];exact dN _) (by rw[aW];omega) λh' f' j hj=>?_).mono ?_
    .rw[aW] at hj
     rw[cZ _ hj,cZ _ hj]
     have a1:=q (c+1) j l hj
     have a2:=q k j z hj
     have b1:=Int.mul_nonneg (show 0<=p-f by omega) a1.1
     have b2:=Int.mul_le_mul (show p-f<=20000 by omega) (Int.le_of_lt a1.2) a1.1 om
     exact YB ix ip p (p-f) _ _ h' (by rw[f'.cell lx.2];exact cx) (by rw[f'.cell lp.2];exact cp) om om om om
    rintro w e6 ⟨a8,a6⟩
    rw[abW (aW n _)] at a8
    obtain⟨id,cap,b7,rfl,i1,i2,i3⟩:=WZ a8 (by rw[aW];omega)
    rw[aW]
    have G7:=G6.US a6 z (cap:=cap) i1 i2 i3
    have F7:=(F6.trans a6).set Q (some (.cells false (((List.range n).map λi=>V.sl (ρ i) 0 n (κ i)).set k (.sl id 0 n cap))))
    have c4:=G6.fr a6
    have hs:=λhh=>eH (y:=V.sl id 0 n cap) rfl rfl hh R k
    have pt:=λhh=>bE (vs:=(List.range n).map λi=>V.sl (ρ i) 0 n (κ i)) (off:=k) (by simpa using z) hh R (V.sl id 0 n cap)
    simp (disch:=first|omega|(simp only[Qn];(try omega);done)|fail) only[go_sem,c4.gR,hs,pt]
    generalize e6.set R (some (.cells false (((List.range n).map λi=>V.sl (ρ i) 0 n (κ i)).set k (.sl id 0 n cap))))=f2 at*
    obtain⟨C,hC⟩: ∃C:Mx,C=λa b=>if a=k then (B k b+(p-f)*B (c+1) b)%p else B a b:=⟨_,rfl⟩
    have eC: ∀a b,C a b=if a=k then (B k b+(p-f)*B (c+1) b)%p else B a b:=λa b=>by rw[hC]
    have rC: ∀a b,a<n->b<n->0<=C a b/\C a b<p:=λa b ha P=>by
     rw[eC];split
     .exact bX _ om
     .exact q a b ha P
    have G8:=G7.congr (f':=λa b=>if a<0/\b=c+1 then (C a (c+1)+f*C a k)%p else C a b) λa b _ P=>by
     rw[show (if a<0/\b=c+1 then (C a (c+1)+f*C a k)%p else C a b)=C a b from aQ (λh=>Nat.not_lt_zero a h.1),eC]
     by_cases e:a=k
     .rw[aS e,aS e,cZ _ P]
     .rw[aQ e,aQ e]
    clear G7 G6 c4 G5 G F6 F5 F hs pt i3 a8 cx cp
    generalize Ef ρ k id=a3 at*
    generalize Ef κ k cap=b9 at*
    generalize Ef τ k b7=c3 at*
    refine aP (λt d s=> ∃(i:Nat),(∃g:Nat->V,d=(g 0::g 1::g 2:: .int .i64 p:: .int .i64 (n:Int):: .sl R 0 n (.kn n)::g 6::g 7:: .int .i64 (c:Int)::g 9::g 10:: .int .i64 x:: .int .i64 (k:Int):: .int .i64 f::g 14::g 15::g 16::g 17::g 18:: .int .i64 (n:Int):: .int .i64 (c:Int)::g 21::g 22::g 23::g 24::g 25::g 26::g 27::g 28:: .sl R 0 n (.kn n):: .int .i64 (n:Int):: .int .i64 (i:Int)::g 32:: []))/\i<=n/\Gc s R n n a3 b9 c3 (λa b=>if a<i/\b=c+1 then (C a (c+1)+f*C a k)%p else C a b) o.next/\Fr o s/\t=n-i) n
     ⟨0,aD rfl,fY _,G8,F7,rfl⟩ ?_
    clear G8 F7
    rintro t d u ⟨i,⟨g,rfl⟩,hi,G,F,rfl⟩
    simp (disch:=first|omega|(simp only[Qn];(try omega);done)|fail) only[go_sem]
    by_cases a0:(i:Int)<(n:Int)
    .rw[decide_eq_true a0]
     have m:i<n:=om
     have U:Fr u (H.mk u.tr (u.next+19)):=(Fr.refl u).cU om
     have G5:=G.fr U
     have F5:=F.trans U
     obtain⟨p1,G7⟩:=G5.put m l ((C i (c+1)+f*C i k)%p)
     have y1:=G.cρ i (c+1) m l
     have y2:=G.cρ i k m z
     have L:=G.hρ i m
     rw[aQ (λh=>Nat.lt_irrefl i h.1)] at y1 y2
     replace p1:dY (u.get (a3 i)) (H.mk u.tr (u.next+19)) (a3 i) (c+1) [.int .i64 ((C i (c+1)+f*C i k)%p)]=_:=p1
     have b1:=qN rf.1 rf.2 (rC i k m z).1 (rC i k m z).2 hp.2
     have b2:=rC i (c+1) m l
     have em:=gO (a:=C i (c+1)+f*C i k) (p:=p) om
     simp (disch:=first|omega|(simp only[Qn];(try omega);done)|fail) only[go_sem,tn,G.cR i m,y1,y2,em,p1]
     rw[show (i:Int)+1=((i+1:Nat):Int) from om]
     refine⟨n-(i+1),om,i+1,aD rfl,om,G7.congr λa b ha P=>?_,F5.set L _,rfl⟩
     simp only[HJ]
     by_cases e:a=i/\b=c+1
     .rw[aS e,aS ⟨om,e.2⟩,e.1]
     .rw[aQ e]
      by_cases e3:a<i/\b=c+1
      .rw[aS e3,aS ⟨om,e3.2⟩]
      .rw[aQ e3,aQ (λh=>e3 ⟨om,h.2⟩)]
    rw[decide_eq_false a0]
    obtain rfl:n=i:=om
    simp (disch:=first|omega|(simp only[Qn];(try omega);done)|fail) only[go_sem]
    rw[show (k:Int)+1=((k+1:Nat):Int) from om]
    have sh: ∀a b,a<n->b<n->(if a<n/\b=c+1 then (C a (c+1)+f*C a k)%p else C a b)=tZ B k (c+1) f a b%p:=λa b ha P=>by
     rw[<-TN q z l ha P]
     by_cases e:b=c+1
     .rw[aS ⟨ha,e⟩,aS e,eC,eC]
     .rw[aQ (λh=>e h.2),aQ e,eC]
    subst hf
    obtain⟨z1,z2⟩:=NC om z (show c+1<k by omega) q x3 sh
    refine⟨n-(k+1),om,k+1,a3,b9,c3,_,aD rfl,om,om,G,Bs.tZ om z om _ sh,?_,λi h1 h2=>?_,F,rfl⟩
    .rw[z2 (c+1) l om];exact x3
    .by_cases e:i=k
     .rw[e];exact z1
     .rw[z2 i om e];exact hz i h1 om
   rw[decide_eq_false a9]
   simp (disch:=first|omega|(simp only[Qn];(try omega);done)|fail) only[go_sem]
   rw[show (c:Int)+1=((c+1:Nat):Int) from om]
   exact⟨n-(c+1),om,c+1,ρ,κ,τ,B,aD rfl,om,G,Bs.skip λi h1 h2=>hz i h1 om,F,rfl⟩
  rw[decide_eq_false b0]
  simp (disch:=first|omega|(simp only[Qn];(try omega);done)|fail) only[go_sem]
  rw[decide_eq_true (show (n:Int)<=(r:Int) by omega)]
  simp (disch:=first|omega|(simp only[Qn];(try omega);done)|fail) only[go_sem]
  rw[show (c:Int)+1=((c+1:Nat):Int) from om]
  refine⟨n-(c+1),om,c+1,ρ,κ,τ,B,aD rfl,om,G,Bn.skip λi h1 h2=>hz i om om,F,rfl⟩
 rw[decide_eq_false Z]
 obtain rfl:n=c:=om
 simp (disch:=first|omega|(simp only[Qn];(try omega);done)|fail) only[go_sem]
 exact⟨R,B,rfl,G.sr _,Bn,a7.trans F⟩
end
theorem ahP {h:H}{N o:Nat}{cap:qD}{y:V}{l:List Int}{vs:List V}(c:SI h y l)(n:0<l.length)(i:h.get N=some (.cells false vs))(f:o+l.length<=vs.length):
  Nh h 1 (.sl N o l.length cap) y=some (aC (l.length:Int),h.set N (some (.cells false (vs.take o++ints l++vs.drop (o+l.length))))):=by
 have b:=SV.slice c
 have a:=c.len
 rcases c with ⟨_,e⟩|⟨id,d,len,j,m,r,rfl,k,q,t,u,s⟩
 .have:(ints l).length=0:=by rw[e];rfl
  rw[aE] at this;omega
 .simp only[oU,Option.some.injEq] at a
  subst a
  simp only[H.slice] at b
  simp only[Nh,oU,Nat.min_self,b,H.put,i,putAt,aE]
  rw[aS f]
  rfl
def Qy (B:Mx)(k d q:Nat):Int:=Hx (lT k B) q-B k k*lT k B q-sm d (λe=>B (k- 1-e) k*mU B k (e+1)*lT (k- 1-e) B q)
theorem Wo (B:Mx)(k d q:Nat):Qy B k (d+1) q=Qy B k d q-B (k- 1-d) k*mU B k (d+1)*lT (k- 1-d) B q:=by
 simp only[Qy,bQ];omega
theorem Xl {p a x y z w:Int}(c:a=x%p)(d:z%p=w%p):(a+(p-z)*(y%p))%p=(x-w*y)%p:=by
 have b: ∀z:Int,z%p%p=z%p:=λz=>Int.emod_emod_of_dvd _ (Int.dvd_refl p)
 rw[show a+(p-z)*(y%p)=(a-z*(y%p))+p*(y%p) by grind,Int.add_mul_emod_self_left,Int.sub_emod,Int.sub_emod x,c,b];rw[mul_mod d (b y)]
noncomputable def nH (a:uQ):List Int×Int:=if CR a≠0 then ([],CR a) else (eN (a.2.length+1) (λq=>lT a.2.length (kH a.2) q%a.1),0)
theorem akW {n:Nat}{B:Mx}{p:Int}{A:Mx}(b:Mw p n A n B): ∃B',(kM n n B'=kM n n B)/\Mw p n A n B'/\(∀i j,j+1<i->B' i j=0):=by
 refine⟨λi j=>if i<n/\j<n then B i j else 0,zK λi j hi a=>aS ⟨hi,a⟩,b.congr (λi j hi a=>aS ⟨hi,a⟩) (dN _),λi j h=>?_⟩;simp only;split
 .rename_i c;exact b.low i j c.1 c.2 h
 .rfl
theorem aeU (N k:Nat):pV 1 (.sl N 0 (k+2) (.kn (k+2))) (some (aC 1)) none none=some (.sl N 1 (k+1) (.kn (k+1))):=by
 simp only[pV,mQ];rw[aS ⟨om,om⟩];simp only[Int.toNat_one];rw[aS om,aQ om];simp only[Nat.zero_add,jP];rw[show k+2- 1=k+1 by omega]
theorem Td (h:H){v:V}(b:v.cells= [v])(a:v.one=true):lU h 1 [.aH] 1 [(0,1,v)]=some (.sl h.next 0 1 (.kn 1),h.new (.cells false [v])):=by
 have e:cJ [V.aH] 1= [.aH]:=rfl;simp [lU,fP,e,b,a,putAt]
theorem Fp (h:H)(x:Int):lU h 1 [aC 0] 1 [(0,1,aC x)]=some (.sl h.next 0 1 (.kn 1),h.new (.cells false (ints [x]))):=by
 have e:cJ [aC 0] 1= [aC 0]:=rfl;simp [lU,fP,e,putAt,V.cells,V.one,ints]
def VD (p:Int)(B:Mx)(k:Nat):List (List Int):=(List.range k).map λj=>eN (j+1) (λq=>lT j B q%p)
theorem QA (p:Int)(B:Mx)(k:Nat):VD p B (k+1)=VD p B k++ [eN (k+1) (λq=>lT k B q%p)]:=by
 simp [VD,List.range_succ]
theorem Tm {p:Int}{B:Mx}{k j:Nat}(h:j<k):(VD p B k).getD j []=eN (j+1) (λq=>lT j B q%p):=by
 rw[VD,gV,Al,List.getElem?_range h];rfl
theorem Cr (p:Int)(B:Mx)(k:Nat):(VD p B k).length=k:=by simp [VD]
theorem adR (va:V)(a:uQ)(h:H)(ha:Jy h va a)(la:(a.2.length:Int)<=2^63- 1):Ev T 187 [va] h (λv h'=> ∃w,v= .tup [w,aC (nH a).2]/\SI h' w (nH a).1/\Fr h h'):=by
 obtain⟨ua,rfl,a1⟩:=ha;have wa:=SV.cT a1.choose_spec.1;refine pM (oS h (v:= aC a.1) rfl wa.2.1) ?_;have c6:Fr h (h.new (.cells false [aC a.1,ua])):=(Fr.refl h).new _;have b9:(h.new (.cells false [aC a.1,ua])).get h.next=some (.cells false [aC a.1,ua]):=H.aI ..;have g7:(h.new (.cells false [aC a.1,ua])).next=h.next+1:=H.aM ..
 generalize h.new (.cells false [aC a.1,ua])=hx at*;refine bM (jH b9) ?_;refine (NM _ a hx ⟨ua,rfl,a1.mono c6⟩ la).mono ?_;rintro v h5 ⟨rfl,f5⟩;have F5:=c6.trans f5;have a2:=(f5.get h.next om).trans b9;have n5:=f5.next;refine aT ?_;refine bV (λhe=>?_) (λhe=>?_)
 .refine aT ?_
  have e:nH a=([],CR a):=by rw[nH,aS he]
  rw[e];exact⟨_,rfl,SI.aH _,F5⟩
 have hz:CR a=0:=zL he;have da:=alJ hz;have hp:=jB da.p;have e3:=da.r1;have e8:=da.r2;obtain⟨n,hn⟩:=exI a.2.length;rw[hn] at e3 e8;have fb:Fr h5 (H.mk h5.tr (h5.next+6)):=(Fr.refl h5).cU om;have x0:h5.cell h.next 0=some (aC a.1):=by rw[H.cell_of a2];rfl
 refine eZ (jH a2) x0 ?_;generalize H.mk h5.tr (h5.next+6)=h6 at*;have F6:=F5.trans fb;have e7:=(fb.get h.next om).trans a2;refine bM (jH e7) ?_;refine (acI _ a n h6 ⟨ua,rfl,a1.mono F6⟩ (by rw[<-hn];exact da) hn).mono ?_;rintro v m ⟨RB,B0,rfl,sB,b8,f7⟩;have F7:=F6.trans f7;have y0:m.cell h.next 0=some (aC a.1):=by rw[(fb.trans f7).cell om];exact x0
 refine bM y0 ?_;obtain⟨B,eB,bn,hB⟩:=akW b8;rw[<-eB] at sB;clear b8 eB;have br:=Td (m.new (.cells false (ints [1]))) (v:= .sl m.next 0 1 (.kn 1)) rfl rfl;refine eZ @Fp br ?_;have d6:Fr m (m.new (.cells false (ints [1]))):=(Fr.refl m).new _;have c1:(m.new (.cells false (ints [1]))).get m.next=some (.cells false (ints [1])):=H.aI ..;have d5:(m.new (.cells false (ints [1]))).next=m.next+1:=H.aM ..
 generalize m.new (.cells false (ints [1]))=hi at*;have a5:Fr hi (hi.new (.cells false [.sl m.next 0 1 (.kn 1)])):=(Fr.refl hi).new _;have b6:(hi.new (.cells false [.sl m.next 0 1 (.kn 1)])).get hi.next=some (.cells false [.sl m.next 0 1 (.kn 1)]):=H.aI ..;have f1:(hi.new (.cells false [.sl m.next 0 1 (.kn 1)])).next=hi.next+1:=H.aM ..
 generalize hi.new (.cells false [.sl m.next 0 1 (.kn 1)])=hj at*;obtain⟨p,a7⟩:=exI a.1;rw[a7] at hp bn
 have R0:tD hj (.sl hi.next 0 1 (.kn 1)) [.sl m.next 0 1 (.kn 1)] (VD p B 1) m.next:=by
  have e:VD p B 1= [[1]]:=by
   simp only[VD,List.range_succ,List.range_zero,List.nil_append,List.map_cons,List.map_nil]
   show [[lT 0 B 0%p]]= [[1]]
   rw[SM,aS rfl,one_mod om]
  rw[e];have gi:=(a5.get m.next om).trans c1;refine⟨.inr ⟨hi.next,1,.kn 1, [],rfl,rfl,.inr ⟨rfl,rfl⟩,om,om,b6⟩,⟨SI.own (l:= [1]) om gi _,trivial⟩,λw hw=>?_,λw hw=>?_⟩
  .rw[List.mem_singleton.1 hw]
   intro _ _ _ _ e1 _ _ _ _ e2;cases e1;cases e2;omega
  .rw[List.mem_singleton.1 hw]
   intro _ _ _ _ e2;cases e2;exact dN _
 have d4:=d6.trans a5;have f0: ∀i,i<(kM n n B).length->((kM n n B).getD i []).length=n:=λi hi=>by rw[dC] at hi;rw[jT _ hi,aW]
 have lB:dD (.sl RB 0 n (.kn n))=some (aC n):=rfl;have hb:=bn.rng;obtain⟨g4,f4,h1,g1,ob,c9⟩:=SR.rd sB f0;rw[a7,<-d5];refine aP (λJ b c=> ∃(k:Nat) (u:V) (ws:List V),(∃g:Nat->V,b= [g 0,g 1,g 2,g 3,g 4,aC p,.sl RB 0 n (.kn n),u,g 8,g 9,g 10,g 11,g 12,g 13,g 14,g 15,g 16,g 17,g 18,aC n,aC k,g 21,g 22,g 23,g 24,g 25,g 26,g 27,g 28,g 29,g 30])/\k<=n/\tD c u ws (VD p B (k+1)) m.next/\Fr m c/\J=n-k) n
  ⟨0,_,_,aD rfl,fY _,R0,d4,rfl⟩ ?_
 clear R0 d4 d6 a5 c1 b6 d5 f1;rintro J b c ⟨k,u,ws,⟨g,rfl⟩,hk,R3,f3,rfl⟩;refine aT ?_;obtain⟨c5,Y,W,sp,z,c0,R,t⟩:=R3.sr.open;rw[Cr] at sp z c0 R
 by_cases c2:(k:Int)<(n:Int)
 .rw[cV c2]
  have r:k<n:=om
  have a4:sD c 1 8 [aC 0] (aC ((k:Int)+2)) (aC ((k:Int)+2))=some (.sl c.next 0 (k+2) (.kn (k+2)),c.new (.cells false (ints (List.replicate (k+2) 0)))):=by
   rw[show (k:Int)+2=((k+2:Nat):Int) from om,iH om (Int.le_refl _) om om,Mc,jP,qT]
  obtain⟨Z,hZ⟩:=exI (List.replicate (k+2) (0:Int));rw[hZ] at a4;have lZ:Z.length=k+2:=by rw[<-hZ,List.length_replicate]
  have ck:(c.new (.cells false (ints Z))).cell c5 (Y+k)=some (W.getD k .undef):=by rw[((Fr.refl c).new _).cell (z om)];exact R k om
  have a6:=Mz t (i:=k) (by rw[Cr];omega);rw[Tm om] at a6;have rk:=a6.mono ((Fr.refl c).new (.cells false (ints Z)));have cp:=ahP rk (N:=c.next) (vs:=ints Z) (by rw[aW];omega) (H.aI ..) (o:=1) (cap:= .kn (k+1)) (by rw[aW,aE];omega);rw[aW] at cp
  obtain⟨Q,b3,d0,d1⟩: ∃Q,(ints Z).take 1++ints (eN (k+1) (λq=>lT k B q%p))++(ints Z).drop (1+(k+1))=ints Q/\Q.length=k+2/\ ∀q,q<k+2->Q.getD q 0=(Hx (lT k B) q-(if q<0 then B k k*lT k B q else 0))%p:=by
   refine⟨0::eN (k+1) (λq=>lT k B q%p),?_,by rw[List.length_cons,aW],λq x=>?_⟩
   .rw[MP,Qb,<-fQ,<-fQ,List.drop_eq_nil_of_le om,qH,<-hZ]
    rfl
   .rw[aQ (Nat.not_lt_zero q),Int.sub_zero]
    cases q with
    |zero=>simp [Hx]
    |succ q=>
     rw[List.getD_cons_succ,cZ _ om];simp [Hx]
  rw[b3] at cp;refine Ie a4 @sp.ixa ck @aeU cp @rk.lens @aW ?_;have g5:((c.new (.cells false (ints Z))).set c.next (some (.cells false (ints Q)))).get c.next=some (.cells false (ints Q)):=H.aJ ..;have f5:Fr c ((c.new (.cells false (ints Z))).set c.next (some (.cells false (ints Q)))):=((Fr.refl c).new _).set (dN _) _;have c7:((c.new (.cells false (ints Z))).set c.next (some (.cells false (ints Q)))).next=c.next+1:=rfl
  generalize (c.new (.cells false (ints Z))).set c.next (some (.cells false (ints Q)))=h0 at*;obtain⟨N,hN⟩:=exI c.next;rw[hN] at g5 c7;rw[hN];clear rk cp ck a4 b3;have lk:eN (k+1) (λq=>lT k B q%p)=eN (k+1) (λq=>lT k B q%p):=rfl
  try rw[fJ k]
  have h2:=hb k k r r;refine aP (λJ b F=> ∃(i:Nat) (o:List Int),(∃g:Nat->V,b= [g 0,g 1,g 2,g 3,g 4,aC p,.sl RB 0 n (.kn n),u,aC k,.sl N 0 (k+2) (.kn (k+2)),g 10,g 11,g 12,g 13,g 14,g 15,g 16,g 17,g 18,aC n,aC k,g 21,W.getD k .undef,aC (k+1:Nat),aC i,g 25,g 26,g 27,g 28,g 29,g 30])/\i<=k+1/\o.length=k+2/\(∀q,q<k+2->o.getD q 0=(Hx (lT k B) q-(if q<i then B k k*lT k B q else 0))%p)/\F.get N=some (.cells false (ints o))/\N+1<=F.next/\Fr c F/\J=k+1-i) (k+1)
   ⟨0,Q,aD rfl,fY _,d0,d1,g5,om,f5,rfl⟩ ?_
  clear g5 f5 c7 d0 d1 lk;rintro J b L ⟨i,o,⟨g,rfl⟩,hi,P,y,g6,n6,f6,rfl⟩;refine aT ?_
  by_cases d8:(i:Int)<((k+1:Nat):Int)
  .rw[cV d8]
   have ri:=a6.mono f6;obtain⟨e5,d9,sr,A,O⟩:=ri.open;rw[aW] at sr A O;have G:=O i om;rw[cZ _ om] at G;have U:=c9.fr (f3.trans f6);have kl:k<(kM n n B).length:=by rw[dC];exact r
   have eb:=U.kH k k kl r;rw[mG _ r r] at eb;have oi:L.cell N i=some (aC (o.getD i 0)):=by rw[H.cell_of g6,mK om]
   have vi:=y i om;rw[aQ (Nat.lt_irrefl i),Int.sub_zero] at vi;have ro:=bX (Hx (lT k B) i) (show 0<p by omega);rw[<-vi] at ro;have rx:=bX (lT k B i) (show 0<p by omega);have b1:=Int.mul_nonneg (show 0<=p-B k k by omega) rx.1;have b2:=Int.mul_le_mul (show p-B k k<=20000 by omega) (Int.le_of_lt rx.2) rx.1 om;have em:=gO (a:=o.getD i 0+(p-B k k)*(lT k B i%p)) (p:=p) om;have e4:Fr L (H.mk L.tr (L.next+22)):=(Fr.refl L).cU om;refine Ux @sr.ixa G @U.sl.ixa (U.at_ k kl) ((U.rsl k kl).ixa) eb oi em g6 ?_;rw[fJ i];refine⟨k+1-(i+1),om,i+1,o.set i ((o.getD i 0+(p-B k k)*(lT k B i%p))%p),aD rfl,om,by rw[List.length_set];exact P,λq x=>?_,rfl,om,(f6.trans e4).set om _,rfl⟩;rw[uB]
   by_cases e:i=q
   .subst e
    rw[aS rfl,aS om,aS om];exact Xl vi rfl
   .rw[aQ e,y q x]
    by_cases e2:q<i
    .rw[aS e2,aS om]
    .rw[aQ e2,aQ om]
  rw[bZ d8];obtain rfl:k+1=i:=om
  refine aT ?_
  have b4: ∀q,q<k+2->o.getD q 0=Qy B k 0 q%p:=λq x=>by
   rw[y q x,Qy]
   by_cases e:q<k+1
   .rw[aS e];simp [sm]
   .rw[aQ e,Db k B q om];simp [sm]
  clear y;have b0:(1:Int)=mU B k 0%p:=by rw[mU,one_mod om]
  rw[show (k:Int)- 1=(k:Int)- 1-((0:Nat):Int) from om];refine aP (λJ b F=> ∃(d:Nat) (bl:Int) (o:List Int),(∃g:Nat->V,b= [g 0,g 1,g 2,g 3,g 4,aC p,.sl RB 0 n (.kn n),u,aC k,.sl N 0 (k+2) (.kn (k+2)),g 10,g 11,g 12,aC bl,aC ((k:Int)- 1-(d:Int)),g 15,g 16,g 17,g 18,aC n,aC k,g 21,g 22,g 23,g 24,g 25,g 26,g 27,g 28,g 29,g 30])/\bl=mU B k d%p/\d<=k/\o.length=k+2/\(∀q,q<k+2->o.getD q 0=Qy B k d q%p)/\F.get N=some (.cells false (ints o))/\N+1<=F.next/\Fr c F/\J=k-d) k
   ⟨0,1,o,aD rfl,b0,fY _,P,b4,g6,n6,f6,rfl⟩ ?_
  clear g6 n6 f6 P b4 b0;rintro J b K ⟨d,bl,o,⟨g,rfl⟩,rfl,hd,P,y,g8,n8,f8,rfl⟩;refine aT ?_
  by_cases b7:0<=(k:Int)- 1-(d:Int)
  .rw[cV b7]
   obtain⟨j,hj⟩: ∃j:Nat,(k:Int)- 1-(d:Int)=(j:Int):=⟨((k:Int)- 1-(d:Int)).toNat,om⟩
   rw[hj];have g2:j<k:=om
   have tn:((j:Int)+1).toNat=j+1:=om
   have s:=c9.fr (f3.trans f8);have jl:j<(kM n n B).length:=by rw[dC];omega
   have a3:j+1<(kM n n B).length:=by rw[dC];omega
   have e1:=s.kH (j+1) j a3 om;rw[mG _ om om] at e1;have e2:=s.kH j k jl r;rw[mG _ om om] at e2;have r1:=hb (j+1) j om om;have r2:=hb j k om r;have r0:=bX (mU B k d) (show 0<p by omega);have m1:=qN r0.1 r0.2 r1.1 r1.2 hp.2;have a9:=gO (p:=p) m1.1
   have c4:mU B k d%p*B (j+1) j%p=mU B k (d+1)%p:=by
    rw[mU,show k-d- 1=j by omega,show k-d=j+1 by omega,Int.mul_emod,Int.emod_emod_of_dvd _ (Int.dvd_refl p),<-Int.mul_emod]
   rw[c4] at a9;have r3:=bX (mU B k (d+1)) (show 0<p by omega);have m2:=qN r2.1 r2.2 r3.1 r3.2 hp.2;have d3:=gO (p:=p) m2.1;have rf:=bX (B j k*(mU B k (d+1)%p)) (show 0<p by omega);have cj:K.cell c5 (Y+j)=some (W.getD j .undef):=by rw[f8.cell (z om)];exact R j om
   have a8:=Mz t (i:=j) (by rw[Cr];omega);rw[Tm om] at a8;have lj:=(a8.mono f8).lens;rw[aW] at lj;simp(disch:=omega)only[go_sem,tn,s.sl.ixa,s.at_ (j+1) a3,(s.rsl (j+1) a3).ixa,e1,a9,s.at_ j jl,(s.rsl j jl).ixa,e2,d3,sp.ixa,cj,lj];obtain⟨f,hf⟩:=exI (B j k*(mU B k (d+1)%p)%p);rw[hf] at rf;rw[hf]
   have c8:f%p=(B (k- 1-d) k*mU B k (d+1))%p:=by
    rw[<-hf,Int.emod_emod_of_dvd _ (Int.dvd_refl p),show k- 1-d=j by omega];exact mul_mod rfl (Int.emod_emod_of_dvd _ (Int.dvd_refl p))
   clear s e1 e2 a9 d3 m1 m2 c4 cj lj r0 r1 r2 r3;refine aP (λJ b F=> ∃(i:Nat) (o:List Int),(∃g:Nat->V,b= [g 0,g 1,g 2,g 3,g 4,aC p,.sl RB 0 n (.kn n),u,aC k,.sl N 0 (k+2) (.kn (k+2)),g 10,g 11,g 12,aC (mU B k (d+1)%p),aC j,aC f,g 16,g 17,g 18,aC n,aC k,g 21,g 22,g 23,g 24,g 25,g 26,W.getD j .undef,aC (j+1:Nat),aC i,g 30])/\i<=j+1/\o.length=k+2/\(∀q,q<k+2->o.getD q 0=(if q<i then Qy B k (d+1) q else Qy B k d q)%p)/\F.get N=some (.cells false (ints o))/\N+1<=F.next/\Fr c F/\J=j+1-i) (j+1)
    ⟨0,o,aD rfl,fY _,P,λq x=>by rw[y q x,aQ (Nat.not_lt_zero q)],g8,n8,f8,rfl⟩ ?_
   clear g8 n8 f8 P y;rintro J b h9 ⟨i,o,⟨g,rfl⟩,hi,P,y,g9,n9,f9,rfl⟩;refine aT ?_
   by_cases c3:(i:Int)<((j+1:Nat):Int)
   .rw[cV c3]
    have ri:=a8.mono f9;obtain⟨e5,d9,sr,A,O⟩:=ri.open;rw[aW] at sr A O;have G:=O i om;rw[cZ _ om] at G;have oi:h9.cell N i=some (aC (o.getD i 0)):=by rw[H.cell_of g9,mK om]
    have vi:=y i om;rw[aQ (Nat.lt_irrefl i)] at vi;have ro:=bX (Qy B k d i) (show 0<p by omega);rw[<-vi] at ro;have rx:=bX (lT j B i) (show 0<p by omega);have b1:=Int.mul_nonneg (show 0<=p-f by omega) rx.1;have b2:=Int.mul_le_mul (show p-f<=20000 by omega) (Int.le_of_lt rx.2) rx.1 om;have em:=gO (a:=o.getD i 0+(p-f)*(lT j B i%p)) (p:=p) om;refine nW @sr.ixa G oi em g9 ?_;rw[fJ i];refine⟨j+1-(i+1),om,i+1,o.set i ((o.getD i 0+(p-f)*(lT j B i%p))%p),aD rfl,om,by rw[List.length_set];exact P,λq x=>?_,rfl,om,f9.set om _,rfl⟩;rw[uB]
    by_cases e:i=q
    .subst e
     rw[aS rfl,aS om,aS om,Wo,show k- 1-d=j by omega];rw[show k- 1-d=j by omega] at c8;exact Xl vi c8
    .rw[aQ e,y q x]
     by_cases e2:q<i
     .rw[aS e2,aS om]
     .rw[aQ e2,aQ om]
   rw[bZ c3];obtain rfl:j+1=i:=om
   refine aT ?_;refine⟨k-(d+1),om,d+1,_,o,?_,rfl,om,P,λq x=>?_,g9,n9,f9,rfl⟩
   .rw[show (k:Int)- 1-((d+1:Nat):Int)=(j:Int)- 1 from om]
    exact aD rfl
   .rw[y q x]
    by_cases e:q<j+1
    .rw[aS e]
    .rw[aQ e,Wo,show k- 1-d=j by omega,Db j B q om,Int.mul_zero,Int.sub_zero]
  rw[bZ b7];obtain rfl:k=d:=om
  have br:=Td K (v:= .sl N 0 (k+2) (.kn (k+2))) rfl rfl
  have eo:o=eN (k+1+1) (λq=>lT (k+1) B q%p):=tE P λq x=>by
   rw[y q om,YT hB k q om];rfl
  subst eo;refine bM br ?_;have a0:Fr K (K.new (.cells false [.sl N 0 (k+2) (.kn (k+2))])):=(Fr.refl K).new _;have e9:(K.new (.cells false [.sl N 0 (k+2) (.kn (k+2))])).get K.next=some (.cells false [.sl N 0 (k+2) (.kn (k+2))]):=H.aI ..;have g0:(K.new (.cells false [.sl N 0 (k+2) (.kn (k+2))])).next=K.next+1:=H.aM ..
  generalize K.new (.cells false [.sl N 0 (k+2) (.kn (k+2))])=h9 at*;have ow:dF h9 (.sl N 0 (k+2) (.kn (k+2))) 1 (ints (eN (k+1+1) (λq=>lT (k+1) B q%p))) c.next:= .inr ⟨N,k+2,_, [],rfl,by rw[aE,aW,jP],.inr ⟨rfl,rfl⟩,om,om,by rw[qH];exact (a0.get N om).trans g8⟩;have sy:SV h9 (.sl K.next 0 1 (.kn 1)) 1 [.sl N 0 (k+2) (.kn (k+2))]:=SV.all rfl om e9 _;have nl:=f3.next;have b5:=R3.row.length;rw[Cr] at b5;obtain⟨g3,e6,d7,_,_,_,f2⟩:=(R3.fr (f8.trans a0)).amH om sy ow.sv (dF.uY R3.own ow) (zQ.le (zQ.own ow) nl) om;refine bM e6 ?_;rw[fJ k];rw[<-QA] at d7;exact⟨n-(k+1),om,k+1,_,_,aD rfl,om,d7,f2 m (f3.trans (f8.trans a0)) (dN _),rfl⟩
 rw[bZ c2];obtain rfl:n=k:=om
 simp(disch:=omega)only[go_sem,lB,sp.ixa,R n om];have rk:=Mz t (i:=n) (by rw[Cr];omega);rw[Tm om] at rk
 have e:nH a=(eN (n+1) (λq=>lT n B q%p),0):=by
  rw[nH,aQ (by simp [hz]),hn,a7];congr 1;exact fN λq x=>(bn.lT q x).symm
 rw[e];exact⟨_,rfl,rk,F7.trans f3⟩
set_option maxRecDepth 100000
set_option maxRecDepth 100000
set_option maxRecDepth 100000
section
variable {i x:Nat}
def Bt (h:H)(id n:Nat)(f:Nat->Int)(τ:List V):Prop:=h.get id=some (.cells false (ints (eN n f)++τ))
section
variable {h h':H} {id n:Nat} {f:Nat->Int} {τ:List V}
theorem Bt.cell (b:Bt h id n f τ)(hi:i<n):h.cell id i=some (aC (f i)):=by
 rw[H.cell_of b,Aw (by rw[aE,aW];exact hi),mK (by rw[aW];exact hi),cZ _ hi]
theorem Bt.put (b:Bt h id n f τ)(hi:i<n)(a:H)(x:Int):dY (h.get id) a id i [aC x]=some (a.set id (some (.cells false (ints (eN n λj=>if j=i then x else f j)++τ)))):=by
 rw[b,bE (by rw[eE,aE,aW];omega),List.set_append_left _ _ (by rw[aE,aW];exact hi),ints_set,Ct]
theorem Bt.si (b:Bt h id n f τ)(a:id<h.next)(cap:qD):SI h (.sl id 0 n cap) (eN n f):=
 .inr ⟨id,0,n,cap,false,_,rfl,by rw[aE,aW,jP],a,b,by rw[eE,aE,aW];omega,by
  rw[List.drop_zero,jP,List.take_append_of_le_length (by rw[aE,aW];omega),Nb (by rw[aE,aW];omega)]⟩
theorem Bt.set (h:H)(id n:Nat)(f:Nat->Int)(τ:List V):Bt (h.set id (some (.cells false (ints (eN n f)++τ)))) id n f τ:=H.aJ ..
theorem Bt.ne (b:Bt h id n f τ)(a:id≠x)(o:Option Ob):Bt (h.set x o) id n f τ:=by
 rw[Bt,H.Cj _ a];exact b
theorem Bt.fr (b:Bt h id n f τ)(F:Fr h h')(a:id<h.next):Bt h' id n f τ:=(F.get id a).trans b
theorem Bt.congr (b:Bt h id n f τ){g:Nat->Int}(e: ∀i,i<n->f i=g i):Bt h id n g τ:=by
 rw[Bt,<-fN e];exact b
theorem Bt.fx (b:Bt h id n f τ)(F:Fx x h h')(c:id<h.next)(a:id≠x):Bt h' id n f τ:=(F.get id c a).trans b
end
def Bk (h:H)(id n:Nat)(f:Nat->Int):Prop:=h.get id=some (.cells false (ints (eN n f)))
section
variable {h h':H} {id n:Nat} {f:Nat->Int}
theorem Bk.bt (b:Bk h id n f):Bt h id n f []:=by rw[Bt,qH];exact b
theorem Bt.bk (b:Bt h id n f []):Bk h id n f:=by rw[Bt,qH] at b;exact b
theorem Bk.cell (b:Bk h id n f)(hi:i<n):h.cell id i=some (aC (f i)):=by
 rw[H.cell_of b,mK (by rw[aW];exact hi),cZ _ hi]
theorem Bk.put (b:Bk h id n f)(hi:i<n)(a:H)(x:Int):dY (h.get id) a id i [aC x]=some (a.set id (some (.cells false (ints (eN n λj=>if j=i then x else f j))))):=by
 rw[b,bE (by rw[aE,aW];exact hi),ints_set,Ct]
theorem Bk.si (b:Bk h id n f)(a:id<h.next)(cap:qD):SI h (.sl id 0 n cap) (eN n f):=
 SV.all (by rw[aE,aW];omega) a b cap
theorem Bk.set (h:H)(id n:Nat)(f:Nat->Int):Bk (h.set id (some (.cells false (ints (eN n f))))) id n f:=H.aJ ..
theorem Bk.ne (b:Bk h id n f)(a:id≠x)(o:Option Ob):Bk (h.set x o) id n f:=by
 rw[Bk,H.Cj _ a];exact b
theorem Bk.fr (b:Bk h id n f)(F:Fr h h')(a:id<h.next):Bk h' id n f:=(F.get id a).trans b
theorem Bk.congr (b:Bk h id n f){g:Nat->Int}(e: ∀i,i<n->f i=g i):Bk h id n g:=by
 rw[Bk,<-fN e];exact b
end
theorem Kf (a:H)(c:Nat)(d:c<=1000):sD a 1 8 [aC 0] (aC c) (aC c)=some (.sl a.next 0 c (.kn c),a.new (.cells false (ints (eN c λ_=>0)))):=by
 rw[iH om (Int.le_refl _) om om,Mc,jP,qT,show List.replicate c (0:Int)=eN c (λ_=>0) from tE (List.length_replicate ..) λj b=>by rw[gV,List.getElem?_replicate,aS b];rfl]
theorem Ex (p x:Int)(a W L d c:Nat)(cap:qD)(w:V)(f g:Nat->Int)(τ:List V)(h:H)(P:Bt h a W f τ)(ha:a<h.next)(N:Sl w 1 L d c)(r:0<L->d<h.next)(Q: ∀i,i<L->h.cell d (c+i)=some (aC (g i)))(l:d≠a\/c=0)(hL:L<=W)(a0:L<1000000)
  (hp:0<p/\p<10000) (hx:0<=x/\x<30000) (hf: ∀i,i<L->0<=f i/\f i<10000) (U: ∀i,i<L->0<=g i/\g i<10000):
  Ev T 240 [.agg [aC p],.sl a 0 W cap,w,aC x] h (λ_ h'=>Bt h' a W (λi=>if i<L then (f i+x*g i)%p else f i) τ/\Fx a h h'):=by
 have v: ∀k,mT k (.agg [aC p])=some (.ptr k.next 0,k.new (.cells false [aC p])):=λk=>by simp [mT,V.cells,V.one]
 refine Hv v @N.lens ?_
 have u:Fr h (h.new (.cells false [aC p])):=(Fr.refl h).new _
 have q:(h.new (.cells false [aC p])).get h.next=some (.cells false [aC p]):=H.aI ..
 have R:(h.new (.cells false [aC p])).next=h.next+1:=H.aM ..
 generalize h.new (.cells false [aC p])=A at*
 obtain⟨X,G⟩:=exI h.next
 rw[G] at q
 rw[G]
 have t:Fx a h A:=Fx.of u
 refine aP (λK o k=> ∃(i:Nat),(∃j:Nat->V,o= [j 0,.sl a 0 W cap,j 2,aC x,.ptr X 0,j 5,j 6,w,aC L,aC i,j 10])/\i<=L/\Bt k a W (λj=>if j<i then (f j+x*g j)%p else f j) τ/\k.get X=some (.cells false [aC p])/\Fx a h k/\K=L-i) L
  ⟨0,aD rfl,fY _,(P.fr u ha).congr λi _=>(aQ (Nat.not_lt_zero i)).symm,q,t,rfl⟩ ?_
 clear q t
 rintro K o k ⟨i,⟨jk,rfl⟩,hi,b,B,F,rfl⟩
 refine aT ?_
 by_cases s:(i:Int)<(L:Int)
 .rw[cV s]
  have m:i<L:=om
  have cw:k.cell d (c+i)=some (aC (g i)):=by
   by_cases e:d=a
   .have o0:c=0:=by
     rcases l with y|y
     .exact absurd e y
     .exact y
    have z:=Q i m;subst e;rw[o0,Nat.zero_add] at z |-;rw[P.cell om] at z;rw[b.cell om,aQ (Nat.lt_irrefl i)];exact z
   .have:=F.get d (r om) e
    unfold H.cell at*;rw[this];exact Q i m
  have Z:k.cell X 0=some (aC p):=by rw[H.cell_of B];rfl
  have J:=b.cell (i:=i) om
  rw[aQ (Nat.lt_irrefl i)] at J
  have rf:=hf i m
  have O:=U i m
  have b1:=Int.mul_nonneg hx.1 O.1
  have b2:=Int.mul_le_mul (show x<=30000 by omega) (show g i<=10000 by omega) O.1 om
  have em:=gO (a:=f i+x*g i) (p:=p) om
  have Y:=b.put (i:=i) om (H.mk k.tr (k.next+15)) ((f i+x*g i)%p)
  refine wE @N.ixa cw Z J em Y ?_
  rw[fJ i]
  refine⟨L-(i+1),om,i+1,aD rfl,om,(Bt.set ..).congr λj hj=>?_,?_,⟨by show h.next<=k.next+15;have:=F.next;omega,λid r l=>by rw[H.Cj _ l];exact F.get id r l⟩,rfl⟩
  .by_cases e:j=i
   .rw[aS e,aS om,e]
   .rw[aQ e]
    by_cases e2:j<i
    .rw[aS e2,aS om]
    .rw[aQ e2,aQ om]
  .first|exact B|(rw[H.Cj _ om];exact B)
 rw[bZ s]
 obtain rfl:L=i:=om
 refine aT ?_
 exact⟨b,F⟩
theorem Yy (p:Int)(v:V)(l:List Int)(h:H)(P:SI h v l)(hl:l.length<=1000)(K:0<p/\p<10000):
  Ev T 262 [.agg [aC p],v] h (λw h'=> ∃N,w= .sl N 0 l.length (.kn l.length)/\h.next<=N/\N<h'.next/\Bk h' N l.length (λi=>l.getD i 0%p)/\Fr h h'):=by
 have t: ∀a,mT a (.agg [aC p])=some (.ptr a.next 0,a.new (.cells false [aC p])):=λa=>by simp [mT,V.cells,V.one]
 have B:=λa=>Kf a l.length hl
 obtain⟨id,y,W,A,hc⟩:=P.open
 refine XL t @P.lens B ?_
 have z:Fr h (h.new (.cells false [aC p])):=(Fr.refl h).new _
 have u:(h.new (.cells false [aC p])).get h.next=some (.cells false [aC p]):=H.aI ..
 have s:(h.new (.cells false [aC p])).next=h.next+1:=H.aM ..
 generalize h.new (.cells false [aC p])=c at*
 rw[<-s]
 have r:Fr c (c.new (.cells false (ints (eN l.length λ_=>0)))):=(Fr.refl c).new _
 have k:(c.new (.cells false (ints (eN l.length λ_=>0)))).get c.next=some (.cells false (ints (eN l.length λ_=>0))):=H.aI ..
 have a0:(c.new (.cells false (ints (eN l.length λ_=>0)))).next=c.next+1:=H.aM ..
 generalize c.new (.cells false (ints (eN l.length λ_=>0)))=Q at*
 obtain⟨X,G⟩:=exI h.next
 obtain⟨N,L⟩:=exI c.next
 have m:Q.get X=some (.cells false [aC p]):=by rw[<-G];exact (r.get _ om).trans u
 rw[L] at k
 rw[G,L]
 have F2:=z.trans r
 refine aP (λJ d a=> ∃(i:Nat),(∃j:Nat->V,d= [j 0,j 1,.ptr X 0,j 3,.sl N 0 l.length (.kn l.length),j 5,j 6,v,aC (l.length:Int),aC i,j 10])/\i<=l.length/\Bk a N l.length (λj=>if j<i then l.getD j 0%p else 0)/\a.get X=some (.cells false [aC p])/\N<a.next/\Fr h a/\J=l.length-i) l.length
  ⟨0,aD rfl,fY _,Bk.congr k λi _=>(aQ (Nat.not_lt_zero i)).symm,m,om,F2,rfl⟩ ?_
 clear m k F2
 rintro J d a ⟨i,⟨jk,rfl⟩,hi,b,m,lN,F,rfl⟩
 refine aT ?_
 by_cases o:(i:Int)<(l.length:Int)
 .rw[cV o]
  have q:i<l.length:=om
  have R:a.cell id (y+i)=some (aC (l.getD i 0)):=by rw[F.cell (A om)];exact hc i q
  have Y:a.cell X 0=some (aC p):=by rw[H.cell_of m];rfl
  have t1:=zC (l.getD i 0) K.1
  have Z:=CH (l.getD i 0) K.1
  have U:=b.put (i:=i) q (H.mk a.tr (a.next+14)) (l.getD i 0%p)
  refine nW @W.ixa R Y Z U ?_
  rw[fJ i]
  refine⟨l.length-(i+1),om,i+1,aD rfl,om,(Bk.set ..).congr λj O=>?_,?_,by show N<a.next+14;omega,(F.cU om).set om _,rfl⟩
  .by_cases e:j=i
   .rw[aS e,aS om,e]
   .rw[aQ e]
    by_cases e2:j<i
    .rw[aS e2,aS om]
    .rw[aQ e2,aQ om]
  .first|exact m|(rw[H.Cj _ om];exact m)
 rw[bZ o]
 obtain⟨rfl⟩:i=l.length:=om
 refine aT ?_
 exact⟨N,rfl,om,lN,b.congr λj O=>aS O,F⟩
end
def Mp (h:H)(M n W:Nat)(S:Nat->Bool)(ρ:Nat->Nat):Prop:=
 ∃es,h.get M=some (.map es)/\jA .i64 es=true/\ ∀c,c<n->mB .i64 (c:Int) es=if S c then some (.sl (ρ c) 0 W (.kn W)) else none
theorem Mp.fr {h h':H}{M n W:Nat}{S:Nat->Bool}{ρ:Nat->Nat}(m:Mp h M n W S ρ)(e:h'.get M=h.get M):Mp h' M n W S ρ:=by
 obtain⟨b,a,d,c⟩:=m;exact⟨b,by rw[e];exact a,d,c⟩
theorem Mp.set {h:H}{M n W:Nat}{S:Nat->Bool}{ρ:Nat->Nat}(m:Mp h M n W S ρ){at_ N:Nat}:
  ∃es,h.get M=some (.map es)/\jA .i64 es=true/\ ∀hh:H,Mp (hh.set M (some (.map (rG .i64 (at_:Int) (.sl N 0 W (.kn W)) es)))) M n W (λc=>if c=at_ then true else S c) (Ef ρ at_ N):=by
 obtain⟨es,b,a,d⟩:=m
 refine⟨es,b,a,λhh=>⟨_,H.aJ ..,Vc a,λc f=>?_⟩⟩
 rw[Ge a]
 simp only[Ef]
 by_cases e:c=at_
 .subst e
  simp
 .rw[aQ om,d c f]
  simp only[aQ e]
structure Ec (h:H)(E M n W:Nat)(p:Int)(S:Nat->Bool)(ρ:Nat->Nat)(f:Nat->Nat->Int)(lo:Nat):Prop where
 gE:h.get E=some (.cells false [aC p,aC n,.mp M])
 gM:Mp h M n W S ρ
 row: ∀c,c<n->S c=true->Bk h (ρ c) W (f c)
 inj: ∀a b,a<n->b<n->S a=true->S b=true->ρ a=ρ b->a=b
 neE: ∀c,c<n->S c=true->ρ c≠E
 neM: ∀c,c<n->S c=true->ρ c≠M
 EM:E≠M
 loE:lo<=E
 loM:lo<=M
 loR: ∀c,c<n->S c=true->lo<=ρ c
 ltE:E<h.next
 ltM:M<h.next
 ltR: ∀c,c<n->S c=true->ρ c<h.next
section
variable {h h':H} {E M n W:Nat} {p:Int} {S:Nat->Bool} {ρ:Nat->Nat} {f:Nat->Nat->Int} {lo:Nat}
theorem Ec.fr (k:Ec h E M n W p S ρ f lo)(F:Fr h h'):Ec h' E M n W p S ρ f lo:=
 ⟨(F.get E k.ltE).trans k.gE,k.gM.fr (F.get M k.ltM),λc b a=>(k.row c b a).fr F (k.ltR c b a),k.inj,k.neE,k.neM,k.EM,k.loE,k.loM,k.loR,iD k.ltE F.next,iD k.ltM F.next,λc b a=>iD (k.ltR c b a) F.next⟩
theorem Ec.fx (k:Ec h E M n W p S ρ f lo){x:Nat}(F:Fx x h h')(d:x≠E)(h2:x≠M)(h3: ∀c,c<n->S c=true->x≠ρ c):Ec h' E M n W p S ρ f lo:=
 ⟨(F.get E k.ltE d.symm).trans k.gE,k.gM.fr (F.get M k.ltM h2.symm),λc b a=>(F.get _ (k.ltR c b a) (h3 c b a).symm).trans (k.row c b a),k.inj,k.neE,k.neM,k.EM,k.loE,k.loM,k.loR,iD k.ltE F.next,iD k.ltM F.next,λc b a=>iD (k.ltR c b a) F.next⟩
theorem Ec.alD (k:Ec h E M n W p S ρ f lo){c:Nat}(j:c<n)(l:S c=true)(F:Fx (ρ c) h h'){u:Nat->Int}(b:Bk h' (ρ c) W u):Ec h' E M n W p S ρ (λa=>if a=c then u else f a) lo:=
 ⟨(F.get E k.ltE (k.neE c j l).symm).trans k.gE,k.gM.fr (F.get M k.ltM (k.neM c j l).symm),λa i d=>by
  by_cases e:a=c
  .subst e;simp only[if_true];exact b
  .simp only[aQ e]
   exact (F.get _ (k.ltR a i d) λe2=>e (k.inj a c i j d l e2)).trans (k.row a i d),k.inj,k.neE,k.neM,k.EM,k.loE,k.loM,k.loR,iD k.ltE F.next,iD k.ltM F.next,λa i d=>iD (k.ltR a i d) F.next⟩
theorem Ec.congr (k:Ec h E M n W p S ρ f lo){g:Nat->Nat->Int}(e: ∀c j,c<n->S c=true->j<W->f c j=g c j):Ec h E M n W p S ρ g lo:=
 ⟨k.gE,k.gM,λc a b=>(k.row c a b).congr λj d=>e c j a b d,k.inj,k.neE,k.neM,k.EM,k.loE,k.loM,k.loR,k.ltE,k.ltM,k.ltR⟩
theorem Ec.e0 (k:Ec h E M n W p S ρ f lo):h.cell E 0=some (aC p):=by rw[H.cell_of k.gE];rfl
theorem Ec.e1 (k:Ec h E M n W p S ρ f lo):h.cell E 1=some (aC n):=by rw[H.cell_of k.gE];rfl
theorem Ec.e2 (k:Ec h E M n W p S ρ f lo):h.cell E 2=some (.mp M):=by rw[H.cell_of k.gE];rfl
end
theorem sU (k X E M n W:Nat)(p:Int)(S:Nat->Bool)(ρ:Nat->Nat)(J:Nat->H->Prop)
  (z: ∀c a,J c a->a.get X=some (.cells false [.ptr E 0])/\a.get E=some (.cells false [aC p,aC n,.mp M])/\Mp a M n W S ρ)
  (F: ∀c a,c<n->S c=true->J c a->Ey T k [aC c,.sl (ρ c) 0 W (.kn W)] a (λv hh'=>v= .bool true/\J (c+1) hh'))
  (G: ∀c a,c<n->S c=false->J c a->J (c+1) a) (a:H) (t:J 0 a) (N:n<1000000):
  Ev T 193 [.yl k,.ptr X 0] a (λ_ hh'=>J n hh'):=by
 obtain⟨o,r,w⟩:=z 0 a t
 have l:a.cell X 0=some (.ptr E 0):=by rw[H.cell_of o];rfl
 have e1:a.cell E 1=some (aC n):=by rw[H.cell_of r];rfl
 refine Hv l e1 ?_
 refine aP (λA b i=> ∃c:Nat,(∃j:Nat->V,b= [.yl k,.ptr X 0,j 2,j 3,j 4,aC n,aC c,j 7,j 8])/\c<=n/\J c i/\A=n-c) n
  ⟨0,aD rfl,fY _,t,rfl⟩ ?_
 clear t o r w l e1
 rintro A b i ⟨c,⟨O,rfl⟩,P,q,rfl⟩
 obtain⟨o,r,w⟩:=z c i q
 have l:i.cell X 0=some (.ptr E 0):=by rw[H.cell_of o];rfl
 have e2:i.cell E 2=some (.mp M):=by rw[H.cell_of r];rfl
 refine aT ?_
 by_cases m:(c:Int)<(n:Int)
 .rw[cV m]
  have d:c<n:=om
  obtain⟨L,y,x,B⟩:=w
  have s:=B c d
  cases hs:S c with
  |true=>
   rw[hs,aS rfl] at s;simp(disch:=omega)only[go_sem,l,e2,Dw,y,Xw x s,List.getElem?_cons_zero,List.getElem?_cons_succ];refine (F c i d hs q).mono ?_;rintro v K ⟨rfl,u⟩;refine aT ?_;rw[fJ c];exact⟨n-(c+1),om,c+1,aD rfl,om,u,rfl⟩
  |false=>
   rw[hs,aQ siM] at s;simp(disch:=omega)only[go_sem,l,e2,Dw,y,FD x s,List.getElem?_cons_zero,List.getElem?_cons_succ];rw[fJ c];exact⟨n-(c+1),om,c+1,aD rfl,om,G c i d hs q,rfl⟩
 rw[bZ m]
 obtain rfl:n=c:=om
 refine aT ?_
 exact q
theorem zB (E:Nat)(h:H):Ev T 130 [.ptr E 0] h (λv h'=>v= .fn 193 [] [.ptr h.next 0]/\h'=h.new (.cells false [.ptr E 0])):=by
 refine mV ?_;have b: ∀a,mT a (.ptr E 0)=some (.ptr a.next 0,a.new (.cells false [.ptr E 0])):=λa=>by simp [mT,V.cells,V.one]
 exact adI @aV b
theorem Zq (p:Int)(n W:Nat)(f:Nat->Nat->Int)(h:H):Ev T 190 [aC p,aC n] h (λv h'=> ∃E M ρ,v= .ptr E 0/\Ec h' E M n W p (λ_=>false) ρ f h.next/\Fr h h'):=by
 have i:mP [aC 0] [(0,1,aC p)]=some (.agg [aC p]):=by simp [mP,fP,V.cells,V.one,putAt]
 have k: ∀M,mP [aC 0,aC 0,.nilm] [(0,1,.agg [aC p]),(1,1,aC n),(2,1,.mp M)]=some (.agg [aC p,aC n,.mp M]):=λM=>by simp [mP,fP,V.cells,V.one,putAt]
 have j: ∀d M,mT d (.agg [aC p,aC n,.mp M])=some (.ptr d.next 0,d.new (.cells false [aC p,aC n,.mp M])):=λd M=>by simp [mT,V.cells,V.one]
 refine XL i k j ?_;refine⟨h.next+1,h.next,λ_=>0,rfl,⟨H.aI (h.new _) _,⟨[],?_,rfl,λc _=>rfl⟩,λc _ (q:false=true)=>Bool.noConfusion q,λa b _ _ (q:false=true)=>Bool.noConfusion q,λc _ (q:false=true)=>Bool.noConfusion q,λc _ (q:false=true)=>Bool.noConfusion q,om,om,dN _,λc _ (q:false=true)=>Bool.noConfusion q,by simp only[H.aM];omega,by simp only[H.aM];omega,λc _ (q:false=true)=>Bool.noConfusion q⟩,((Fr.refl h).new _).new _⟩;rw[H.bG _ (by simp only[H.aM];omega)];exact H.aI ..
def zW (p:Int)(S:Nat->Bool)(f:Nat->Nat->Int)(v:Nat->Int):Nat->Nat->Int
 |0=>v
 |c+1=>if S c then λj=>(zW p S f v c j+(p-zW p S f v c c)*f c j)%p else zW p S f v c
theorem qL {p:Int}(a:0<p){S:Nat->Bool}{f:Nat->Nat->Int}{v:Nat->Int}{j:Nat}(h:0<=v j/\v j<p): ∀c,0<=zW p S f v c j/\zW p S f v c j<p
 |0=>h
 |c+1=>by
  rw[zW];split
  .exact bX _ a
  .exact qL a h c
theorem HE (a:H)(E:Nat):mT a (.ptr E 0)=some (.ptr a.next 0,a.new (.cells false [.ptr E 0])):=by simp [mT,V.cells,V.one]
theorem Rj (a:H){v:V}(b:v.cells= [v])(h2:v.one=true):mT a v=some (.ptr a.next 0,a.new (.cells false [v])):=by simp [mT,b,h2]
structure RJ (p:Int)(E M n W N X2 X3 X4 LID:Nat)(S:Nat->Bool)(ρ:Nat->Nat)(f:Nat->Nat->Int)(lo:Nat)(u:Nat->Int)(h:H)(rc:dP)(hh:H):Prop where
 g2:hh.get X2=some (.cells false [.ptr E 0])
 g3:hh.get X3=some (.cells false [.sl N 0 W (.kn W)])
 g4:hh.get X4=some (.cells false [.ptr E 0])
 gL:hh.get LID=some (.loop rc)
 b:Bk hh N W u
 k:Ec hh E M n W p S ρ f lo
 fr:Fr h hh
 lt:LID<hh.next
theorem RJ.fx {p:Int}{E M n W N d X3 X4 a:Nat}{S:Nat->Bool}{ρ:Nat->Nat}{f:Nat->Nat->Int}{o:Nat}{u:Nat->Int}{h:H}{rc:dP}{l:H}(j:RJ p E M n W N d X3 X4 a S ρ f o u h rc l)(i:Ec h E M n W p S ρ f o)
  (v:h.next<=d/\d<X3/\X3<N/\N<X4/\X4<a) {h':H} {rc':dP} {q:Nat->Int} {x:Nat} (F:Fx x l h') (w:x=a\/x=N) (r:h'.get a=some (.loop rc')) (b:Bk h' N W q):RJ p E M n W N d X3 X4 a S ρ f o q h rc' h':=by
 have y:=i.ltE
 have z:=i.ltM
 have t:=i.ltR
 have lt:=j.lt
 have A:h.next<=l.next:=j.fr.next
 exact⟨(F.get d om om).trans j.g2,(F.get X3 om om).trans j.g3,(F.get X4 om om).trans j.g4,r,b,j.k.fx F om om λc s m=>by have:=t c s m;omega,Fx.fr j.fr om F,iD j.lt F.next⟩
theorem CN (p:Int)(E M n W:Nat)(S:Nat->Bool)(ρ:Nat->Nat)(f:Nat->Nat->Int)(lo:Nat)(v:V)(l:List Int)(h:H)(k:Ec h E M n W p S ρ f lo)(hv:SI h v l)(hl:l.length=W)(hW:W<=1000)(d6:n<=W)(hp:0<p/\p<10000)
  (hf: ∀c j,c<n->S c=true->j<W->0<=f c j/\f c j<p):
  Ev T 241 [.ptr E 0,v] h (λw h'=> ∃N,w= .sl N 0 W (.kn W)/\h.next<=N/\N<h'.next/\Bk h' N W (zW p S f (λi=>l.getD i 0%p) n)/\Fr h h'):=by
 subst hl
 refine mV ?_
 have wv:=SV.cT hv
 have k1:=k.ltE
 have k2:=k.ltM
 have k3:=k.ltR
 have a6:=λd (id x:Nat)=>eH (y:=V.sl x 0 l.length (.kn l.length)) rfl rfl d id 0
 have r0:h.row E 0 1=some [aC p]:=by
  unfold H.row;rw[k.gE];rfl
 simp(disch:=omega)only[go_sem,aV,HE,λd=>Rj d wv.1 wv.2.1]
 have d1:Fr h (h.new (.cells false [.ptr E 0])):=(Fr.refl h).new _
 have c6:(h.new (.cells false [.ptr E 0])).get h.next=some (.cells false [.ptr E 0]):=H.aI ..
 have b0:(h.new (.cells false [.ptr E 0])).next=h.next+1:=H.aM ..
 generalize h.new (.cells false [.ptr E 0])=z at*
 rw[<-b0]
 have a8:Fr z (z.new (.cells false [v])):=(Fr.refl z).new _
 have c7:(z.new (.cells false [v])).get z.next=some (.cells false [v]):=H.aI ..
 have d8:(z.new (.cells false [v])).next=z.next+1:=H.aM ..
 generalize z.new (.cells false [v])=r at*
 obtain⟨t,a5⟩: ∃X,h.next=X:=⟨_,rfl⟩
 obtain⟨X3,a9⟩: ∃X,z.next=X:=⟨_,rfl⟩
 have F2:=d1.trans a8
 have q2:r.get t=some (.cells false [.ptr E 0]):=by rw[<-a5];exact (a8.get _ om).trans c6
 have q3:r.get X3=some (.cells false [v]):=by rw[<-a9];exact c7
 have r2:r.row E 0 1=some [aC p]:=by
  unfold H.row;rw[F2.get E k1];unfold H.row at r0;exact r0
 have d9:(H.mk r.tr (r.next+7)).row E 0 1=some [aC p]:=r2
 rw[a5,a9]
 have n2:r.next=X3+1:=om
 have c2:r.cell t 0=some (.ptr E 0):=by rw[H.cell_of q2];rfl
 have c3:r.cell X3 0=some v:=by rw[H.cell_of q3];rfl
 have b3:(H.mk r.tr (X3+1+7)).row E 0 1=some [aC p]:=r2
 have L:Fr r (H.mk r.tr (X3+1+7)):=(Fr.refl r).cU om
 have nb:(H.mk r.tr (X3+1+7)).next=X3+1+7:=rfl
 refine jX c2 c3 r2 b3 ?_
 generalize H.mk r.tr (X3+1+7)=h3 at*
 refine (Yy p v l h3 (hv.mono (F2.trans L)) hW hp).mono ?_
 rintro w K ⟨N,rfl,N1,N2,bN,f4⟩
 have a1:=(L.trans f4).get X3 om
 rw[q3] at a1
 have pt:=λd:H=>bE (vs:= [v]) (off:=0) siM d X3 (.sl N 0 l.length (.kn l.length))
 have Q:=(L.trans f4).get t om
 rw[q2] at Q
 have c9:K.cell t 0=some (.ptr E 0):=by rw[H.cell_of Q];rfl
 refine jX a6 a1 pt c9 ?_
 have F4:=F2.trans (L.trans f4)
 have F5:Fr h (K.set X3 (some (.cells false [.sl N 0 l.length (.kn l.length)]))):=F4.set om _
 have b5:Bk (K.set X3 (some (.cells false [.sl N 0 l.length (.kn l.length)]))) N l.length (λi=>l.getD i 0%p):=bN.ne om _
 have b4:(K.set X3 (some (.cells false [.sl N 0 l.length (.kn l.length)]))).get X3=some (.cells false [.sl N 0 l.length (.kn l.length)]):=H.aJ ..
 have a3:(K.set X3 (some (.cells false [.sl N 0 l.length (.kn l.length)]))).get t=some (.cells false [.ptr E 0]):=by rw[H.Cj _ om];exact Q
 have n5:(K.set X3 (some (.cells false [.sl N 0 l.length (.kn l.length)]))).next=K.next:=rfl
 have d5:(K.set X3 (some (.cells false [.sl N 0 l.length (.kn l.length)]))).cell t 0=some (.ptr E 0):=by rw[H.cell_of a3];rfl
 generalize K.set X3 (some (.cells false [.sl N 0 l.length (.kn l.length)]))=F at*
 refine (zB E F).mono ?_
 rintro w h6 ⟨rfl,rfl⟩
 have u:Fr F (F.new (.cells false [.ptr E 0])):=(Fr.refl F).new _
 have a0:(F.new (.cells false [.ptr E 0])).get F.next=some (.cells false [.ptr E 0]):=H.aI ..
 have d7:(F.new (.cells false [.ptr E 0])).next=F.next+1:=H.aM ..
 generalize F.new (.cells false [.ptr E 0])=Y at*
 obtain⟨X4,a7⟩: ∃X,F.next=X:=⟨_,rfl⟩
 rw[a7] at a0
 rw[a7]
 obtain⟨a,O⟩: ∃X,Y.next=X:=⟨_,rfl⟩
 have k7:=k.fr (F5.trans u)
 refine aT ?_
 rw[O]
 generalize G:dP.mk _ _ _ _ _ _=rc
 refine⟨rfl,?_⟩
 have hs:h.next<=t/\t<X3/\X3<N/\N<X4/\X4<a:=⟨om,om,om,om,om⟩
 have U:Fr Y (Y.new (.loop rc)):=(Fr.refl Y).new _
 have J0:RJ p E M n l.length N t X3 X4 a S ρ f lo (λi=>l.getD i 0%p) h rc (Y.new (.loop rc)):=
  ⟨((u.trans U).get _ om).trans a3,((u.trans U).get _ om).trans b4,(U.get _ om).trans a0,by rw[<-O];exact H.aI ..,b5.fr (u.trans U) om,k7.fr U,(F5.trans u).trans U,by rw[H.aM];omega⟩
 have hu:=λc=>λj (P:j<l.length)=>qL (S:=S) (f:=f) (v:=λi=>l.getD i 0%p) (j:=j) hp.1 (bX _ hp.1) c
 have loop:Ev T 193 [.yl a,.ptr X4 0] (Y.new (.loop rc)) (λ_ d=>RJ p E M n l.length N t X3 X4 a S ρ f lo (zW p S f (λi=>l.getD i 0%p) n) h rc d):=by
  refine sU a X4 E M n l.length p S ρ (λc d=>RJ p E M n l.length N t X3 X4 a S ρ f lo (zW p S f (λi=>l.getD i 0%p) c) h rc d)
   (λc d J=>⟨J.g4,J.k.gE,J.k.gM⟩) (λc d hc s J=>?_) (λc d hc s J=>by rw[zW,aQ (by simp [s])];exact J) _ J0 om
  refine Ph J.gL (by rw[<-G];rfl) ?_;have lt:=J.lt;have Jb:=λrc'=>J.fx k hs (h':=d.set a (some (.loop rc'))) (rc':=rc') ((Fx.refl a d).set _) (.inl rfl) (H.aJ ..) (J.b.ne om _)
  subst G;simp(disch:=omega)only[go_sem,List.zip_cons_cons,List.zip_nil_left];refine⟨_,J.gL,rfl,?_⟩;generalize c5:dP.mk _ _ _ _ YZ.busy _=rb;have B:=Jb rb;clear Jb
  obtain⟨m,A⟩: ∃q,d.set a (some (.loop rb))=q:=⟨_,rfl⟩
  rw[A] at B;rw[A];have c2:d.cell t 0=some (.ptr E 0):=by rw[H.cell_of J.g2];rfl
  have c3:d.cell X3 0=some (.sl N 0 l.length (.kn l.length)):=by rw[H.cell_of J.g3];rfl
  have e0:=J.k.e0;have b9:d.row E 0 1=some [aC p]:=by unfold H.row;rw[J.k.gE];rfl
  have rE:m.row E 0 1=some [aC p]:=by unfold H.row;rw[B.k.gE];rfl
  have cN:=J.b.cell (i:=c) om;have c1:m.cell t 0=some (.ptr E 0):=by rw[H.cell_of B.g2];rfl
  have d4:m.cell X3 0=some (.sl N 0 l.length (.kn l.length)):=by rw[H.cell_of B.g3];rfl
  have b2:=B.k.e0;have d0:=B.b.cell (i:=c) om;have nh:m.next=d.next:=by rw[<-A];rfl
  have L:Fr m (H.mk m.tr (d.next+17)):=(Fr.refl m).cU om;have b6:(H.mk m.tr (d.next+17)).row E 0 1=some [aC p]:=rE;have c4:=B.lt;have Z:=B.fx k hs (Fx.of (x:=a) L) (.inl rfl) ((L.get a c4).trans B.gL) (B.b.fr L om);have u1:=hu c c om;have b8:=Z.k.row c hc s;have b7:=Z.k.ltR c hc s;have kr:=k3 c hc s;simp(disch:=omega)only[go_sem,c2,c3,e0,b9,rE,b6,cN,c1,d4,b2,d0];generalize H.mk m.tr (d.next+17)=c8 at*;refine (Ex p (p-zW p S f (λi=>l.getD i 0%p) c c) N l.length l.length (ρ c) 0 (.kn l.length) (.sl (ρ c) 0 l.length (.kn l.length)) _ (f c) [] c8 Z.b.bt (by have:=L.next;omega) ⟨rfl,λk i z r=>lJ z r,rfl,rfl⟩ (λ_=>b7) (λj P=>by rw[Nat.zero_add];exact b8.cell P) (.inr rfl) (dN _) om hp om (λj P=>by have:=hu c j P;omega) (λj P=>by have:=hf c j hc s P;omega)).mono ?_;rintro w a2 ⟨d3,a4⟩;have b1:Bk a2 N l.length (zW p S f (λi=>l.getD i 0%p) (c+1)):=d3.bk.congr λj P=>by rw[aS P,zW,aS s]
  have J4:=Z.fx k hs a4 (.inr rfl) ((a4.get a Z.lt om).trans Z.gL) b1;have lt4:=J4.lt
  try simp(disch:=omega)only[go_sem]
  refine⟨rb,J4.gL,rfl,?_⟩;subst c5;exact J4.fx k hs ((Fx.refl a a2).set _) (.inl rfl) (H.aJ ..) (J4.b.ne om _)
 refine loop.mono ?_
 rintro _ R J
 refine⟨_,J.gL,by rw[<-G];simp,?_⟩
 have c0:rc.pend=none:=by rw[<-G]
 simp only[c0,Option.getD_none]
 have lt:=J.lt
 have q3: ∀o,(R.set a o).cell X3 0=some (.sl N 0 l.length (.kn l.length)):=λo=>by
  rw[H.kW _ om,H.cell_of J.g3];rfl
 have g': ∀o,Fr h (R.set a o):=λo=>Fr.set J.fr om o
 refine bM q3 ?_
 exact⟨N,rfl,om,by show N<R.next;omega,J.b.ne om _,g' _⟩
theorem AZ (x:Int)(h:H):Ev T 242 [aC x] h (λv h'=>v= .bool (decide (0<x))/\h'=h):=by
 refine mV ?_;exact amJ @aV
theorem Zn (v:V)(n:Nat)(u:Nat->Int)(h:H)(r:SI h v (eN n u))(A:n<1000000):
  Ev T 225 [v,.fn 242 [] []] h (λw h'=>h'=h/\((w= aC (-1)/\ ∀i,i<n-> ¬0<u i)\/ ∃k:Nat,w= aC k/\k<n/\0<u k/\ ∀i,i<k-> ¬0<u i)):=by
 have s:=r.lens
 rw[aW] at s
 obtain⟨id,y,o,l,t⟩:=r.open
 rw[aW] at o l t
 refine pM s ?_
 refine aP (λx a f=>f=h/\ ∃i:Nat,(∃j:Nat->V,a= [v,.fn 242 [] [],j 2,j 3,aC n,aC i,j 6,j 7])/\i<=n/\(∀j,j<i-> ¬0<u j)/\x=n-i) n
  ⟨rfl,0,aD rfl,fY _,λj q=>absurd q (Nat.not_lt_zero j),rfl⟩ ?_
 rintro x a f ⟨rfl,i,⟨B,rfl⟩,hi,m,rfl⟩
 refine aT ?_
 by_cases c:(i:Int)<(n:Int)
 .rw[cV c]
  have b:i<n:=om
  have ci:=t i b
  rw[cZ _ b] at ci
  refine eZ @o.ixa ci ?_
  refine (AZ (u i) f).mono ?_
  rintro w z ⟨rfl,rfl⟩
  by_cases d:0<u i
  .rw[cV d]
   refine aT ?_
   exact .inr ⟨i,rfl,b,d,m⟩
  .rw[bZ d]
   refine aT ?_
   rw[fJ i]
   refine⟨n-(i+1),om,i+1,aD rfl,om,λj q=>?_,rfl⟩
   by_cases e:j=i
   .rw[e];exact d
   .exact m j om
 rw[bZ c]
 obtain rfl:n=i:=om
 refine aT ?_
 exact .inl m
def Np (p:Int)(f:Nat->Nat->Int)(k:Nat)(w:Nat->Int)(a:Nat):Nat->Int:=λj=>(f a j+(p-f a k)*w j)%p
structure IJ (p:Int)(E M n W N X2 X3 X4 X5 LID at_:Nat)(S:Nat->Bool)(ρ:Nat->Nat)(f:Nat->Nat->Int)(lo:Nat)(u:Nat->Int)(h:H)(rc:dP)(hh:H):Prop where
 g2:hh.get X2=cE [.ptr E 0]
 g3:hh.get X3=cE [.sl N 0 W (.kn W)]
 g4:hh.get X4=cE [.ptr E 0]
 g5:hh.get X5=cE [aC at_]
 gL:hh.get LID=some (.loop rc)
 b:Bk hh N W u
 k:Ec hh E M n W p S ρ f lo
 fr: ∀b0,Fr b0 h->b0.next<=lo->Fr b0 hh
 nx:h.next<=hh.next
 lt:LID<hh.next
 oth: ∀id,id<h.next->id≠M->(∀c,c<n->S c=true->id≠ρ c)->hh.get id=h.get id
section
variable {p:Int} {E M n W N X2 X3 X4 X5 LID at_:Nat} {S:Nat->Bool} {ρ:Nat->Nat} {f:Nat->Nat->Int} {lo:Nat} {u:Nat->Int} {h:H} {rc:dP} {hh:H}
theorem IJ.fl (j:IJ p E M n W N X2 X3 X4 X5 LID at_ S ρ f lo u h rc hh)(w:E<h.next)(x:M<h.next)(o: ∀c,c<n->S c=true->ρ c<h.next)(m:lo<=h.next)
  (y:h.next<=X2/\X2<X3/\X3<N/\N<X5/\X5<X4/\X4<LID) {h':H} {rc':dP} (F:Fx LID hh h') (s:h'.get LID=some (.loop rc')):IJ p E M n W N X2 X3 X4 X5 LID at_ S ρ f lo u h rc' h':=by
 have lt:=j.lt
 exact⟨(F.get X2 om om).trans j.g2,(F.get X3 om om).trans j.g3,(F.get X4 om om).trans j.g4,(F.get X5 om om).trans j.g5,s,(F.get N om om).trans j.b,j.k.fx F om om λc t a=>by have:=o c t a;omega,λl v d=>Fx.fr (j.fr l v d) om F,kQ j.nx F.next,iD j.lt F.next,λid q i r=>(F.get id (by have:=j.nx;omega) om).trans (j.oth id q i r)⟩
theorem IJ.row (j:IJ p E M n W N X2 X3 X4 X5 LID at_ S ρ f lo u h rc hh)(r: ∀c,c<n->S c=true->ρ c<h.next)(q:lo<=h.next)
  (x:h.next<=X2/\X2<X3/\X3<N/\N<X5/\X5<X4/\X4<LID) {h':H} {c:Nat} (i:c<n) (d:S c=true) (F:Fx (ρ c) hh h') {w:Nat->Int} (b:Bk h' (ρ c) W w):IJ p E M n W N X2 X3 X4 X5 LID at_ S ρ (λa=>if a=c then w else f a) lo u h rc h':=by
 have lt:=j.lt
 have:=r c i d
 have:=j.k.loR c i d
 exact⟨(F.get X2 om om).trans j.g2,(F.get X3 om om).trans j.g3,(F.get X4 om om).trans j.g4,(F.get X5 om om).trans j.g5,(F.get LID om om).trans j.gL,(F.get N om om).trans j.b,j.k.alD i d F b,λo v m=>Fx.fr (j.fr o v m) om F,kQ j.nx F.next,iD j.lt F.next,λid s t l=>(F.get id (by have:=j.nx;omega) (l c i d)).trans (j.oth id s t l)⟩
end
end Go.Proofs.YtoighkablmjfeaaGreat.Ln
