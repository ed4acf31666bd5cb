/- Texts of the claim. -/
import Derived.Test.YtoighkablmjfeaaGreatAy14toP5q
import Derived.Sort.AssemblyPlain
set_option maxHeartbeats 64000000
set_option maxRecDepth 100000
namespace Go.Proofs.YtoighkablmjfeaaGreat
open Go Go.Ay Go.Pm
set_option maxRecDepth 100000
theorem mZ {α β:Type}(f:α->β){l:List α}{i:Nat}{d:α}{e:β}(h:i<l.length):(l.map f).getD i e=f (l.getD i d):=by
 simp [List.getD,h]
theorem zN.mono {h h' h2:H}{v:V}{l:List Int}(f:zN h h' v l)(g:Fr h' h2):zN h h2 v l:=by
 obtain⟨id,a,e,c,b,i,d⟩:=f.ex;exact⟨⟨id,a,e,c,iD b g.next,by rw[g.get _ b];exact i,d⟩,f.fr.trans g⟩
theorem Qh {h h':H}{v:V}{l:List Nat}(n:Ya h h' v l):zN h h' v (zi l):=by
 have⟨e,g,a,f⟩:=n;exact⟨⟨h.next,_,by rw[e,bD],dN _,om,g,.inr (by rw[bD])⟩,f⟩
theorem zN.le {b h h':H}{v:V}{l:List Int}(f:zN h h' v l)(g:Fr b h):zN b h' v l:=by
 obtain⟨id,a,e,c,i,j,d⟩:=f.ex;exact⟨⟨id,a,e,kQ g.next c,i,j,d⟩,g.trans f.fr⟩
end Go.Proofs.YtoighkablmjfeaaGreat
namespace Go.Pm
section
variable {x:List Nat} {i:Nat}
def jO (O:wG)(x:List Nat)(i:Nat):List Nat:=(O.getD i []).map λq=>x.getD q 0
def tY (l:List Nat):List Nat:=l.mergeSort λa b=>decide (a<=b)
theorem mJ (l:List Nat):(tY l).Perm l:=List.mergeSort_perm l _
theorem Pg (l:List Nat):(tY l).Pairwise (· <= ·):=by
 have:=List.pairwise_mergeSort (le:=λa b:Nat=>decide (a<=b)) (λa b c d f=>by simp at*;omega) (λa b=>by simp;omega) l;exact this.imp λh=>by simpa using h
def mN (O:wG)(R:VK)(x:List Nat)(i im:Nat):List Nat:=aZ ((R.getD i []).getD ((jO O x i).idxOf im) []) x
def cK (O:wG)(R:VK):Nat->Nat->List Nat->wG
 |0,_,x=> [x]
 |d+1,i,x=>(tY (jO O x i)).flatMap λim=>cK O R d (i+1) (mN O R x i im)
structure fW (G:List Nat->Prop)(L:wG):Prop where
 asc:L.Pairwise Lt
 mem: ∀x,x∈L↔G x
theorem Lt.irrefl (h:Lt x x):False:=h.asymm h
theorem Lt.trans {y z:List Nat}(r:x.length=y.length)(a:Lt x y)(b:Lt y z):Lt x z:=by
 have⟨k,l,d,o⟩:=a;have⟨m,q,f,n⟩:=b;rcases Nat.lt_trichotomy k m with h|h|h
 .exact⟨k,l,λj c=>(d j c).trans (f j oq),by rw[<-f k h];exact o⟩
 .subst h;exact⟨k,l,λj c=>(d j c).trans (f j c),oq⟩
 .exact⟨m,oq,λj c=>(d j oq).trans (f j c),by rw[d m h];exact n⟩
theorem ES:{a b:wG}->a.Pairwise Lt->b.Pairwise Lt->(∀p,p∈a↔p∈b)->a=b
 | [], [],_,_,_=>rfl
 | [],y::b,_,_,h=>by have:=(h y).2 (by simp);simp at this
 |x::a, [],_,_,h=>by have:=(h x).1 (by simp);simp at this
 |x::a,y::b,ha,hb,h=>by
  obtain⟨l,m⟩:=List.pairwise_cons.1 ha;obtain⟨k,n⟩:=List.pairwise_cons.1 hb
  have e:x=y:=by
   have f:=(h x).1 (by simp);have d:=(h y).2 (by simp);rcases List.mem_cons.1 f with f|f
   .exact f
   .rcases List.mem_cons.1 d with d|d
    .exact d.symm
    .exact ((k x f).asymm (l y d)).elim
  subst e;congr 1
  refine ES m n λp=>⟨λc=>?_,λc=>?_⟩
  .rcases List.mem_cons.1 ((h p).1 (List.mem_cons_of_mem _ c)) with e|j
   .subst e;exact ((l p c).irrefl).elim
   .exact j
  .rcases List.mem_cons.1 ((h p).2 (List.mem_cons_of_mem _ c)) with e|j
   .subst e;exact ((k p c).irrefl).elim
   .exact j
theorem fW.uniq {G:List Nat->Prop}{L M:wG}(a:fW G L)(b:fW G M):L=M:=ES a.asc b.asc λp=>(a.mem p).trans (b.mem p).symm
theorem fW.nodup {G:List Nat->Prop}{L:wG}(a:fW G L):L.Nodup:=by
 rw[List.nodup_iff_pairwise_ne];exact a.asc.imp λh e=>by rw[e] at h;exact h.irrefl
def NJ (O:wG):Nat->Nat->Nat
 |0,_=>1
 |d+1,i=>(O.getD i []).length*NJ O d (i+1)
section
variable {n:Nat} {G:List Nat->Prop} {O:wG} {R:VK}
theorem SN {im:Nat}:im∈jO O x i↔ ∃q∈O.getD i [],x.getD q 0=im:=by simp [jO]
theorem Gz (d:oK n G)(c:eD n G O R)(hi:i<n){q:Nat}(a:q∈O.getD i []):q<n:=by
 obtain⟨g,b,_,rfl⟩:=(c.mem i hi q).1 a;exact (d.cF b).eJ hi
theorem BT (d:oK n G)(c:eD n G O R)(X:bJ n x)(hi:i<n):(jO O x i).Nodup:=by
 have nd:(O.getD i []).Pairwise (· < ·):=c.asc i hi;rw[List.nodup_iff_pairwise_ne];unfold jO;rw[List.pairwise_map];refine nd.imp_of_mem λ{a b} j h f e=>?_
 have:=X.inj (Gz d c hi j) (Gz d c hi h) e;omega
theorem uC (r:oK n G)(c:eD n G O R)(X:bJ n x)(hi:i<n){im:Nat}(f:im∈jO O x i):
  ∃k,k<(O.getD i []).length/\(jO O x i).idxOf im=k/\x.getD ((O.getD i []).getD k 0) 0=im/\Hr n G i ((O.getD i []).getD k 0) ((R.getD i []).getD k [])/\mN O R x i im=aZ ((R.getD i []).getD k []) x/\bJ n (mN O R x i im)/\(mN O R x i im).getD i 0=im/\ ∀j,j<i->(mN O R x i im).getD j 0=x.getD j 0:=by
 have d:=List.idxOf_lt_length_iff.2 f
 have a:(jO O x i).idxOf im<(O.getD i []).length:=by simpa [jO] using d
 have m:(jO O x i).getD ((jO O x i).idxOf im) 0=im:=by rw[cM d,List.getElem_idxOf]
 obtain⟨k,e⟩: ∃k,(jO O x i).idxOf im=k:=⟨_,rfl⟩
 rw[e] at a m d
 have o:x.getD ((O.getD i []).getD k 0) 0=im:=by
  rw[<-m];unfold jO;rw[List.getD_eq_getElem?_getD (l:=List.map _ _),List.getElem?_map,List.getElem?_eq_getElem a,cM a];rfl
 have rep:=c.rep i hi k a
 have h:=r.cF rep.mem
 have b:mN O R x i im=aZ ((R.getD i []).getD k []) x:=by unfold mN;rw[e]
 refine⟨k,a,e,o,rep,b,by rw[b];exact h.mul X,?_,λj q=>?_⟩
 .rw[b,dA (by rw[h.len];exact hi),rep.maps,o]
 .rw[b,dA (by rw[h.len];omega),rep.fix j q]
theorem Om (m:oK n G)(c:eD n G O R):(d i:Nat)->(x:List Nat)->i+d=n->bJ n x->
  (∀z,z∈cK O R d i x↔ ∃g,G g/\Fix i g/\z=aZ g x)/\(cK O R d i x).Pairwise Lt/\(cK O R d i x).length=NJ O d i
 |0,i,x,h,X=>by
  obtain rfl:i=n:=oq
  refine⟨λz=>?_,by simp [cK],rfl⟩;simp only[cK,List.mem_singleton];constructor
  .rintro rfl;exact⟨bI i,m.one,Fix.one i i (Nat.le_refl _),(dK X).symm⟩
  .rintro⟨g,q,r,rfl⟩;rw[r.all (m.cF q),dK X]
 |d+1,i,x,h,X=>by
  have hi:i<n:=oq
  have t:=λo (f:o∈jO O x i)=>Om m c d (i+1) (mN O R x i o) oq (uC m c X hi f).choose_spec.2.2.2.2.2.1
  have v: ∀o,o∈tY (jO O x i)↔o∈jO O x i:=λo=>(mJ _).mem_iff
  have s: ∀o,o∈jO O x i-> ∀z,z∈cK O R d (i+1) (mN O R x i o)->z.length=n/\z.getD i 0=o/\ ∀j,j<i->z.getD j 0=x.getD j 0:=λo f z y=>by
   obtain⟨g,q,r,rfl⟩:=((t o f).1 z).1 y;obtain⟨k,_,_,_,_,_,_,s1,Y⟩:=uC m c X hi f;have Gp:=m.cF q;refine⟨by rw[eY,Gp.len],?_,λj A=>?_⟩
   .rw[dA (by rw[Gp.len];exact hi),r i oq,s1]
   .rw[dA (by rw[Gp.len];omega),r j oq,Y j A]
  refine⟨λz=>?_,?_,?_⟩
  .simp only[cK,List.mem_flatMap,v]
   constructor
   .rintro⟨o,f,y⟩
    obtain⟨g,q,r,rfl⟩:=((t o f).1 z).1 y;obtain⟨k,_,_,_,rep,J,_⟩:=uC m c X hi f;refine⟨aZ g ((R.getD i []).getD k []),m.mul q rep.mem,Fix.mul (m.cF q) oq (r.mono oq) rep.fix,?_⟩;rw[J,aX (m.cF q) (m.cF rep.mem) X]
   .rintro⟨g,q,r,rfl⟩
    have Gp:=m.cF q;have N:=(c.mem i hi (g.getD i 0)).2 ⟨g,q,r,rfl⟩;have f:x.getD (g.getD i 0) 0∈jO O x i:=SN.2 ⟨_,N,rfl⟩;refine⟨_,f,((t _ f).1 _).2 ?_⟩;obtain⟨k,L,_,hx,rep,J,_⟩:=uC m c X hi f;have B:(O.getD i []).getD k 0=g.getD i 0:=X.inj (Gz m c hi (by rw[cM L];exact List.getElem_mem L)) (Gz m c hi N) hx;rw[B] at rep;have u:=m.cF rep.mem;refine⟨aZ g (bY ((R.getD i []).getD k [])),m.mul q (m.inv rep.mem),(Fix.mul Gp oq r (Fix.inv u oq rep.fix)).succ ?_,?_⟩
    .rw[dA (by rw[Gp.len];exact hi)]
     have:=rO u hi;rwa [rep.maps] at this
    .rw[J,<-aX (Gp.mul u.inv) u X,aX Gp u.inv u,dX u,cH Gp]
  .unfold cK
   rw[List.pairwise_flatMap];refine⟨λo f=>(t o ((v o).1 f)).2.1,?_⟩;have F:=Pg (jO O x i);have nd:(tY (jO O x i)).Nodup:=(mJ _).nodup_iff.2 (BT m c X hi);rw[List.nodup_iff_pairwise_ne] at nd;refine (F.and nd).imp_of_mem λ{a b} K U Q z y w hw=>?_
   obtain⟨l1,Z,W⟩:=s a ((v a).1 K) z y;obtain⟨l2,P,w2⟩:=s b ((v b).1 U) w hw;exact⟨i,oq,λj A=>by rw[W j A,w2 j A],by rw[Z,P];omega⟩
  .unfold cK NJ
   rw[List.length_flatMap];have:(tY (jO O x i)).map (λa=>(cK O R d (i+1) (mN O R x i a)).length)=(tY (jO O x i)).map λ_=>NJ O d (i+1):=List.map_congr_left λa K=>(t a ((v a).1 K)).2.2
   rw[this];have hl:(tY (jO O x i)).length=(O.getD i []).length:=by rw[(mJ _).length_eq];simp [jO]
   rw[<-hl];generalize tY (jO O x i)=l
   induction l with
   |nil=>simp
   |cons a l t=>simp only[List.map_cons,List.sum_cons,t,List.length_cons,Nat.succ_mul];omega
theorem dV (a:oK n G)(c:eD n G O R):fW G (cK O R n 0 (bI n))/\(cK O R n 0 (bI n)).length=NJ O n 0:=by
 obtain⟨d,h,f⟩:=Om a c n 0 (bI n) oq (bJ.one n);refine⟨⟨h,λx=>?_⟩,f⟩;rw[d];constructor
 .rintro⟨g,hg,_,rfl⟩;rw[cH (a.cF hg)];exact hg
 .exact λb=>⟨x,b,λk j=>oq,(cH (a.cF b)).symm⟩
end
end
section
variable {i:Nat}
def it (a:List Nat):Nat->Nat->Nat
 |0,i=>i
 |t+1,i=>a.getD (it a t i) 0
section
variable {n:Nat} {a:List Nat}
theorem Dz (A:bJ n a){i:Nat}(hi:i<n): ∀t,it a t i<n
 |0=>hi
 |t+1=>A.eJ (Dz A hi t)
theorem tI (a:List Nat)(s i:Nat): ∀t,it a (s+t) i=it a t (it a s i)
 |0=>rfl
 |t+1=>by
  show a.getD (it a (s+t) i) 0=a.getD (it a t (it a s i)) 0;rw[tI a s i t]
theorem GX (A:bJ n a){i:Nat}(hi:i<n): ∀t,it a t i=(pw n a t).getD i 0
 |0=>(eG hi).symm
 |t+1=>by
  show a.getD (it a t i) 0=(aZ (pw n a t) a).getD i 0;rw[dA (by rw[(jW A t).len];exact hi),GX A hi t]
theorem DH (A:bJ n a){i j:Nat}(hi:i<n)(b:j<n): ∀t,it a t i=it a t j->i=j
 |0,h=>h
 |t+1,h=>DH A hi b t (A.inj (Dz A hi t) (Dz A b t) h)
noncomputable def uP (a:List Nat)(i:Nat):Nat:=by
 classical exact if h: ∃t,0<t/\it a t i=i/\ ∀s,0<s->s<t->it a s i≠i then h.choose else 1
theorem ajG (A:bJ n a)(hi:i<n): ∃t,0<t/\it a t i=i:=by
 obtain⟨k,c,_,b⟩:=Uh A;exact⟨k,c,by rw[GX A hi,b,eG hi]⟩
theorem mX (A:bJ n a)(hi:i<n):0<uP a i/\it a (uP a i) i=i/\ ∀t,0<t->t<uP a i->it a t i≠i:=by
 classical
 have h: ∃t,0<t/\it a t i=i/\ ∀s,0<s->s<t->it a s i≠i:=by
  obtain⟨t,k,j⟩:=ajG A hi
  induction t using Nat.strongRecOn with
  |_ t ih=>
   by_cases f: ∃s,0<s/\s<t/\it a s i=i
   .have⟨s,b,c,d⟩:=f
    exact ih s c b d
   .exact⟨t,k,j,λs b c d=>f ⟨s,b,c,d⟩⟩
 have e:uP a i=h.choose:=by unfold uP;rw[dif_pos h]
 rw[e];exact h.choose_spec
theorem Ui (A:bJ n a){i:Nat}(hi:i<n): ∀k,it a (uP a i*k) i=i
 |0=>rfl
 |k+1=>by rw[Nat.mul_succ,tI,Ui A hi k,(mX A hi).2.1]
theorem AQ (A:bJ n a)(hi:i<n)(t:Nat):it a t i=it a (t%uP a i) i:=by
 have:=tI a (uP a i*(t/uP a i)) i (t%uP a i);rw[Nat.div_add_mod,Ui A hi] at this;exact this
theorem Aq (A:bJ n a)(hi:i<n)(t:Nat):it a t i=i↔uP a i∣t:=by
 obtain⟨b,d,c⟩:=mX A hi;constructor
 .intro h
  rw[AQ A hi] at h;refine Nat.dvd_of_mod_eq_zero (Classical.byContradiction λf=>c _ oq (Nat.mod_lt _ b) h)
 .rintro⟨k,rfl⟩;exact Ui A hi k
theorem afU (A:bJ n a)(hi:i<n){s t:Nat}(j:s<uP a i)(d:t<uP a i)(h:it a s i=it a t i):s=t:=by
 have b: ∀s t,s<=t->t<uP a i->it a s i=it a t i->s=t:=λs t iS d h=>by
  have e:it a t i=it a s (it a (t-s) i):=by rw[<-tI];congr 1;omega
  rw[e] at h;have:=DH A hi (Dz A hi (t-s)) s h;have f:=(Aq A hi (t-s)).1 this.symm;have:=Nat.eq_zero_of_dvd_of_lt f oq;omega
 rcases Nat.le_total s t with c|c
 .exact b s t c d h
 .exact (b t s c j h.symm).symm
noncomputable def FN (a:List Nat)(i:Nat):List Nat:=(List.range (uP a i)).map λt=>it a t i
theorem yS (a:List Nat)(i:Nat):(FN a i).length=uP a i:=by simp [FN]
theorem afP (A:bJ n a)(hi:i<n){j:Nat}:j∈FN a i↔ ∃t,it a t i=j:=by
 unfold FN;rw[List.mem_map];constructor
 .rintro⟨t,_,h⟩;exact⟨t,h⟩
 .rintro⟨t,h⟩;exact⟨t%uP a i,List.mem_range.2 (Nat.mod_lt _ (mX A hi).1),by rw[<-AQ A hi];exact h⟩
theorem JM (A:bJ n a)(hi:i<n):(FN a i).Nodup:=by
 unfold FN;rw[List.nodup_iff_pairwise_ne,List.pairwise_map,List.pairwise_iff_getElem];intro s t c b iS h;simp only[List.length_range] at c b;simp only[List.getElem_range] at h;have:=afU A hi c b h;omega
theorem CP (A:bJ n a)(hi:i<n):uP a i<=n:=by
 rw[<-yS a i]
 have:=List.Nodup.length_le_of_subset (JM A hi) (l₂:=List.range n) λj b=>by
  obtain⟨t,rfl⟩:=(afP A hi).1 b;exact List.mem_range.2 (Dz A hi t)
 simpa using this
theorem Is (A:bJ n a)(hi:i<n)(t:Nat): ∃s,it a s (it a t i)=i:=by
 obtain⟨b,_,_⟩:=mX A hi;refine⟨uP a i*(t/uP a i+1)-t,?_⟩;rw[<-tI,show t+(uP a i*(t/uP a i+1)-t)=uP a i*(t/uP a i+1) from ?_,Ui A hi];have:=Nat.div_add_mod t (uP a i);have:=Nat.mod_lt t b;rw[Nat.mul_succ];omega
theorem XA (A:bJ n a)(hi:i<n)(t:Nat):uP a (it a t i)=uP a i:=by
 have c:=Dz A hi t
 have b: ∀k,it a k (it a t i)=it a t i↔it a k i=i:=λk=>by
  rw[<-tI,Nat.add_comm,tI];exact⟨λh=>DH A (Dz A hi k) hi t h,λh=>by rw[h]⟩
 refine Nat.dvd_antisymm ?_ ?_
 .rw[<-Aq A c,b,Aq A hi];exact Nat.dvd_refl _
 .rw[<-Aq A hi,<-b,Aq A c];exact Nat.dvd_refl _
def nX (a:List Nat)(n i:Nat):Prop:= ∀t,i<=it a t i
open Classical in
noncomputable def Mv (a:List Nat)(n:Nat):List Nat:=(List.range n).filter λi=>decide (nX a n i)
noncomputable def tK (a:List Nat)(n:Nat):wG:=(Mv a n).map (FN a)
theorem ajJ (A:bJ n a)(hi:i<n): ∃j,j<n/\nX a n j/\ ∃t,it a t j=i:=by
 induction i using Nat.strongRecOn with
 |_ i ih=>
  by_cases h:nX a n i
  .exact⟨i,hi,h,0,rfl⟩
  .have: ∃t,it a t i<i:=Classical.byContradiction λl=>h λt=>Nat.le_of_not_lt λb=>l ⟨t,b⟩
   have⟨t,f⟩:=this;obtain⟨j,c,b,s,k⟩:=ih _ f (Dz A hi t);obtain⟨u,d⟩:=Is A hi t;exact⟨j,c,b,s+u,by rw[tI,k,d]⟩
theorem Ez (A:bJ n a)(hi:i<n):nX a n i↔ ∀j,j<i-> ∀t,it a t j≠i:=by
 constructor
 .intro h j d t e
  obtain⟨s,b⟩:=Is A (show j<n by omega) t;rw[e] at b;have:=h s;omega
 .intro h t
  refine Nat.le_of_not_lt λc=>?_
  obtain⟨s,b⟩:=Is A hi t;exact h _ c s b
def pZ (l:List Nat):Nat:=l.foldl (λm c=>m/Nat.gcd m c*c) 1
theorem Vz (m c:Nat):m/Nat.gcd m c*c=Nat.lcm m c:=by
 unfold Nat.lcm;rw[Nat.mul_comm,<-Nat.mul_div_assoc _ (Nat.gcd_dvd_left m c),Nat.mul_comm]
theorem Yl:(l:List Nat)->(m k:Nat)->l.foldl (λm c=>m/Nat.gcd m c*c) m∣k↔m∣k/\ ∀c∈l,c∣k
 | [],m,k=>by simp
 |c::l,m,k=>by
  rw[List.foldl_cons,Yl l,Vz,Nat.lcm_dvd_iff];simp only[List.mem_cons,forall_eq_or_imp,and_assoc]
theorem tX (l:List Nat)(k:Nat):pZ l∣k↔ ∀c∈l,c∣k:=by
 unfold pZ;rw[Yl];simp
noncomputable def fC (a:List Nat)(n:Nat):Nat:=pZ ((tK a n).map List.length)
theorem mC (A:bJ n a)(k:Nat):fC a n∣k↔pw n a k=bI n:=by
 unfold fC;rw[tX];constructor
 .intro h
  refine rL (by rw[(jW A k).len,iF]) λi hi=>?_
  rw[(jW A k).len] at hi;rw[<-GX A hi,eG hi,Aq A hi];obtain⟨j,d,m,t,o⟩:=ajJ A hi;have:=h (uP a j) (List.mem_map.2 ⟨FN a j,List.mem_map.2 ⟨j,by unfold Mv;rw[List.mem_filter];exact⟨List.mem_range.2 d,by simpa using m⟩,rfl⟩,yS a j⟩);rw[<-XA A d t,o] at this;exact this
 .rintro h c q
  obtain⟨l,f,rfl⟩:=List.mem_map.1 q;obtain⟨j,d,rfl⟩:=List.mem_map.1 f
  have b:j<n:=by
   unfold Mv at d;exact List.mem_range.1 (List.mem_filter.1 d).1
  rw[yS,<-Aq A b,GX A b,h,eG b]
theorem rP (A:bJ n a):0<fC a n:=by
 obtain⟨k,c,_,b⟩:=Uh A;have:=(mC A k).2 b;refine Nat.pos_of_ne_zero λe=>?_
 rw[e] at this;have:=Nat.eq_zero_of_zero_dvd this;omega
theorem QS (A:bJ n a)(k:Nat):pw n a k=pw n a (k%fC a n):=by
 have h:pw n a (fC a n*(k/fC a n))=bI n:=(mC A _).1 ⟨_,rfl⟩;have:=Rq A (fC a n*(k/fC a n)) (k%fC a n);rw[Nat.div_add_mod,h,dK (jW A _)] at this;exact this
end
end
end Go.Pm
namespace Go.Proofs.YtoighkablmjfeaaGreat
open Go Go.Ay Go.Pm
section
variable {W:Nat->Prop} {h:H} {vc:V} {n:Nat} {O:LN} {G:List Nat->Prop}
structure GC (W:Nat->Prop)(h:H)(vc:V)(n:Nat)(O:LN)(R:nZ)(G:List Nat->Prop):Prop where
 cw:PD W h vc n O R
 isc:eD n G O R
 kT:oK n G
 n0:1<=n
 n7:n<=20
 sz:NJ O n 0<=5040
 od: ∃M,0<M/\M<=5040/\ ∀x,G x->fC x n∣M
theorem GC.go {W':Nat->Prop}{h':H}{R:nZ}(g:GC W h vc n O R G)(f:Fx W h h')(a: ∀id,id<h.next->W' id->W id):GC W' h' vc n O R G:=⟨g.cw.go f a,g.isc,g.kT,g.n0,g.n7,g.sz,g.od⟩
theorem GC.ch {R:nZ}(g:GC W h vc n O R G):ChI h vc (n:Int) (O.map zi) (R.map (List.map zi)):=g.cw.ch
theorem GC.mono {h':H}{R:nZ}(g:GC W h vc n O R G)(f:Fr h h'):GC W h' vc n O R G:=⟨g.cw.mono f,g.isc,g.kT,g.n0,g.n7,g.sz,g.od⟩
theorem Pd {n:Nat}{G:List Nat->Prop}(a:oK n G){O:LN}{R:nZ}(c:eD n G O R): ∀d i x,i+d=n->G x->Fix i x->EB n R x
 |0,i,x,h,hx,fx=>by
  have X:=a.cF hx;obtain rfl:i=n:=om
  rw[fx.all X];exact .one
 |d+1,i,x,h,hx,fx=>by
  have hi:i<n:=om
  have X:=a.cF hx;have l:=(c.mem i hi (x.getD i 0)).2 ⟨x,hx,fx,rfl⟩;obtain⟨k,b,e⟩:=Bj.1 l;have rep:=c.rep i hi k b;rw[cM b,e] at rep;obtain⟨z,j⟩:=exI ((R.getD i []).getD k []);rw[j] at rep;have Z:=a.cF rep.mem
  have f:z∈R.flatten:=by
   have o:k<(R.getD i []).length:=by rw[c.rl i hi];exact b
   exact List.mem_flatten.2 ⟨R.getD i [],bF (by rw[c.lr];exact hi),by rw[<-j];exact bF o⟩
  have m:=Pd a c d (i+1) (aZ x (bY z)) om (a.mul hx (a.inv rep.mem)) ((Fix.mul X om fx (Fix.inv Z om rep.fix)).succ (by
   rw[dA (by rw[X.len];exact hi)];have:=rO Z hi
   rwa [rep.maps] at this))
  have:=fG.mul m f;rwa [aX X Z.inv Z,dX Z,cH X] at this
theorem Gm {R:nZ}(c:eD n G O R): ∀g∈R.flatten,G g:=λg d=>by
 obtain⟨r,j,d⟩:=List.mem_flatten.1 d;obtain⟨i,hi,rfl⟩:=Bj.1 j;obtain⟨k,f,rfl⟩:=Bj.1 d;have a:i<n:=by have:=c.lr;omega
 have e:R.getD i []=R[i]:=by rw[List.getD,dJ hi];rfl
 have b:k<(O.getD i []).length:=by rw[<-c.rl i a,e];exact f
 have:=(c.rep i a k b).mem;rw[e,List.getD,dJ f] at this;exact this
theorem Qe (a:oK n G){R:nZ}(c:eD n G O R)(x:List Nat):EB n R x↔G x:=
 ⟨λh=>h.le a (Gm c),λh=>Pd a c n 0 x om h (λk b=>om)⟩
theorem GC.chk {R:nZ}(g:GC W h vc n O R G):To (n:Int) (O.map zi) (R.map (List.map zi))=0:=by
 unfold To;have:=g.n0;have:=g.n7;rw[aQ om,aS ⟨n,O,R,rfl,g.n0,om,rfl,rfl,λx a=>g.kT.cF (Gm g.isc x a),g.isc.congr λx=>(Qe g.kT g.isc x).symm⟩]
theorem GC.small {R:nZ}(g:GC W h vc n O R G):Li (O.map zi)/\Je (R.map (List.map zi)):=Hg (λx a=>g.kT.cF a) (by have:=g.n7;omega) g.isc
theorem GC.check {R:nZ}(g:GC W h vc n O R G):Ev T 110 [vc] h (λv h'=>v= aC 0/\Fr h h'):=by
 have:=Bq vc _ _ _ h g.ch (.inl (by have:=g.n7;omega)) g.small.1 g.small.2.out;rwa [g.chk] at this
theorem ahT {x:List Nat}(X:bJ n x)(a:1<=n)(h2:n<=64):PU (zi x)=0:=by
 unfold PU;rw[aQ (by rw[bD,X.len];omega),Wn X];rfl
end
set_option maxRecDepth 100000
section
variable {b A:Nat} {hh:H} {l:LN}
theorem abC {h:H}{v:V}{ws:List V}(s:SV h v 1 ws)(k:IB v)(q:1<=ws.length): ∃v',pV 1 v (some (aC 1)) none none=some v'/\SV h v' 1 (ws.drop 1):=by
 rcases s with ⟨_,e⟩|⟨id,a,len,t,f,d,rfl,i,j,m,u,o⟩
 .rw[e] at q;simp at q
 have w:mQ none len len=some len:=by simp [mQ]
 have n:((d.drop a).take (len*1)).drop 1=(d.drop (a+1)).take (len- 1):=by
  rw[List.drop_take,List.drop_drop,jP]
 rcases k _ _ _ _ rfl with rfl|⟨c,rfl,x⟩
 .by_cases r:1<len
  .refine⟨.sl id (a+1) (len- 1) (.un 1),?_,.inr ⟨id,a+1,len- 1,_,f,d,rfl,by rw[jR,i];omega,j,m,om,by rw[<-o,n,jP]⟩⟩
   simp [pV,mQ,r,show (1:Int)<=(len:Int) by omega]
  .refine⟨.sl id a 0 (.un 1),?_,.inr ⟨id,a,0,_,f,d,rfl,by rw[jR,i];omega,j,m,om,?_⟩⟩
   .have:len=1:=om
    subst this;simp [pV,mQ]
   .have:ws.drop 1= []:=Zs (by rw[jR];omega)
    rw[this];simp
 .refine⟨.sl id (if c=1 then a else a+1) (len- 1) (.kn (c- 1)),?_,.inr ⟨id,_,len- 1,_,f,d,rfl,by rw[jR,i];omega,j,m,by split<;>omega,?_⟩⟩
  .have:1<=len:=om
   simp [pV,mQ,show (1:Int)<=(len:Int) by omega,show 1<=c by omega]
  .by_cases e:c=1
   .have:ws.drop 1= []:=Zs (by rw[jR];omega)
    rw[this];have:len- 1=0:=om
    rw[this];simp
   .rw[aQ e,<-o,n,jP]
def Ig (b:Nat)(hh:H)(A:Nat)(l:LN):Prop:= ∃va ws W,hh.get A=cE [va]/\dF hh va 1 ws b/\jI W hh ws l/\Mh W va/\(∀id,id<b->W id)/\ ∀id,W id->id<hh.next
theorem Ig.mono {h2:H}(a:Ig b hh A l)(m:A<hh.next)(f:Fr hh h2):Ig b h2 A l:=by
 have⟨i,j,W,g,o,p,k,c,d⟩:=a;exact⟨i,j,W,by rw[f.get _ m];exact g,o.fr f,p.fx (Fx.of f),k,c,λid h=>iD (d id h) f.next⟩
theorem Ig.other {h2:H}(a:Ig b hh A l){k:Nat}(t:k<b)(c:k≠A)(n:h2.next=hh.next)(o: ∀j,j≠k->h2.get j=hh.get j):Ig b h2 A l:=by
 have⟨i,s,W,g,q,p,r,d,u⟩:=a
 have f:Fx W hh h2:=⟨om,λid v m=>o id λe=>m (e▸d k t)⟩
 exact⟨i,s,W,by rw[o _ (Ne.symm c)];exact g,q.mono om λid _ _ _ _ v _=>o id om,jI.go p f (λ_ _ h=>h),r,d,λid h=>by rw[n];exact u id h⟩
theorem Ig.push {d:H}(a:Ig b hh A l)(B:A<b){x:List Nat}{s y:V}(bytes:Nat)(N:bytes<=24)(hl:l.length<1000000)(f:Fr hh d)(Z:b<=hh.next)(L:PV (λid=>id<hh.next) d s x)(O:SV d y 1 [s]):
  ∃va h6,hh.get A=cE [va]/\tW d 1 bytes va y=some (.sl d.next 0 (l.length+1) (.un 1),h6)/\h6.get A=cE [va]/\h6.next=d.next+1/\(∀k,k<b->h6.get k=d.get k)/\
   (va.cells= [va]/\va.one=true)/\dS va va=true/\ ∀h7,h6.set A (cE [.sl d.next 0 (l.length+1) (.un 1)])=h7->Ig b h7 A (l++ [x]):=by
 have⟨va,R,W,g,o,p,P,G,J⟩:=a
 have K:=bH.length p
 have nx:=f.next
 obtain⟨h6,Y,r⟩:=(o.fr f).push (bytes:=bytes) O (n:=l.length) (m:=1) om rfl om om ⟨by have:=Nat.mul_le_mul_left (2*(l.length+1)+1000) N;omega,om⟩
 have ap: ∀k,k<b->cW va k:=λk z id j m c e e2=>by have:=(o.in _ _ _ _ e).2.1;omega
 have U:=r.next
 have w: ∀k,k<b->h6.get k=d.get k:=λk z=>r.old k om (ap k z)
 refine⟨va,h6,g,Y,by rw[w A B,f.get A om];exact g,U,w,⟨o.sv.cT.1,o.sv.cT.2.1⟩,o.sv.dS,λh7 e=>?_⟩
 subst e
 have t:Fx W d h6:=r.fx P
 have v:Fx W h6 (h6.set A (cE [.sl d.next 0 (l.length+1) (.un 1)])):=Fx.set h6 (G A B) _
 have i:=t.trans v (λ_ _ h=>h)
 have F: ∀id,id<d.next->(W id\/id=d.next)->W id:=λid Q q=>by
  rcases q with q|q
  .exact q
  .omega
 have u:PV W d s x:=L.mE λid _ h=>J id h
 refine⟨_,R++ [s],λid=>W id\/id=d.next,by rw[H.aJ],?_,(jI.go (p.fx (Fx.of f)) i F).append (jI.one (PV.go u i F)),λid j n c e=>by cases e;exact .inr rfl,λid h=> .inl (G id h),λid h=>?_⟩
 .exact (r.own (b:=b) om rfl om).mono (dN _) λid j m c e Q _=>H.Cj h6 om _
 .simp only[H.bT]
  rcases h with h|h
  .have:=J id h;omega
  .omega
end
def hH (R:nZ):LN:=R.flatMap (List.drop 1)
theorem Hd {R:nZ}{i:Nat}(hi:i<R.length):hH (R.take (i+1))=hH (R.take i)++(R.getD i []).drop 1:=by
 unfold hH;rw[iW [] hi,List.flatMap_append];simp
theorem Am {n:Nat}{R:nZ}:{i:Nat}->i<=R.length->(∀j,j<i->(R.getD j []).length<=n)->(hH (R.take i)).length<=i*n
 |0,_,_=>by simp [hH]
 |i+1,h,hr=>by
  rw[Hd om,eE,jR,Nat.succ_mul];have a:=Am (i:=i) om (λj c=>hr j om);have b:=hr i om;omega
structure OG (h h':H)(v:V)(l:LN):Prop where
 ex: ∃ws W,dF h' v 1 ws h.next/\jI W h' ws l/\Mh W v/\(∀id,id<h.next->W id)
 fr:Fr h h'
theorem OG.sp {h h':H}{v:V}{l:LN}(n:OG h h' v l):SP h' v l:=by
 obtain⟨b,W,o,p,_⟩:=n.ex;have a:=bH.length p
 exact⟨b,o.sv,bH.jF (by simpa using a) λi hi c=>by
  have:=(bH.get p i hi om).si
  simpa using this⟩
theorem OG.pl {h h':H}{v:V}{l:LN}(n:OG h h' v l):PL (λid=>id<h.next) h' v l:=by
 obtain⟨b,W,o,p,_,a⟩:=n.ex;exact⟨b,o.sv,AL o,p.mE (λid _ h=>a id h),dF.RO o⟩
structure StJ (h hh:H)(id b B:Nat)(r:dP)(n:Nat)(vO vR:V)(R:nZ)(i:Nat):Prop where
 acc:Ig (id+1) hh (B+1) (hH (R.take i))
 gr:hh.get id=some (.loop r)
 gb:hh.get b=cE [aC n,vO,vR]
 nx:id<hh.next
 fr:Fr h hh
theorem NG {W:Nat->Prop}(vc:V)(n:Nat)(O:LN)(R:nZ)(G:List Nat->Prop)(h:H)(gc:GC W h vc n O R G):
  Ev T 73 [vc] h (λv h'=> ∃vl,v= .tup [vl,aC 0]/\OG h h' vl (hH R)):=by
 obtain⟨U,vR,e,sO,sR⟩:=gc.ch
 subst e
 have⟨wR,tR,aR,kR⟩:=sR
 have lR:=aR.length
 have c:=gc.isc
 rw[dO,c.lr] at lR
 have a7:U.one=true:=NB sO
 have b2:=tR.cT.2.1
 have n0:=gc.n0
 have n7:=gc.n7
 obtain⟨B,hB⟩:=exI h.next
 obtain⟨h1,e1,n1,g1,o1,f1⟩:=iI hB [aC n,U,vR]
 have bx:=dH h (v:= aC n) (u:=U) (w:=vR) rfl a7 b2
 have rB:=bU g1
 refine Nk bx hB e1 rB ?_
 refine ((gc.mono f1).check).mono ?_
 rintro _ h2 ⟨rfl,f2⟩
 refine aT ?_
 refine bV (λhc=>(hc rfl).elim) (λ_=>?_)
 obtain⟨A,hA⟩:=exI h2.next
 have n2:=f2.next
 obtain⟨h3,e3,n3,g3,o3,f3⟩:=iI hA [.aH]
 have e6:h3.get B=cE [aC n,U,vR]:=by rw[f3.get _ om,f2.get _ om];exact g1
 have e9:=bU e6
 refine iG hA e3 e9 ?_
 refine (IP (n:Int) U vR a7 b2 h3).mono ?_
 rintro _ h4 ⟨rfl,g4,n4,f4⟩
 refine aT ?_
 obtain⟨id,b7⟩:=exI h4.next
 obtain⟨b,hb⟩:=exI h3.next
 rw[hb] at g4 n4
 refine⟨rfl,sJ λr hr=>?_⟩
 rw[b7,hb]
 have iS:r.st= .ready:=by rw[hr]
 have c4:r.pend=none:=by rw[hr]
 have o5: ∀k,k<id->(h4.new (.loop r)).get k=h4.get k:=λk P=>H.bG h4 om _
 have f5:Fr h4 (h4.new (.loop r)):=(Fr.refl h4).new _
 have n5:(h4.new (.loop r)).next=id+1:=by rw[H.aM,b7]
 have F4:=((f1.trans f2).trans f3).trans f4
 have rl: ∀j,j<n->(R.getD j []).length<=n:=λj Z=>by
  rw[c.rl j Z];exact kQ (yP (λx hx=>gc.kT.cF hx) Z (c.asc j Z) (c.mem j Z)) om
 obtain⟨F,b8⟩: ∃F,A=F+1:=⟨A- 1,om⟩
 have J0:StJ h (h4.new (.loop r)) id b F r n U vR R 0:=by
  refine⟨⟨.aH, [],λk=>k<id+1,?_,dF.aH _ _ _,trivial,λ_ _ _ _ e=>(by cases e),λ_ h=>h,λk P=>om⟩,by rw[<-b7,H.aI],by rw[o5 _ om];exact g4,om,F4.trans f5⟩;rw[<-b8,o5 _ om,f4.get _ om];exact g3
 refine (Zp id b (n:Int) U vR wR _ om (λi m=>StJ h m id b F r n U vR R i) (λm=>False) J0 (λi m J=>⟨J.gb,tR.mono J.fr⟩) ?_).mono ?_
 .rintro i m hi J
  have f:i<n:=om
  refine pP J.gr (by rw[hr];rfl) iS λh9 g9 n9 o9=>?_
  rw[congrArg dP.assign hr,congrArg dP.vars hr,congrArg dP.pars hr]
  simp(disch:=omega)only[go_sem,List.zip_cons_cons,List.zip_nil_left]
  rw[congrArg dP.body hr]
  have nx:=J.nx
  have ri:(R.map (List.map zi)).getD i []=(R.getD i []).map zi:=mZ (List.map zi) (by rw[c.lr];exact f)
  have a9:=gH aR (i:=i) (by rw[dO,c.lr];exact f) .undef []
  rw[ri] at a9
  have⟨wr,tr,ar⟩:=a9
  have lr:=ar.length
  rw[dO] at lr
  have c3:1<=wr.length:=by
   rw[lr,c.rl i f];have:=(c.mem i f i).2 ⟨bI n,gc.kT.one,Fix.one n i om,eG f⟩;exact PC this
  have F9:Fr h h9:=⟨by rw[n9];exact J.fr.next,λk P=>by rw[o9 k om];exact J.fr.get k P⟩
  obtain⟨vt,f8,tt⟩:=abC tr (kR _ (bF om)) c3
  have lt:dD vt=some (aC (wr.length- 1:Nat)):=by unfold dD;rw[tt.len (n:=wr.length- 1) (by rw[jR];omega) om];rfl
  have h6:wr.length<=20:=by have:=rl i f;omega
  refine eZ f8 lt ?_
  have A9:Ig (id+1) h9 (F+1) (hH (R.take i)):=J.acc.other (k:=id) om om n9 o9
  refine aP (λk' a8 m=> ∃(k:Nat),(∃g:Nat->V,a8= [g 0,g 1,g 2,g 3,g 4,.ptr A 0,g 6,g 7,g 8,g 9,g 10,g 11,vt,aC (wr.length- 1:Nat),aC k,g 15])/\k<=wr.length- 1/\Ig (id+1) m (F+1) (hH (R.take i)++((R.getD i []).drop 1).take k)/\
    m.get id=some (.loop (pF r))/\m.get b=cE [aC n,U,vR]/\id<m.next/\Fr h m/\k'=wr.length- 1-k) (wr.length- 1)
   ⟨0,aD rfl,fY _,by rw[List.take_zero,qH];exact A9,g9,by rw[o9 _ om];exact J.gb,om,F9,rfl⟩ ?_
  rintro k' a8 a ⟨k,⟨g,rfl⟩,P,a6,b0,b1,c6,K,rfl⟩
  have h0:((R.getD i []).drop 1).length=wr.length- 1:=by rw[jR];omega
  by_cases c0:(k:Int)<((wr.length- 1:Nat):Int)
  case neg=>
   have d1:=bZ c0;have ek:k=wr.length- 1:=om
   rw[ek,Nb (l:=(R.getD i []).drop 1) om,<-Hd (by rw[c.lr];exact f)] at a6;refine bM d1 ?_;refine pQ iS c4 b0 (.inl ⟨rfl,a6.other (k:=id) om om rfl (λj Z=>H.Cj _ Z _),by rw[H.aJ],by rw[H.Cj _ om];exact b1,c6,K.set om _⟩)
  have d1:=cV c0
  have g6:k<wr.length- 1:=om
  have b5:k+1<(R.getD i []).length:=om
  obtain⟨x,hx⟩:=exI ((R.getD i []).getD (k+1) [])
  have d4:((R.getD i []).drop 1).getD k []=x:=by
   rw[<-hx];generalize R.getD i []=row;rw[List.getD,List.getD,List.getElem?_drop,Nat.add_comm 1 k]
  have X:bJ n x:=by
   rw[<-hx];exact gc.kT.cF (c.rep i f (k+1) (by rw[<-c.rl i f];exact b5)).mem
  have sx:=gH ar (i:=k+1) (by rw[dO];exact b5) .undef []
  rw[mZ zi (d:= []) b5,hx] at sx
  obtain⟨d6,c1,e4,g5,g0⟩:=(tt.mono K).shape (wr.length- 1) (by rw[jR];omega) om
  have ck:a.cell d6 (c1+k)=some (wr.getD (k+1) .undef):=by
   rw[g0 k (by rw[jR];omega),List.getElem?_drop,List.getD,Nat.add_comm 1 k,dJ om];rfl
  generalize wr.getD (k+1) .undef=vx at sx ck
  obtain⟨N,gA,d9⟩: ∃N,a.get (F+1)=cE [N]/\dS N N=true:=by
   have⟨N,_,_,gA,ow,_⟩:=a6;exact⟨N,gA,ow.sv.dS⟩
  have fb:Fr a (H.mk a.tr (a.next+6)):=(Fr.refl a).cU om
  rw[b8]
  simp(disch:=omega)only[go_sem,d1,e4.ixa,ck,H.cell_of gA]
  refine (rW vx (zi x) (H.mk a.tr (a.next+6)) (by rw[bD,X.len];omega) (by rw[bD,X.len];omega) (sx.mono (K.trans fb))).mono ?_
  rintro a0 q t
  have b9:=fb.trans t.fr
  have d5:=t.fr.next
  have d0:q.get (F+1)=cE [N]:=by rw[b9.get _ om];exact gA
  have d3:PV (λid=>id<a.next) q a0 x:=t.pv λid h=>by simp;omega
  simp(disch:=omega)only[go_sem,H.cell_of d0,d9,dL _ (z:= .aH) d3.fX.1 d3.fX.2]
  obtain⟨o,s⟩: ∃o:H,o=H.mk ((H.mk q.tr (a.next+3)).new (Ob.cells false [a0])).tr q.next:=⟨_,rfl⟩
  rw[<-s]
  have f9:o.get (a.next+3)=cE [a0]:=by rw[s];exact H.aI (H.mk q.tr (a.next+3)) _
  have h5:o.next=q.next:=by rw[s]
  have c9: ∀k,k≠a.next+3->o.get k=q.get k:=λk P=>by rw[s];exact H.bG (H.mk q.tr (a.next+3)) (by simpa using P) _
  simp only at d5
  have Y:Fr a o:=⟨om,λk P=>by rw[c9 k om];exact b9.get k P⟩
  have e8:PV (λid=>id<a.next) o a0 x:=by
   obtain⟨i5,c5,ev,a1,a2,a3,a4⟩:=t.ex;simp only at a1;rw[ev];exact⟨SV.all (by rw[aE,jP]) om (by rw[c9 _ om];exact a3) _,λm=>by have:i5<a.next:=m;omega⟩
  have e7:(hH (R.take i)++((R.getD i []).drop 1).take k).length<1000000:=by
   have h1:=Am (n:=n) (R:=R) (i:=i) (by rw[c.lr];omega) (λj Z=>rl j om);have h2:i*n<=20*20:=Nat.mul_le_mul om n7;rw[eE,jG];omega
  obtain⟨c2,b4,c7,g2,f7,h7,b3,one,_,d7⟩:=a6.push om (bytes:=24) (dN _) e7 Y om e8 (SV.one om f9 (.kn 1))
  have e5:c2=N:=by rw[gA] at c7;cases c7;rfl
  subst e5
  have d8:(m:H)->(y:V)->dY (cE [c2]) m (F+1) 0 [y]=some (m.set (F+1) (cE [y])):=λm y=>bE siM m _ _
  refine iG g2 f7 d8 ?_
  rw[fJ k]
  have b6:=d7 _ rfl
  have f6:hH (R.take i)++((R.getD i []).drop 1).take k++ [x]=hH (R.take i)++((R.getD i []).drop 1).take (k+1):=by
   rw[AA,iW [] om,d4]
  rw[f6] at b6
  have g8:Fr a (b4.set (F+1) (cE [.sl o.next 0 ((hH (R.take i)++((R.getD i []).drop 1).take k).length+1) (.un 1)]))->True:=λ_=>trivial
  obtain⟨Q,L⟩: ∃Q,Q=b4.set (F+1) (cE [.sl o.next 0 ((hH (R.take i)++((R.getD i []).drop 1).take k).length+1) (.un 1)]):=⟨_,rfl⟩
  rw[<-L] at b6 |-
  have f0: ∀k,k<=id->k≠F+1->Q.get k=a.get k:=λk h1 h2=>by rw[L,H.Cj _ h2,b3 k om];exact Y.get k om
  have g7:Q.next=b4.next:=by rw[L];rfl
  refine⟨wr.length- 1-(k+1),om,k+1,aD rfl,om,b6,by rw[b3 id om,Y.get _ om];exact b0,by rw[b3 b om,Y.get _ om];exact b1,om,⟨by have:=K.next;omega,λk P=>by rw[f0 k om om];exact K.get k P⟩,rfl⟩
 .rintro _ m (J|hf)
  case inr=>exact hf.elim
  refine⟨r,J.gr,by rw[iS];simp,?_⟩
  have en:r.pend.getD .norm= .norm:=by rw[c4];rfl
  rw[en]
  have nx:=J.nx
  have c8:=J.acc
  rw[lR,Nb (by rw[c.lr];omega)] at c8
  obtain⟨h9,a5⟩: ∃h9,h9=m.set id (some (.loop {r with st:= .out})):=⟨_,rfl⟩
  have A9:=c8.other (h2:=h9) (k:=id) om om (by rw[a5];rfl) (λj Z=>by rw[a5,H.Cj _ Z])
  have F9:Fr h h9:=by rw[a5];exact J.fr.set om _
  rw[<-a5,b8]
  have⟨N,ws,W',gA,ow,pv,bl,l1,l2⟩:=A9
  simp(disch:=omega)only[go_sem,H.cell_of gA]
  exact⟨N,rfl,⟨ws,W',ow.le om,pv,bl,λid h=>l1 id om⟩,F9⟩
theorem GC.row {W:Nat->Prop}{h:H}{c:V}{n:Nat}{O:LN}{R:nZ}{G:List Nat->Prop}(g:GC W h c n O R G){j:Nat}(a:j<n):0<(O.getD j []).length/\(O.getD j []).length<=n:=by
 refine⟨?_,kQ (yP (λx b=>g.kT.cF b) a (g.isc.asc j a) (g.isc.mem j a)) om⟩;exact PC ((g.isc.mem j a j).2 ⟨bI n,g.kT.one,Fix.one n j om,eG a⟩)
theorem aiN {h:H}{S k c:Nat}{vs:List V}{y w:V}(b:h.get S=some (.cells false vs))(j:vs.length=c)(i:k<c)(l:c<1000000)(a:SV h y 1 [w]):
  tW h 1 8 (.sl S 0 k (.kn c)) y=some (.sl S 0 (k+1) (.kn c),h.set S (some (.cells false (vs.set k w)))):=by
 have e1:tW h 1 8 (.sl S 0 k (.kn c)) y=Ay.tV h 1 8 (.sl S 0 k (.kn c)) 1 [w]:=by
  simp only[tW,a.len (n:=1) rfl om,a.slice]
 rw[e1]
 have f:h.slice 1 (.sl S 0 k (.kn c))=some (vs.take k):=by
  simp only[H.slice,H.row,b,sub];rw[aS om];simp
 have d:h.put S (0+k*1) [w]=some (h.set S (some (.cells false (vs.set k w)))):=by
  rw[H.put_eq,b,Nat.zero_add,jP,bE om]
 unfold Ay.tV
 simp only[f,oU]
 rw[aQ om,aS om,aS om,d]
theorem BU {l:List Int}{a:List Nat}(c:l.Perm (zi a))(b:l.Pairwise (· <= ·)):l=zi (tY a):=by
 refine Ws ?_ b ?_
 .exact c.trans ((mJ a).map _).symm
 .unfold zi
  rw[List.pairwise_map];exact (Pg a).imp λh=>om
theorem El (O:LN)(x:List Nat)(i:Nat):(jO O x i).length=(O.getD i []).length:=by simp [jO]
theorem aaA {O:LN}{x:List Nat}{i k:Nat}(a:k<(O.getD i []).length):(jO O x i).getD k 0=x.getD ((O.getD i []).getD k 0) 0:=by
 unfold jO;rw[mZ (λq=>x.getD q 0) (d:=0) a]
theorem CS {W:Nat->Prop}(vc vx:V)(n i:Nat)(O:LN)(R:nZ)(G:List Nat->Prop)(x:List Nat)(h:H)(N:GC W h vc n O R G)(hi:i<n)(hx:SI h vx (zi x))(X:bJ n x):
  Ev T 165 [vc,vx,aC i] h (λv h'=>zN h h' v (zi (tY (jO O x i)))):=by
 obtain⟨vO,vR,e,sO,sR⟩:=N.ch
 subst e
 refine mV ?_
 have b:=N.isc
 have n7:=N.n7
 have⟨wO,tO,aO⟩:=sO
 have lO:=aO.length
 rw[dO,b.lo] at lO
 have Q:=tO.cT.2.1
 have a4:vR.one=true:=KY sR
 obtain⟨B,hB⟩:=exI h.next
 obtain⟨h1,e1,n1,g1,o1,f1⟩:=iI hB [aC n,vO,vR]
 have bx:=dH h (v:= aC n) (u:=vO) (w:=vR) rfl Q a4
 have a:=gH aO (i:=i) (by rw[dO,b.lo];omega) .undef []
 rw[mZ zi (d:= []) (by rw[b.lo];omega)] at a
 obtain⟨P,o,b2,L,a7⟩:=(tO.mono f1).shape n om om
 have co:h1.cell P (o+i)=some (wO.getD i .undef):=by rw[a7 i om,List.getD,dJ om];rfl
 generalize wO.getD i .undef=vo at a co
 have lo:=a.lens
 rw[bD] at lo
 obtain⟨m,t⟩:=exI ((O.getD i []).length)
 rw[t] at lo
 have U:=N.row (j:=i) hi
 rw[t] at U
 have mk:sD h1 1 8 [aC 0] (aC 0) (aC m)=some (.sl (B+1) 0 0 (.kn m),h1.new (.cells false (rc m λ_=> aC 0))):=by
  rw[iH om om om om,Mc,jP,qT,show ints (List.replicate m 0)=rc m λ_=> aC 0 from (Dg (by simp [aE]) λi hi=>by simp [ints,hi]).symm,n1]
  rfl
 obtain⟨h2,e2,n2,g2,o2,f2⟩:=iI n1 (rc m λ_=> aC 0)
 rw[e2] at mk
 have b3:h2.get B=some (.cells false [aC n,vO,vR]):=by rw[o2 _ om];exact g1
 have b0:h2.cell P (o+i)=some vo:=by rw[f2.cell (by have:=L om;omega)];exact co
 simp(disch:=omega)only[go_sem,aV,bx,hB,e1,H.cell_of g1,b2.ixa,co,lo,mk,H.cell_of b3,b0]
 obtain⟨b1,a3,a2,c,y⟩:=a.open
 rw[bD,t] at a2 c y
 obtain⟨idx,a1,Z,f,A⟩:=hx.open
 rw[bD,X.len] at Z f A
 refine aP (λk' l hh=> ∃(k:Nat),(∃g:Nat->V,l= [g 0,vx,g 2,g 3,g 4,.sl (B+1) 0 k (.kn m),g 6,vo,aC m,aC k,g 10])/\k<=m/\hh.get (B+1)=some (.cells false (rc m λj=>if j<k then aC ((jO O x i).getD j 0:Nat) else aC 0))/\B+1<hh.next/\Fr h hh/\k'=m-k) m
  ⟨0,aD rfl,fY _,by rw[g2];rfl,om,f1.trans f2,rfl⟩ ?_
 rintro k' l r ⟨k,⟨g,rfl⟩,hk,gS,nx,F,rfl⟩
 by_cases a0:(k:Int)<(m:Int)
 .have d1:=cV a0
  have J:k<m:=om
  have cq:r.cell b1 (a3+k)=some (aC ((O.getD i []).getD k 0:Nat)):=by rw[F.cell (c om),y k J];congr 2;rw[zi,mZ _ (d:=0) om]
  have hq:=Gz N.kT b hi (q:=(O.getD i []).getD k 0) (bF om)
  have K:=aaA (O:=O) (x:=x) (i:=i) (k:=k) om
  generalize (O.getD i []).getD k 0=q at cq hq K
  have cx:r.cell idx (a1+q)=some (aC (x.getD q 0:Nat)):=by rw[F.cell (f om),A q hq];congr 2;simp [zi,X.len,hq]
  obtain⟨h5,e5,n5,g5,o5,s⟩:=iI (h:=r) rfl [aC (x.getD q 0:Nat)]
  have a8:h5.get (B+1)=some (.cells false (rc m λj=>if j<k then aC ((jO O x i).getD j 0:Nat) else aC 0)):=by rw[s.get _ nx];exact gS
  have ap:=aiN a8 (dE _ _) J om (SV.one (v:= aC (x.getD q 0:Nat)) (id:=r.next) om g5 (.kn 1))
  rw[iQ] at ap
  refine wY d1 @a2.ixa cq @Z.ixa cx (dL r (z:= aC 0) (v:= aC (x.getD q 0:Nat)) rfl rfl) e5 ap ?_
  rw[fJ k]
  refine⟨m-(k+1),om,k+1,aD rfl,om,?_,om,(F.trans s).set om _,rfl⟩
  congr 2
  refine bW λj hj=>?_
  by_cases e:j=k
  .subst e;rw[aS rfl,aS om,K]
  .rw[aQ e]
   by_cases e2:j<k
   .rw[aS e2,aS om]
   .rw[aQ e2,aQ om]
 have d1:=bZ a0
 obtain rfl:k=m:=om
 have a6:(zi (jO O x i)).length=k:=by rw[bD,El,t]
 have a9:r.get (B+1)=some (.cells false (ints (zi (jO O x i)))):=by
  rw[gS,<-Pe,El,t];congr 2;exact bW λj hj=>by rw[aS hj]
 have so:=Tx r (B+1) (zi (jO O x i)) (.kn k) om a9 nx
 rw[a6] at so
 refine bM d1 ?_
 refine so.mono ?_
 rintro _ h5 ⟨l',g5,p5,a5,s⟩
 have el:=BU p5 a5
 subst el
 have ls:(zi (tY (jO O x i))).length=k:=by rw[bD,(mJ _).length_eq,El,t]
 refine aT ?_
 refine⟨⟨B+1,_,by rw[ls],om,iD nx s.next,g5,.inr (by rw[ls])⟩,⟨kQ F.next s.next,λid Y=>?_⟩⟩
 rw[s.get id (iD Y F.next) (λe=>by have:id=B+1:=e;omega)]
 exact F.get id Y
theorem RT:{l:List Nat}->{k im:Nat}->l[k]? =some im->l.idxOf im<=k
 | [],k,im,h=>by simp at h
 |a::l,0,im,h=>by
  have:a=im:=by simpa using h
  subst this;simp [List.idxOf_cons]
 |a::l,k+1,im,h=>by
  rw[List.idxOf_cons]
  by_cases e:a=im
  .subst e;simp
  .have b:(a==im)=false:=by simpa using e
   rw[b];have:=RT (l:=l) (k:=k) (im:=im) (by simpa using h);simp only[cond_false];omega
theorem ahL (N G:V)(a b:Nat)(o x:List Nat)(im:Nat)(h:H)(hn:o.length<1000000)(Q:SI h N (zi o))(hx:SI h G (zi x))(ha:h.get a=some (.cells false [G]))(Y:h.get b=some (.cells false [aC im]))(B:a<h.next)(O:b<h.next)(hr: ∀q∈o,q<x.length)(w:im∈o.map λq=>x.getD q 0):
  Ev T 225 [N,.fn 226 [] [.ptr a 0,.ptr b 0]] h (λv h'=>v= aC ((o.map λq=>x.getD q 0).idxOf im:Nat)/\Fr h h'):=by
 have W:=Q.lens
 rw[bD] at W
 obtain⟨L,z,y,i,n⟩:=Q.open
 rw[bD] at y i n
 obtain⟨idx,s,r,j,t⟩:=hx.open
 rw[bD] at r j t
 have A:=iLL.2 w
 rw[dO] at A
 refine pM W ?_
 refine aP (λP l f=> ∃(k:Nat),(∃g:Nat->V,l= [N,.fn 226 [] [.ptr a 0,.ptr b 0],g 2,g 3,aC (o.length:Int),aC k,g 6,g 7])/\k<=(o.map λq=>x.getD q 0).idxOf im/\Fr h f/\P=o.length-k) o.length
  ⟨0,aD rfl,fY _,Fr.refl h,rfl⟩ ?_
 rintro P l f ⟨k,⟨g,rfl⟩,hk,F,rfl⟩
 have c:k<o.length:=om
 have d1:decide ((k:Int)<(o.length:Int))=true:=cV om
 have R:f.cell L (z+k)=some (aC (o.getD k 0:Nat)):=by rw[F.cell (i om),n k c];congr 2;rw[zi,mZ _ (d:=0) c]
 have J:=hr _ (bF (d:=0) c)
 have m:(o.map λq=>x.getD q 0)[k]'(by simpa using c)=x.getD (o.getD k 0) 0:=by simp [List.getD,c]
 generalize o.getD k 0=q at R J m
 have Z:f.cell idx (s+q)=some (aC (x.getD q 0:Nat)):=by rw[F.cell (j om),t q J];congr 2;simp [zi,J]
 have ca:f.cell a 0=some G:=by rw[H.cell_of (by rw[F.get _ B];exact ha)];rfl
 have cb:f.cell b 0=some (aC im):=by rw[H.cell_of (by rw[F.get _ O];exact Y)];rfl
 have cl:Ev T 226 [aC q,.ptr a 0,.ptr b 0] f (λv h'=>v= .bool (decide (((x.getD q 0:Nat):Int)=(im:Int)))/\Fr f h'):=by
  refine Nk ca @r.ixa Z cb ?_;exact (Fr.refl f).cU om
 refine iG d1 @y.ixa R ?_
 refine cl.mono ?_
 rintro _ h2 ⟨rfl,U⟩
 by_cases u:((x.getD q 0:Nat):Int)=(im:Int)
 .rw[cV u]
  refine aT ?_
  have:(o.map λq=>x.getD q 0).idxOf im=k:=by
   have K:(o.map λq=>x.getD q 0).idxOf im<=k:=RT (by
    rw[dJ (by simpa using c),m]
    congr 1;omega)
   omega
  rw[this]
  exact⟨rfl,F.trans U⟩
 .rw[bZ u]
  refine aT ?_
  rw[fJ k]
  refine⟨o.length-(k+1),om,k+1,aD rfl,?_,F.trans U,rfl⟩
  have:(o.map λq=>x.getD q 0).idxOf im≠k:=λe=>by
   have K:=List.getElem_idxOf (iLL.2 w);simp only[e] at K;rw[m] at K;omega
  omega
theorem aeX {W:Nat->Prop}(vc m:V)(n i im:Nat)(O:LN)(R:nZ)(G:List Nat->Prop)(x:List Nat)(h:H)(l:GC W h vc n O R G)(hi:i<n)(Q:SI h m (zi x))(X:bJ n x)(r:im∈jO O x i):
  Ev T 166 [vc,m,aC i,aC im] h (λv h'=>zN h h' v (zi (mN O R x i im))):=by
 obtain⟨L,N,e,sO,sR⟩:=l.ch
 subst e
 refine mV ?_
 have a:=l.isc
 have n7:=l.n7
 have⟨wO,tO,aO⟩:=sO
 have⟨wR,tR,aR,kR⟩:=sR
 have lO:=aO.length
 have lR:=aR.length
 rw[dO,a.lo] at lO
 rw[dO,a.lr] at lR
 have t:=tO.cT.2.1
 have K:=tR.cT.2.1
 obtain⟨B,hB⟩:=exI h.next
 obtain⟨h1,e1,n1,g1,o1,f1⟩:=iI hB [aC n,L,N]
 obtain⟨h2,e2,n2,g2,o2,f2⟩:=iI n1 [m]
 obtain⟨P,e3,n3,g3,o3,f3⟩:=iI n2 [aC im]
 have U:=(f1.trans f2).trans f3
 have bx:=dH h (v:= aC n) (u:=L) (w:=N) rfl t K
 have a8:=mF Q.cT.1 Q.cT.2.1 h1
 have b0:=Lc h2 .i64 (im:Int)
 have F:P.get B=some (.cells false [aC n,L,N]):=by rw[o3 _ om,o2 _ om];exact g1
 have s:P.get (B+1)=some (.cells false [m]):=by rw[o3 _ om];exact g2
 have b:=gH aO (i:=i) (by rw[dO,a.lo];omega) .undef []
 rw[mZ zi (d:= []) (by rw[a.lo];omega)] at b
 obtain⟨a1,A,a9,b5,a0⟩:=(tO.mono U).shape n om om
 have co:P.cell a1 (A+i)=some (wO.getD i .undef):=by rw[a0 i om,List.getD,dJ om];rfl
 generalize wO.getD i .undef=vo at b co
 simp(disch:=omega)only[go_sem,aV,bx,hB,e1,a8,n1,e2,b0,n2,e3,H.cell_of F,a9.ixa,co]
 have row:=l.row (j:=i) hi
 refine (ahL vo m (B+1) (B+1+1) (O.getD i []) x im P om (b.mono U) (Q.mono U) s g3 om om (λq hq=>by rw[X.len];exact Gz l.kT a hi hq) r).mono ?_
 rintro _ f ⟨rfl,f4⟩
 obtain⟨k,hk,ek,_,rep,es,Y,_⟩:=uC l.kT a X hi r
 have a6:(List.map (λq=>x.getD q 0) (O.getD i [])).idxOf im=k:=ek
 rw[a6,es]
 have o:=U.trans f4
 have a3:f.get B=some (.cells false [aC n,L,N]):=by rw[f4.get _ om];exact F
 have b1:f.get (B+1)=some (.cells false [m]):=by rw[f4.get _ om];exact s
 have c:=gH aR (i:=i) (by rw[dO,a.lr];omega) .undef []
 rw[mZ (List.map zi) (d:= []) (by rw[a.lr];omega)] at c
 obtain⟨a7,z,b2,b4,b3⟩:=(tR.mono o).shape n om om
 have cr:f.cell a7 (z+i)=some (wR.getD i .undef):=by rw[b3 i om,List.getD,dJ om];rfl
 generalize wR.getD i .undef=vr at c cr
 have⟨wr,tr,ar⟩:=c
 have lr:=ar.length
 rw[dO] at lr
 have y:k<(R.getD i []).length:=by rw[a.rl i hi];exact hk
 have sz:=gH ar (i:=k) (by rw[dO];exact y) .undef []
 rw[mZ zi (d:= []) y] at sz
 obtain⟨a2,J,a4,b6,a5⟩:=(tr.mono o).shape (R.getD i []).length om om
 have cz:f.cell a2 (J+k)=some (wr.getD k .undef):=by rw[a5 k om,List.getD,dJ om];rfl
 generalize wr.getD k .undef=vz at sz cz
 have b7:(k:Int)<((R.getD i []).length:Int):=om
 have Z:=l.kT.cF rep.mem
 have fb:Fr f (H.mk f.tr (f.next+11)):=(Fr.refl f).cU om
 simp(disch:=omega)only[go_sem,H.cell_of a3,b2.ixa,cr,a4.ixa,cz,H.cell_of b1]
 refine (zD BX.ok vz m _ x (H.mk f.tr (f.next+11)) (by rw[Z.len];omega) (sz.mono (o.trans fb)) (Q.mono (o.trans fb)) (λj hj=>by rw[X.len];exact Z.eJ (by rw[<-Z.len];exact hj))).mono ?_
 rintro v h5 nw
 refine aT ?_
 exact (Qh nw).le (o.trans fb)
def Kept (b:Nat)(W:Nat->Prop)(hh h':H):Prop:=hh.next<=h'.next/\ ∀id,id<hh.next->(id<b\/W id)->h'.get id=hh.get id
theorem Kept.fr {b:Nat}{W:Nat->Prop}{a h':H}(f:Fr a h'):Kept b W a h':=⟨f.next,λid h _=>f.get id h⟩
structure Rdr (id b:Nat)(L:LN)(W0:Nat->Prop)(J:Nat->(Nat->Prop)->H->Prop)(D:(Nat->Prop)->H->Prop):Prop where
 kJ: ∀k W hh h',J k W hh->Kept b W hh h'->J k W h'
 kD: ∀W hh h',D W hh->Kept b W hh h'->D W h'
 y: ∀k W hh v,k<L.length->J k W hh->PV W hh v (L.getD k [])->(∀id,W id->id<hh.next)->b<=hh.next->(∀id,id<b->W id->W0 id)->
  Ey T id [v] hh (λv h'=> ∃W2,(∀id,id<hh.next->W2 id->W id)/\(∀id,W2 id->id<h'.next)/\Fx W hh h'/\(v= .bool true/\J (k+1) W2 h'\/v= .bool false/\D W2 h'))
def ElC (n:Nat)(vO vR:V)(O:LN)(R:nZ)(G:List Nat->Prop)(d:Nat):Prop:=
 ∀(i:Nat) (x:List Nat) (vx:V) (id bi bc bx:Nat) (h:H) (W:Nat->Prop) (J:Nat->(Nat->Prop)->H->Prop) (D:(Nat->Prop)->H->Prop),i+d=n->bJ n x->
  h.get bi=cE [aC i]->h.get bc=cE [aC n,vO,vR]->h.get bx=cE [vx]->PV W h vx x->bi<h.next->bc<h.next->bx<h.next-> ¬W bi-> ¬W bc-> ¬W bx->
  GC W h (.agg [aC n,vO,vR]) n O R G->(∀id,W id->id<h.next)->J 0 W h->Rdr id h.next (cK O R d i x) W J D->
  Ev T 164 [.yl id,.ptr bi 0,.ptr bc 0,.ptr bx 0] h (λ_ h'=> ∃W2,(∀id,id<h.next->W2 id->W id)/\(∀id,W2 id->id<h'.next)/\Fx W h h'/\(J (cK O R d i x).length W2 h'\/D W2 h'))
theorem abS (n:Nat)(t z:V)(O:LN)(R:nZ)(G:List Nat->Prop):ElC n t z O R G 0:=by
 intro i x r id A w l h W J D hi X Z K N o li lc lx wi wc wx g s L rd;obtain rfl:i=n:=om
 obtain⟨B,k⟩:=exI h.next;obtain⟨a,e1,n1,F,f,d⟩:=iI k [.yl id];have c:=mF (x:= .yl id) rfl rfl h;have ci:=H.cell_of (h:=a) (id:=A) (by rw[f _ om];exact Z);have q:=H.cell_of (h:=a) (id:=w) (by rw[f _ om];exact K);have u:=H.cell_of (h:=a) (id:=l) (by rw[f _ om];exact N);have d1:decide ((i:Int)=(i:Int))=true:=cV rfl;refine alP c k e1 ci q ?_;refine bV (λ_=>?_) (λY=>(Y (by first|rfl|trivial)).elim);simp(disch:=omega)only[go_sem,H.cell_of F,u];refine (rd.y 0 W a r (by simp [cK]) (rd.kJ 0 W h a L (Kept.fr d)) (o.mono d) (λid h=>by have:=s id h;omega) om (λid _ h=>h)).mono ?_;rintro v j ⟨P,m,U,Q,b⟩;refine aT ?_;refine⟨P,λid a j=>m id om j,U,(Fx.of d).trans Q (λ_ _ h=>h),?_⟩;rcases b with ⟨_,b⟩|⟨_,b⟩
 .exact .inl b
 .exact .inr b
theorem RL (d:Int)(c b a:V)(i:Int)(L:c.one=true)(J:b.one=true)(l:a.cells= [a])(k:a.one=true)(h:H):Ev T 111 [.agg [aC d,c,b],a,aC i] h (λv h'=>v= .fn 164 [] [.ptr (h.next+1+1) 0,.ptr h.next 0,.ptr (h.next+1) 0]/\
  h'.get h.next=cE [aC d,c,b]/\h'.get (h.next+1)=cE [a]/\h'.get (h.next+1+1)=cE [aC i]/\h'.next=h.next+3/\Fr h h'):=by
 refine mV ?_
 obtain⟨B,o⟩:=exI h.next
 obtain⟨K,e1,n,s,Q,A⟩:=iI o [aC d,c,b]
 obtain⟨t,e2,q,z,N,y⟩:=iI n [a]
 obtain⟨P,F,x,O,m,G⟩:=iI q [aC i]
 have r:=dH h (v:= aC d) (u:=c) (w:=b) rfl L J
 have j:=mF l k K
 have f:=Lc t .i64 i
 simp(disch:=omega)only[go_sem,aV,r,o,e1,j,n,e2,f,q,F]
 exact⟨by rw[m _ om,N _ om];exact s,by rw[m _ om];exact z,O,x,(A.trans y).trans G⟩
theorem anE {α β:Type}{l:List α}{f:α->List β}{m:Nat}(a:m<l.length)(d:α):((l.take (m+1)).flatMap f).length=((l.take m).flatMap f).length+(f (l.getD m d)).length:=by
 rw[iW d a,List.flatMap_append];simp
theorem HZ {α β:Type}{f:α->List β}{e:β}(d:α):{l:List α}->{m k:Nat}->m<l.length->k<(f (l.getD m d)).length->(l.flatMap f).getD (((l.take m).flatMap f).length+k) e=(f (l.getD m d)).getD k e/\((l.take m).flatMap f).length+k<(l.flatMap f).length
 | [],m,k,h,_=>by simp at h
 |a::l,0,k,_,b=>by
  have b:k<(f a).length:=b;constructor
  .simp only[List.take_zero,List.flatMap_nil,List.length_nil,Nat.zero_add,List.flatMap_cons]
   rw[List.getD,List.getD,Aw b];rfl
  .simp;omega
 |a::l,m+1,k,h,b=>by
  have j:m<l.length:=by simpa using h
  have c:k<(f (l.getD m d)).length:=by simpa using b
  obtain⟨i,n⟩:=HZ (e:=e) d (l:=l) j c;constructor
  .simp only[List.take_succ_cons,List.flatMap_cons,eE]
   rw[Nat.add_assoc,List.getD,Hs om,Nat.add_sub_cancel_left];exact i
  .simp only[List.take_succ_cons,List.flatMap_cons,eE];omega
structure InJ (off id2 b4 id:Nat)(r:dP)(J:Nat->(Nat->Prop)->H->Prop)(W0:Nat->Prop)(k:Nat)(W:Nat->Prop)(hh:H):Prop where
 ex: ∃W3,(∀id,W id↔(W3 id\/id=id2))/\ ¬W3 id2/\ ¬W3 b4/\J (off+k) W3 hh/\(∀id,W3 id->id<hh.next)/\ ∀id,id<id2->W3 id->W0 id
 gr:hh.get id2=some (.loop r)
 g4:hh.get b4=cE [.yl id]
 nx:id2<hh.next
structure InD (id2 b4:Nat)(r:dP)(D:(Nat->Prop)->H->Prop)(W0:Nat->Prop)(W:Nat->Prop)(hh:H):Prop where
 ex: ∃W3,(∀id,W id↔(W3 id\/id=id2))/\ ¬W3 id2/\D W3 hh/\(∀id,W3 id->id<hh.next)/\ ∀id,id<id2->W3 id->W0 id
 gr:hh.get id2=some (.loop (Cy r .ret))
 nx:id2<hh.next
theorem ZJ (n:Nat)(K L:V)(O:LN)(R:nZ)(G:List Nat->Prop)(d:Nat)(ih:ElC n K L O R G d):ElC n K L O R G (d+1):=by
 intro i x vx id bi bc bx h W J D hi X gi gc gx px li lc lx wi wc wx gC hW hJ rd;refine mV ?_;have a8:i<n:=om
 have n7:=gC.n7
 obtain⟨c4,d4⟩:K.one=true/\L.one=true:=by
  obtain⟨a,b,e,s1,s2⟩:=gC.ch;cases e;have⟨_,t1,_⟩:=s1;have⟨_,t2,_⟩:=s2;exact⟨t1.cT.2.1,t2.cT.2.1⟩
 obtain⟨B,hB⟩:=exI h.next;obtain⟨q,e1,n1,g1,o1,f1⟩:=iI hB [.yl id];have f0:=mF (x:= .yl id) rfl rfl h;have c2:q.get bi=cE [aC i]:=by rw[o1 _ om];exact gi
 have b7:q.get bc=cE [aC n,K,L]:=by rw[o1 _ om];exact gc
 have c3:q.get bx=cE [vx]:=by rw[o1 _ om];exact gx
 have d1:decide ((i:Int)=(n:Int))=false:=bZ om;have f3:=bU b7;simp(disch:=omega)only[go_sem,aV,f0,hB,e1,H.cell_of c2,H.cell_of b7,d1,f3,H.cell_of c3];refine (CS (.agg [aC n,K,L]) vx n i O R G x q (gC.mono f1) a8 (px.mono f1).si X).mono ?_;rintro v8 c b4;obtain⟨z,a4⟩:=exI (tY (jO O x i));rw[a4] at b4;have f2:=b4.fr;have F2:=f1.trans f2
 have i6:z.length<=20:=by
  have:=(gC.row (j:=i) a8).2;rw[<-a4,(mJ _).length_eq,El];omega
 have e6: ∀s,s∈z->s∈jO O x i:=λs h=>(mJ _).mem_iff.1 (by rw[a4];exact h)
 have hL:cK O R (d+1) i x=z.flatMap λs=>cK O R d (i+1) (mN O R x i s):=by rw[<-a4];rfl
 obtain⟨P,cp,b3,i3,g5,gP,_⟩:=b4.ex;rw[bD] at b3;have l8:dD v8=some (aC (z.length:Int)):=by rw[b3];rfl
 have e3:J 0 W c:=rd.kJ 0 W h c hJ (Kept.fr F2);have n2:=f2.next;refine bM l8 ?_;refine aP (λk' a9 hh=> ∃(m:Nat) (t:Nat->Prop),(∃g:Nat->V,a9= [.yl id,.ptr bi 0,.ptr bc 0,.ptr bx 0,.ptr B 0,g 5,g 6,g 7,v8,aC (z.length:Int),aC m,g 11,g 12,g 13,g 14])/\m<=z.length/\J ((z.take m).flatMap λs=>cK O R d (i+1) (mN O R x i s)).length t hh/\Fx W c hh/\(∀id,id<c.next->t id->W id)/\(∀id,t id->id<hh.next)/\k'=z.length-m) z.length
  ⟨0,W,aD rfl,fY _,e3,Fx.refl _ _,λ_ _ h=>h,λid h=>by have:=hW id h;omega,rfl⟩ ?_
 rintro k' a9 w ⟨m,t,⟨g,rfl⟩,hm,a7,F3,w1,w2,rfl⟩
 by_cases c5:(m:Int)<(z.length:Int)
 case neg=>
  have d2:=bZ c5;obtain rfl:m=z.length:=om
  refine bM d2 ?_;rw[List.take_length,<-hL] at a7;exact⟨t,λid q c=>w1 id om c,w2,(Fx.of F2).trans F3 (λ_ _ h=>h),.inl a7⟩
 have d2:=cV c5;have a3:m<z.length:=om
 obtain⟨s,U⟩:=exI (z.getD m 0);have b0:s∈jO O x i:=e6 s (by rw[<-U];exact bF a3);obtain⟨_,_,_,_,_,_,Y,_⟩:=uC gC.kT gC.isc X a8 b0;have n3:=F3.next;have iU: ∀k,k<c.next-> ¬W k->w.get k=c.get k:=λk q c=>F3.get k q c
 have wB: ¬W B:=λh=>by have:=hW B h;omega
 have wP: ¬W P:=λh=>by have:=hW P h;omega
 have c9:w.get bi=cE [aC i]:=by rw[iU _ om wi,f2.get _ om];exact c2
 have c0:w.get bc=cE [aC n,K,L]:=by rw[iU _ om wc,f2.get _ om];exact b7
 have d6:w.get bx=cE [vx]:=by rw[iU _ om wx,f2.get _ om];exact c3
 have e8:w.get B=cE [.yl id]:=by rw[iU _ om wB,f2.get _ om];exact g1
 have cP:w.cell P m=some (aC s):=by rw[H.cell_of (by rw[iU _ g5 wP];exact gP),Ax a3,U]
 have g0:=bU c0
 have eO:dS K K=true:=by
  obtain⟨a,b,e,s1,s2⟩:=gC.ch;cases e;have⟨_,t1,_⟩:=s1;exact t1.dS
 have eR:dS L L=true:=by
  obtain⟨a,b,e,s1,s2⟩:=gC.ch;cases e;have⟨_,t2,_⟩:=s2;exact t2.dS
 have h8:GC W w (.agg [aC n,K,L]) n O R G:=(gC.mono F2).go F3 (λ_ _ h=>h);have d9:PV W w vx x:=(px.mono F2).fx F3;have fb:Fr w (H.mk w.tr (w.next+9)):=(Fr.refl w).cU om;rw[b3];have d5:(i:Int)+1=((i+1:Nat):Int):=om
 simp(disch:=omega)only[go_sem,d2,cP,g0,bU (h:=H.mk w.tr (w.next+9)) c0,H.cell_of d6,H.cell_of c9,d5];refine (aeX (.agg [aC n,K,L]) vx n i s O R G x (H.mk w.tr (w.next+9)) (h8.mono fb) a8 (d9.mono fb).si X b0).mono ?_;rintro b5 h4 d3;have f4:=fb.trans d3.fr;have n4:=f4.next;have f8:h4.get bi=cE [aC i]:=by rw[f4.get _ om];exact c9
 have g2:h4.get bc=cE [aC n,K,L]:=by rw[f4.get _ om];exact c0
 have b8:PV t h4 b5 (mN O R x i s):=d3.pv λid h=>by have:=w2 id h;simp;omega
 simp(disch:=omega)only[go_sem,H.cell_of f8,bU g2,eO,eR];refine (RL (n:Int) K L b5 ((i+1:Nat):Int) c4 d4 b8.fX.1 b8.fX.2 h4).mono ?_;rintro _ h5 ⟨rfl,g6,d8,e9,n5,f5⟩;refine aT ?_;refine⟨rfl,sJ λr hr=>?_⟩;obtain⟨o,b9⟩:=exI h5.next;rw[b9];have iS:r.st= .ready:=by rw[hr]
 have c6:r.pend=none:=by rw[hr]
 obtain⟨h6,a6⟩: ∃h6,h6=h5.new (.loop r):=⟨_,rfl⟩
 have g8:h6.get o=some (.loop r):=by rw[a6,<-b9,H.aI]
 have n6:h6.next=o+1:=by rw[a6,H.aM,b9]
 have f6:Fr h5 h6:=by rw[a6];exact (Fr.refl h5).new _
 rw[<-a6];have b6:=(f4.trans f5).trans f6;obtain⟨Q,N⟩:=exI (((z.take m).flatMap λs=>cK O R d (i+1) (mN O R x i s)).length);rw[N] at a7;have i1:=f5.next;have f7: ¬t o:=λh=>by have:=w2 o h;omega
 have g7: ¬t B:=λh=>wB (w1 B om h)
 have d7: ∀k,k<(cK O R d (i+1) (mN O R x i s)).length->(cK O R (d+1) i x).getD (Q+k) []=(cK O R d (i+1) (mN O R x i s)).getD k []/\Q+k<(cK O R (d+1) i x).length:=λk hk=>by
  rw[hL,<-N];have:=HZ (f:=λs=>cK O R d (i+1) (mN O R x i s)) (e:=([]:List Nat)) 0 (l:=z) (m:=m) (k:=k) a3 (by rw[U];exact hk);rw[U] at this;exact this
 have c7:Fx W h h6:=((Fx.of F2).trans F3 (λ_ _ h=>h)).trans (Fx.of b6) (λ_ _ h=>h)
 have h0:Rdr o h6.next (cK O R d (i+1) (mN O R x i s)) (λk=>t k\/k=o) (InJ Q o B id r J t) (InD o B r D t):=by
  refine⟨λk W2 hh h' j kp=>?_,λW2 hh h' j kp=>?_,λk W2 hh v hk j pv i0 i5 i4=>?_⟩
  .obtain⟨W3,u,Z,q3,q4,q5,q6⟩:=j.ex
   have nx:=j.nx;exact⟨⟨W3,u,Z,q3,rd.kJ _ _ _ _ q4 ⟨kp.1,λid q c=>kp.2 id q (by rcases c with c|c;exact .inl om;exact .inr ((u id).2 (.inl c)))⟩,λid h=>iD (q5 id h) kp.1,q6⟩,by rw[kp.2 _ nx (.inl om)];exact j.gr,by rw[kp.2 _ om (.inl om)];exact j.g4,iD nx kp.1⟩
  .obtain⟨W3,u,Z,q4,q5,q6⟩:=j.ex
   have nx:=j.nx;exact⟨⟨W3,u,Z,rd.kD _ _ _ q4 ⟨kp.1,λid q c=>kp.2 id q (by rcases c with c|c;exact .inl om;exact .inr ((u id).2 (.inl c)))⟩,λid h=>iD (q5 id h) kp.1,q6⟩,by rw[kp.2 _ nx (.inl om)];exact j.gr,iD nx kp.1⟩
  .obtain⟨W3,u,Z,q3,q4,q5,q6⟩:=j.ex
   have nx:=j.nx;obtain⟨g3,e5⟩:=d7 k hk;refine pP j.gr (by rw[hr];rfl) iS λh9 g9 n9 o9=>?_
   rw[congrArg dP.assign hr,congrArg dP.vars hr,congrArg dP.pars hr];simp(disch:=omega)only[go_sem,List.zip_cons_cons,List.zip_nil_left];rw[congrArg dP.body hr];have d0:h9.get B=cE [.yl id]:=by rw[o9 _ om];exact j.g4
   have f9:Fx W2 hh h9:=⟨om,λk _ c=>o9 k λe=>c ((u k).2 (.inr e))⟩
   have k9:Kept h.next W3 hh h9:=⟨om,λk q c=>o9 k λe=>by
    subst e;rcases c with c|c
    .omega
    .exact Z c⟩
   simp(disch:=omega)only[go_sem,H.cell_of d0];refine (rd.y (Q+k) W3 h9 v e5 (rd.kJ _ _ _ _ q4 k9) (by rw[g3];exact PV.go pv f9 λid _ h=>(u id).2 (.inl h)) (λid h=>by rw[n9];exact q5 id h) om (λid q c=>w1 id om (q6 id om c))).mono ?_;rintro v' A ⟨W4,u1,u2,a5,hv⟩;have i2:=a5.next;have c1: ¬W4 o:=λh=>Z (u1 o om h)
   have e7: ¬W4 B:=λh=>q3 (u1 B om h)
   have b1:A.get o=some (.loop (pF r)):=by rw[a5.get o om Z];exact g9
   have c8:A.get B=cE [.yl id]:=by rw[a5.get B om q3];exact d0
   have b2:Fx W2 hh A:=f9.trans a5 λid _ h=>(u id).2 (.inl h)
   have low: ∀k,k<o->W4 k->t k:=λk q c=>q6 k q (u1 k om c)
   have kk: ∀r2:dP,Kept h.next W4 A (A.set o (some (.loop r2))):=λr2=>⟨dN _,λk q c=>H.Cj _ (λe=>by
    subst e;rcases c with c|c
    .omega
    .exact c1 c) _⟩
   rcases hv with ⟨rfl,hv⟩|⟨rfl,hv⟩
   .refine aT ?_
    refine pQ iS c6 b1 ⟨λk=>W4 k\/k=o,λk q c=>?_,λk c=>?_,b2.trans (Fx.set A ((u o).2 (.inr rfl)) _) (λ_ _ h=>h),.inl ⟨rfl,⟨W4,λk=>Iff.rfl,c1,e7,?_,u2,low⟩,by rw[H.aJ],by rw[H.Cj _ om];exact c8,by simp only[H.bT];omega⟩⟩
    .rcases c with c|c
     .exact (u k).2 (.inl (u1 k om c))
     .exact (u k).2 (.inr c)
    .rcases c with c|c
     .exact u2 k c
     .simp only[H.bT];omega
    .exact rd.kJ _ _ _ _ hv (kk r)
   .refine aT ?_
    refine On b1 ⟨λk=>W4 k\/k=o,λk q c=>?_,λk c=>?_,b2.trans (Fx.set A ((u o).2 (.inr rfl)) _) (λ_ _ h=>h),.inr ⟨rfl,⟨W4,λk=>Iff.rfl,c1,?_,u2,low⟩,by rw[H.aJ],by simp only[H.bT];omega⟩⟩
    .rcases c with c|c
     .exact (u k).2 (.inl (u1 k om c))
     .exact (u k).2 (.inr c)
    .rcases c with c|c
     .exact u2 k c
     .simp only[H.bT];omega
    .exact rd.kD _ _ _ hv (kk _)
 have F: ∀k,k<h5.next->h6.get k=h5.get k:=λk hk=>f6.get k hk
 have e4:GC (λk=>t k\/k=o) h6 (.agg [aC n,K,L]) n O R G:=gC.go c7 λk q c=>by
  rcases c with c|c
  .exact w1 k om c
  .omega
 refine (ih (i+1) (mN O R x i s) b5 o (h4.next+1+1) h4.next (h4.next+1) h6 (λk=>t k\/k=o) (InJ Q o B id r J t) (InD o B r D t) om Y (by rw[F _ om];exact e9) (by rw[F _ om];exact g6) (by rw[F _ om];exact d8)
  (((b8.mono f5).mE λk q c=>(by rcases c with c|c;exact c;omega)).mono f6) om om om (λh=>by rcases h with h|h;have:=w2 _ h;omega;omega) (λh=>by rcases h with h|h;have:=w2 _ h;omega;omega) (λh=>by rcases h with h|h;have:=w2 _ h;omega;omega) e4 (λk h=>by rcases h with h|h;have:=w2 _ h;omega;omega)
  ⟨⟨t,λk=>Iff.rfl,f7,g7,rd.kJ _ _ _ _ a7 (Kept.fr b6),λk h=>by have:=w2 _ h;omega,λ_ _ h=>h⟩,g8,by rw[F _ om,f5.get _ om,f4.get _ om];exact e8,om⟩ h0).mono ?_
 rintro _ h7 ⟨W7,a1,a2,F7,j|j⟩
 .obtain⟨W3,u,Z,q3,q4,q5,q6⟩:=j.ex
  have nx:=j.nx;refine⟨r,j.gr,by rw[iS];simp,?_⟩;have en:r.pend.getD .norm= .norm:=by rw[c6];rfl
  rw[en];refine aT ?_;rw[fJ m]
  have a0:Fx W c h7:=F3.trans ((Fx.of (W:=λk=>t k\/k=o) b6).trans F7 (λ_ _ h=>h)) λk q c=>by
   rcases c with c|c
   .exact w1 k q c
   .omega
  refine⟨z.length-(m+1),om,m+1,W3,aD rfl,om,?_,⟨a0.next,λk q c=>by rw[H.Cj _ om];exact a0.get k q c⟩,λk q c=>w1 k q (q6 k om c),q5,rfl⟩;rw[anE a3 0,U,N]
  refine rd.kJ _ _ _ _ q4 ⟨dN _,λk q c=>H.Cj _ (λe=>by
   subst e;rcases c with c|c
   .omega
   .exact Z c) _⟩
 .obtain⟨W3,u,Z,q4,q5,q6⟩:=j.ex
  have nx:=j.nx;refine⟨_,j.gr,by simp [Cy],?_⟩;have en:(Cy r .ret).pend.getD .norm= .ret:=rfl;rw[en];refine aT ?_
  have a0:Fx W h h7:=c7.trans F7 λk q c=>by
   rcases c with c|c
   .exact w1 k om c
   .omega
  refine⟨W3,λk q c=>w1 k om (q6 k om c),q5,⟨a0.next,λk q c=>by rw[H.Cj _ om];exact a0.get k q c⟩,.inr ?_⟩
  refine rd.kD _ _ _ q4 ⟨dN _,λk q c=>H.Cj _ (λe=>by
   subst e;rcases c with c|c
   .omega
   .exact Z c) _⟩
theorem RF (n:Nat)(a b:V)(O:LN)(R:nZ)(G:List Nat->Prop): ∀d,ElC n a b O R G d
 |0=>abS n a b O R G
 |d+1=>ZJ n a b O R G d (RF n a b O R G d)
def akV (W M:Nat->Prop)(b:Nat)(hh:H)(w:V)(x:List Nat):Prop:= ∃id cap,w= .sl id 0 x.length cap/\W id/\ ¬M id/\b<=id/\id<hh.next/\hh.get id=cE (ints (zi x))
structure LsJ (h:H)(b0 A B id2:Nat)(r:dP)(l:LN)(W:Nat->Prop)(hh:H):Prop where
 ex: ∃va ws M,hh.get A=cE [va]/\dF hh va 1 ws (id2+1)/\bH (akV W M (id2+1) hh) ws l/\Mh M va/\(∀id,M id->W id)/\(∀id,M id->id<hh.next)/\M A/\ ∀id off n c,va= .sl id off n c->id≠id2/\id≠A
 gr:hh.get id2=some (.loop r)
 wA:W A
 w2:W id2
 g1:hh.get (B+1)=cE [.aH]
 g2:hh.get (B+1+1)=cE [aC 0]
 nx:id2<hh.next
 nA:A<hh.next
 fr:Fr h hh
theorem LsJ.kept {h:H}{m b A B d:Nat}{r:dP}{l:LN}{W:Nat->Prop}{f h':H}(j:LsJ h m A B d r l W f)(k:Kept b W f h')(G:B+1+1<b)(J:h.next<=b)(y:b<=f.next):LsJ h m A B d r l W h':=by
 obtain⟨s,F,M,t,u,el,i,o,v,mA,ne⟩:=j.ex
 refine⟨⟨s,F,M,by rw[k.2 A j.nA (.inr j.wA)];exact t,u.mono k.1 λid q n c e _ z=>k.2 id z (.inr (o _ (i _ _ _ _ e))),el.mono λw x ⟨id,cap,e,e1,e2,e3,e4,e5⟩=>⟨id,cap,e,e1,e2,e3,iD e4 k.1,by rw[k.2 id e4 (.inr e1)];exact e5⟩,i,o,λid h=>iD (v id h) k.1,mA,ne⟩,
  by rw[k.2 _ j.nx (.inr j.w2)];exact j.gr,j.wA,j.w2,by rw[k.2 _ om (.inl om)];exact j.g1,by rw[k.2 _ om (.inl om)];exact j.g2,iD j.nx k.1,iD j.nA k.1,⟨kQ j.fr.next k.1,λid a=>by rw[k.2 id (iD a j.fr.next) (.inl om)];exact j.fr.get id a⟩⟩
theorem kF {W:Nat->Prop}{h:H}{a:V}{n:Nat}{O:LN}{R:nZ}{G:List Nat->Prop}(g:GC W h a n O R G):NJ O n 0<=5040:=g.sz
theorem afF (t:V)(d:Int)(O:List (List Int))(R:List (List (List Int)))(h:H)(F:ChI h t d O R)(G:d<=20\/64<d)(K:Li O)(sr:Ul R)(N:To d O R≠0):
  Ev T 71 [t] h (λv h'=>v= .tup [.aH,aC (To d O R)]/\Fr h h'):=by
 have k:=F
 have⟨c,f,e,L,Y⟩:=F
 subst e
 refine mV ?_
 have a:c.one=true:=NB L
 have b:f.one=true:=KY Y
 obtain⟨B,z⟩:=exI h.next
 obtain⟨h1,e1,x,g1,o1,U⟩:=iI z [aC d,c,f]
 obtain⟨h2,e2,A,Q,Z,f2⟩:=iI x [.aH]
 obtain⟨s,e3,n3,g3,r,f3⟩:=iI A [aC 0]
 have y:=(U.trans f2).trans f3
 have J:=dH h (v:= aC d) (u:=c) (w:=f) rfl a b
 have m:s.get B=cE [aC d,c,f]:=by rw[r _ om,Z _ om];exact g1
 have l:=bU m
 refine Ux @aV J z e1 x e2 A e3 l ?_
 refine (Bq _ d O R s (k.mono y) G K sr).mono ?_
 rintro _ q ⟨rfl,j⟩
 have o:q.get (B+1)=cE [.aH]:=by rw[j.get _ om,r _ om];exact Q
 have n:q.get (B+1+1)=cE [aC 0]:=by rw[j.get _ om];exact g3
 have W:=cV N
 have P:(i:H)->(id:Nat)->(u w:V)->dY (cE [u]) i id 0 [w]=some (i.set id (cE [w])):=λi id u w=>bE siM i _ _
 have n4:=j.next
 refine jX W o n P ?_
 exact ((y.trans j).set om _).set om _
theorem Ra {W0:Nat->Prop}(vc:V)(n:Nat)(O:LN)(R:nZ)(G:List Nat->Prop)(h:H)(gc:GC W0 h vc n O R G):
  Ev T 71 [vc] h (λv h'=> ∃vl,v= .tup [vl,aC 0]/\OG h h' vl (cK O R n 0 (bI n))):=by
 obtain⟨vO,vR,e,sO,sR⟩:=gc.ch
 subst e
 refine mV ?_
 have i8:=gc.isc
 have n0:=gc.n0
 have n7:=gc.n7
 have b3:vO.one=true:=NB sO
 have b5:vR.one=true:=KY sR
 have eO:dS vO vO=true:=by have⟨_,t,_⟩:=sO;exact t.dS
 have eR:dS vR vR=true:=by have⟨_,t,_⟩:=sR;exact t.dS
 obtain⟨L,hL⟩:=exI (cK O R n 0 (bI n))
 obtain⟨c7,ll⟩:=dV gc.kT i8
 have j6:=kF gc
 rw[hL] at c7 ll
 have LP: ∀k,k<L.length->bJ n (L.getD k []):=λk hk=>gc.kT.cF ((c7.mem _).1 (bF hk))
 obtain⟨B,hB⟩:=exI h.next
 obtain⟨h1,e1,n1,g1,o1,f1⟩:=iI hB [aC n,vO,vR]
 obtain⟨s,e2,n2,g2,o2,f2⟩:=iI n1 [.aH]
 obtain⟨h3,e3,n3,g3,o3,f3⟩:=iI n2 [aC 0]
 have F3:=(f1.trans f2).trans f3
 have bx:=dH h (v:= aC n) (u:=vO) (w:=vR) rfl b3 b5
 have d6:h3.get B=cE [aC n,vO,vR]:=by rw[o3 _ om,o2 _ om];exact g1
 have j0:=bU d6
 refine Ux @aV bx hB e1 n1 e2 n2 e3 j0 ?_
 refine ((gc.mono F3).check).mono ?_
 rintro _ h4 ⟨rfl,f4⟩
 have n4:=f4.next
 obtain⟨A,hA⟩:=exI h4.next
 obtain⟨h5,e5,n5,g5,o5,f5⟩:=iI hA [.aH]
 have b0:h5.get B=cE [aC n,vO,vR]:=by rw[f5.get _ om,f4.get _ om];exact d6
 have f0:h5.get (B+1)=cE [.aH]:=by rw[f5.get _ om,f4.get _ om,o3 _ om];exact g2
 have g0:h5.get (B+1+1)=cE [aC 0]:=by rw[f5.get _ om,f4.get _ om];exact g3
 have F5:=(F3.trans f4).trans f5
 have g7:=bU b0
 have c4:=bU (h:=H.mk h5.tr (h5.next+5)) b0
 refine aT ?_
 refine bV (λhc=>(hc (by first|rfl|trivial)).elim) (λ_=>?_)
 simp(disch:=omega)only[go_sem,hA,e5,g7,c4,H.cell_of b0]
 refine (Sj EH.ok n (H.mk h5.tr (h5.next+5)) om).mono ?_
 rintro v6 h6 nw
 have fb:Fr h5 (H.mk h5.tr (h5.next+5)):=(Fr.refl h5).cU om
 have f6:=fb.trans nw.fr
 have n6:=f6.next
 have i9:h6.get B=cE [aC n,vO,vR]:=by rw[f6.get _ om];exact b0
 have c6:=Qh nw
 have c2:=c6.own
 simp(disch:=omega)only[go_sem,bU i9,eO,eR]
 refine (RL (n:Int) vO vR v6 0 b3 b5 c2.sv.cT.1 c2.sv.cT.2.1 h6).mono ?_
 rintro _ h7 ⟨rfl,i6,h0,e8,j5,f7⟩
 refine aT ?_
 refine⟨rfl,sJ λr hr=>?_⟩
 obtain⟨a,b9⟩:=exI h7.next
 rw[b9]
 have iS:r.st= .ready:=by rw[hr]
 have c9:r.pend=none:=by rw[hr]
 obtain⟨h8,b2⟩: ∃h8,h8=h7.new (.loop r):=⟨_,rfl⟩
 have g4:h8.get a=some (.loop r):=by rw[b2,<-b9,H.aI]
 have n8:h8.next=a+1:=by rw[b2,H.aM,b9]
 have f8:Fr h7 h8:=by rw[b2];exact (Fr.refl h7).new _
 have U: ∀k,k<h7.next->h8.get k=h7.get k:=λk hk=>f8.get k hk
 rw[<-b2]
 have d1:=(f6.trans f7).trans f8
 have F8:=F5.trans d1
 have c0: ∀k,k<h5.next->h8.get k=h5.get k:=λk hk=>d1.get k hk
 have J0:LsJ h B A B a r (L.take 0) (λk=>k=A\/k=a) h8:=
  ⟨⟨.aH, [],λk=>k=A,by rw[c0 _ om];exact g5,dF.aH _ _ _,trivial,λ_ _ _ _ e=>(by cases e),λk h=> .inl h,λk h=>by have:k=A:=h;omega,rfl,λ_ _ _ _ e=>(by cases e)⟩,g4,.inl rfl,.inr rfl,by rw[c0 _ om];exact f0,by rw[c0 _ om];exact g0,om,om,F8⟩
 have j1: ∀k,(k=A\/k=a)->k<h8.next:=λk h=>by rcases h with h|h<;>omega
 have j2:GC (λk=>k=A\/k=a) h8 (.agg [aC n,vO,vR]) n O R G:=gc.go (Fx.of F8) λk h1 s=>by rcases s with s|s<;>omega
 have p6:PV (λk=>k=A\/k=a) h8 v6 (bI n):=by
  obtain⟨i5,c5,ev,a1,a2,a3,a4⟩:=c6.ex;simp only at a1;rw[ev];exact⟨SV.all (by rw[aE,jP]) (by have:=(f7.trans f8).next;omega) (by rw[U _ (by have:=f7.next;omega),f7.get _ a2];exact a3) _,λh=>by have:i5=A\/i5=a:=h;have:=f7.next;omega⟩
 refine (RF n vO vR O R G n 0 (bI n) v6 a (h6.next+1+1) h6.next (h6.next+1) h8 (λk=>k=A\/k=a) (λk W K=>LsJ h B A B a r (L.take k) W K) (λ_ _=>False) om (bJ.one n)
  (by rw[U _ om];exact e8) (by rw[U _ om];exact i6) (by rw[U _ om];exact h0) p6 om om om (λh=>by rcases h with h|h<;>omega) (λh=>by rcases h with h|h<;>omega) (λh=>by rcases h with h|h<;>omega) j2 j1 J0 ?_).mono ?_
 .rw[hL]
  refine⟨λk W K h' j kp=>j.kept kp om (by have:=F8.next;omega) (by have:=j.nx;omega),λ_ _ _ h=>h.elim,λk W K v hk j pv i3 j8 j4=>?_⟩
  obtain⟨va,ws,M,gA,ow,el,bl,mw,mn,mA,ne⟩:=j.ex
  have nx:=j.nx
  have nA:=j.nA
  have d0:=bH.length el
  rw[jG,Nat.min_eq_left om] at d0
  refine pP j.gr (by rw[hr];rfl) iS λJ g9 n9 o9=>?_
  rw[congrArg dP.assign hr,congrArg dP.vars hr,congrArg dP.pars hr]
  simp(disch:=omega)only[go_sem,List.zip_cons_cons,List.zip_nil_left]
  rw[congrArg dP.body hr]
  have c1:J.get A=cE [va]:=by rw[o9 _ om];exact gA
  have i4:Fx W K J:=⟨om,λk _ s=>o9 k λe=>s (e▸j.w2)⟩
  have d8:=pv.fx i4
  obtain⟨x,hx⟩:=exI (L.getD k [])
  rw[hx] at d8
  have X:bJ n x:=by rw[<-hx];exact LP k hk
  have b6:dF J va 1 ws (a+1):=ow.mono om λid i m c e _ _=>o9 id (ne _ _ _ _ e).1
  have f9:=dF.lens b6 d0
  have i1:=b6.sv.dS
  have d5:decide ((k:Int)=5040)=false:=bZ om
  have c8:Fr J (H.mk J.tr (J.next+6)):=(Fr.refl J).cU om
  simp(disch:=omega)only[go_sem,H.cell_of c1,f9,d5]
  refine (rW v (zi x) (H.mk J.tr (J.next+6)) (by rw[bD,X.len];omega) (by rw[bD,X.len];omega) (d8.mono c8).si).mono ?_
  rintro b7 d Y
  have a8:=c8.trans Y.fr
  obtain⟨i5,c5,ev,a1,a2,a3,a4⟩:=Y.ex
  simp only at a1
  have a7:d.get A=cE [va]:=by rw[a8.get _ om];exact c1
  have b4:=Y.own
  simp(disch:=omega)only[go_sem,H.cell_of a7,i1,dL _ (z:= .aH) b4.sv.cT.1 b4.sv.cT.2.1]
  obtain⟨f,l⟩: ∃f:H,f=H.mk ((H.mk d.tr (J.next+3)).new (Ob.cells false [b7])).tr d.next:=⟨_,rfl⟩
  rw[<-l]
  have e9:f.get (J.next+3)=cE [b7]:=by rw[l];exact H.aI (H.mk d.tr (J.next+3)) _
  have g6:f.next=d.next:=by rw[l]
  have a5: ∀k,k≠J.next+3->f.get k=d.get k:=λk hk=>by rw[l];exact H.bG (H.mk d.tr (J.next+3)) (by simpa using hk) _
  have P:Fr J f:=⟨by have:=a8.next;omega,λk hk=>by rw[a5 k om];exact a8.get k hk⟩
  obtain⟨a6,g8,F⟩:=(b6.fr P).push (bytes:=24) (SV.one (by have:=a8.next;have:=Y.fr.next;simp only at this;omega) e9 (.kn 1)) (n:=k) (m:=1) om rfl om om om
  have j3:=F.next
  have i2:cW va A:=λid i m c e e2=>(ne _ _ _ _ e).2 e2.symm
  have ap2:cW va a:=λid i m c e e2=>(ne _ _ _ _ e).1 e2.symm
  have i7:=a8.next
  have e4:a6.get A=cE [va]:=by rw[F.old A om i2,P.get A om];exact c1
  have c3:a6.get a=some (.loop (pF r)):=by rw[F.old a om ap2,P.get a om];exact g9
  have i0:(K:H)->(y:V)->dY (cE [va]) K A 0 [y]=some (K.set A (cE [y])):=λK y=>bE siM K _ _
  refine iG g8 e4 i0 ?_
  obtain⟨Z,N⟩: ∃Z,Z=(a6.set A (cE [.sl f.next 0 (k+1) (.un 1)])).set a (some (.loop r)):=⟨_,rfl⟩
  have d4:A≠a:=om
  have Q: ∀q,q≠A->q≠a->Z.get q=a6.get q:=λq h1 s=>by rw[N,H.Cj _ s,H.Cj _ h1]
  have j7:Z.next=a6.next:=by rw[N];rfl
  refine pQ iS c9 (by rw[H.Cj _ (Ne.symm d4)];exact c3) ?_
  rw[<-N]
  have d3: ∀q,q<K.next-> ¬W q->Z.get q=K.get q:=λq h1 s=>by
   rw[Q q (λe=>s (e▸j.wA)) (λe=>s (e▸j.w2)),F.old q om (λid i m c e e2=>s (e2▸mw _ (bl _ _ _ _ e))),P.get q om,o9 q (λe=>s (e▸j.w2))]
  refine⟨λq=>W q\/q=f.next\/q=i5,λq h1 s=>by rcases s with s|s|s;exact s;omega;omega,λq h=>by rcases h with h|h|h;have:=i3 q h;omega;omega;omega,⟨om,d3⟩,.inl ⟨rfl,?_⟩⟩
  refine⟨⟨.sl f.next 0 (k+1) (.un 1),ws++ [b7],λq=>M q\/q=f.next,by rw[N,H.Cj _ d4,H.aJ],?_,?_,λid i m c e=>by cases e;exact .inr rfl,λq h=>by rcases h with h|h;exact .inl (mw q h);exact .inr (.inl h),λq h=>by rcases h with h|h;have:=mn q h;omega;omega,.inl mA,λid i m c e=>by cases e;exact⟨om,om⟩⟩,
   by rw[N,H.aJ],.inl j.wA,.inl j.w2,?_,?_,om,om,?_⟩
  .exact (F.own (b:=a+1) om rfl om).mono om λid i m c e h1 s=>by cases e;exact Q _ om om
  .rw[iW [] hk,hx]
   have b8:(q:Nat)->(o:Option Ob)->q<K.next-> ¬M q->q≠a->Z.get q=K.get q:=λq _ h1 s h3=>by
    rw[Q q (λe=>s (e▸mA)) h3,F.old q om (λb1 i m c e e2=>s (e2▸bl _ _ _ _ e)),P.get q om,o9 q h3]
   have e7: ∀q z,K.get q=cE z->q≠a:=λq z h e=>by rw[e,j.gr] at h;cases h
   refine (el.mono λw z ⟨id,e6,e,q1,q2,q3,q4,q5⟩=>⟨id,e6,e,.inl q1,(λh=>by rcases h with h|h;exact q2 h;omega),q3,om,(by rw[b8 id none q4 q2 (e7 _ _ q5)];exact q5)⟩).append ⟨⟨i5,c5,by rw[ev,bD],.inr (.inr rfl),λh=>by rcases h with h|h;have:=mn i5 h;omega;omega,om,om,?_⟩,trivial⟩
   rw[Q i5 om om,F.old i5 om (λb1 i m c e e2=>by have:=mn _ (bl _ _ _ _ e);omega),a5 i5 om]
   exact a3
  .rw[Q _ om om,F.old _ om (λb1 i m c e e2=>by have:=(ow.in _ _ _ _ e).2.1;omega),P.get _ om,o9 _ om];exact j.g1
  .rw[Q _ om om,F.old _ om (λb1 i m c e e2=>by have:=(ow.in _ _ _ _ e).2.1;omega),P.get _ om,o9 _ om];exact j.g2
  .refine⟨by have:=j.fr.next;omega,λq hq=>?_⟩
   have:=j.fr.next
   rw[Q q om om,F.old q om (λb1 i m c e e2=>by have:=(ow.in _ _ _ _ e).2.1;omega),P.get q om,o9 q om]
   exact j.fr.get q hq
 .rintro _ J ⟨W2,a1,a2,F9,j|hf⟩
  case inr=>exact hf.elim
  rw[hL,List.take_length] at j
  obtain⟨va,ws,M,gA,ow,el,bl,mw,mn,mA,ne⟩:=j.ex
  have nx:=j.nx
  have nA:=j.nA
  have pt:(K:H)->(id:Nat)->(u w:V)->dY (cE [u]) K id 0 [w]=some (K.set id (cE [w])):=λK id u w=>bE siM K _ _
  refine⟨r,j.gr,by rw[iS];simp,?_⟩
  have en:r.pend.getD .norm= .norm:=by rw[c9];rfl
  rw[en]
  obtain⟨d,a9⟩: ∃d,d=J.set a (some (.loop {r with st:= .out})):=⟨_,rfl⟩
  have a0: ∀q,q≠a->d.get q=J.get q:=λq hq=>by rw[a9,H.Cj _ hq]
  have i7:d.next=J.next:=by rw[a9];rfl
  have a7:d.get A=cE [va]:=by rw[a0 _ om];exact gA
  have d9:d.get (B+1)=cE [.aH]:=by rw[a0 _ om];exact j.g1
  have d7:d.get (B+1+1)=cE [aC 0]:=by rw[a0 _ om];exact j.g2
  rw[<-a9]
  simp(disch:=omega)only[go_sem,H.cell_of a7,d9,d7,pt,eH ow.sv.cT.1 ow.sv.cT.2.1]
  obtain⟨f,l⟩: ∃f,f=(d.set (B+1) (cE [va])).set (B+1+1) (cE [aC 0]):=⟨_,rfl⟩
  rw[<-l]
  have a5: ∀q,q≠B+1->q≠B+1+1->f.get q=d.get q:=λq h1 s=>by rw[l,H.Cj _ s,H.Cj _ h1]
  have g6:f.next=d.next:=by rw[l];rfl
  have hn:=j.fr.next
  refine⟨va,rfl,⟨ws,λq=>M q\/q<h.next,?_,?_,λid i n c e=> .inl (bl _ _ _ _ e),λq h=> .inr h⟩,⟨om,λq hq=>?_⟩⟩
  .refine (ow.mono om λid i m c e h1 _=>?_).le om
   rw[a5 id om om,a0 id om]
  .rw[hL]
   refine bH.mono (R:=akV W2 M (a+1) J) (λw z hw=>?_) el
   have⟨id,e6,e,q1,q2,q3,q4,q5⟩:=hw
   rw[e]
   exact⟨SV.all (by rw[aE,bD,jP]) om (by rw[a5 id om om,a0 id om];exact q5) _,λh=>by rcases h with h|h;exact q2 h;omega⟩
  .rw[a5 q om om,a0 q om]
   exact j.fr.get q hq
section
variable {a:List Nat} {i n:Nat}
theorem ahE {g:Nat}(k:T g=some Be.fn)(a b:Nat)(h:H)(u:a<1000000)(r:b<1000000):Ev T g [aC a,aC b] h (λv h'=>v= aC (Nat.gcd a b:Nat)/\Fr h h'):=by
 refine vZ k rfl ?_;simp(disch:=omega)only[go_sem,Be,aV];refine aP (λc d m=> ∃(x y:Nat),(∃g:Nat->V,d= [aC x,aC y,g 2,g 3])/\x<1000000/\y<1000000/\Nat.gcd x y=Nat.gcd a b/\Fr h m/\c=y) b
  ⟨a,b,aD rfl,u,r,rfl,Fr.refl h,rfl⟩ ?_
 rintro c d m ⟨x,y,⟨g,rfl⟩,z,q,o,F,t⟩;subst t
 by_cases f:(0:Int)<(c:Int)
 .have l:=cV f
  have w:(c:Int)≠0:=om
  have s:(x:Int).tmod (c:Int)=((x%c:Nat):Int):=Bv x c;have j:=Nat.mod_lt x (show c>0 by omega);refine iG l w s ?_;exact⟨x%c,j,c,x%c,aD rfl,q,om,by rw[Nat.gcd_comm,<-Nat.gcd_rec,Nat.gcd_comm];exact o,F.cU om,rfl⟩
 .have l:=bZ f
  obtain rfl:c=0:=om
  refine bM l ?_;rw[<-o,Nat.gcd_zero_right];exact⟨rfl,F⟩
open Classical in
noncomputable def Mt (a:List Nat)(i s j:Nat):Bool:=decide ((∃i0,i0<i/\ ∃t,it a t i0=j)\/ ∃t,t<s/\it a t i=j)
theorem nV {s j:Nat}:Mt a i s j=true↔(∃i0,i0<i/\ ∃t,it a t i0=j)\/ ∃t,t<s/\it a t i=j:=by classical unfold Mt;simp only[decide_eq_true_eq]
theorem TB (a:List Nat)(j:Nat):Mt a 0 0 j=false:=by
 rw[<-Bool.not_eq_true,nV];rintro (⟨b,h,_⟩|⟨t,h,_⟩)<;>omega
theorem WX (a:List Nat)(i s j:Nat):Mt a i (s+1) j=if j=it a s i then true else Mt a i s j:=by
 by_cases e:j=it a s i
 .rw[aS e,nV];exact .inr ⟨s,om,e.symm⟩
 .rw[aQ e,Ri,nV,nV]
  constructor
  .rintro (h|⟨t,c,b⟩)
   .exact .inl h
   .exact .inr ⟨t,by have:t≠s:=λe2=>e (by rw[<-e2];exact b.symm);omega,b⟩
  .rintro (h|⟨t,c,b⟩)
   .exact .inl h
   .exact .inr ⟨t,om,b⟩
theorem YH (A:bJ n a)(hi:i<n)(j:Nat):Mt a i (uP a i) j=Mt a (i+1) 0 j:=by
 rw[Ri,nV,nV];constructor
 .rintro (⟨c,d,b⟩|⟨t,d,b⟩)
  .exact .inl ⟨c,om,b⟩
  .exact .inl ⟨i,om,t,b⟩
 .rintro (⟨c,d,t,b⟩|⟨t,d,_⟩)
  .by_cases e:c=i
   .subst e;exact .inr ⟨t%uP a c,Nat.mod_lt _ (mX A hi).1,by rw[<-AQ A hi];exact b⟩
   .exact .inl ⟨c,om,t,b⟩
  .omega
theorem QG (A:bJ n a)(hi:i<n)(h: ¬nX a n i)(j:Nat):Mt a i 0 j=Mt a (i+1) 0 j:=by
 have b: ∃c,c<i/\ ∃t,it a t c=i:=zL λo=>h ((Ez A hi).2 λc k t e=>o ⟨c,k,t,e⟩)
 obtain⟨c,m,q,l⟩:=b;rw[Ri,nV,nV];constructor
 .rintro (⟨d,f,b⟩|⟨t,f,_⟩)
  .exact .inl ⟨d,om,b⟩
  .omega
 .rintro (⟨d,f,t,b⟩|⟨t,f,_⟩)
  .by_cases e:d=i
   .subst e;exact .inl ⟨c,m,q+t,by rw[tI,l];exact b⟩
   .exact .inl ⟨d,om,t,b⟩
  .omega
theorem FQ (A:bJ n a){s:Nat}(hi:i<n)(f:nX a n i)(o:s<=uP a i):(Mt a i s (it a s i)=false↔s<uP a i):=by
 obtain⟨l,j,m⟩:=mX A hi;constructor
 .intro h
  refine zL λq=>?_
  have e:s=uP a i:=om
  subst e;rw[j] at h;have:Mt a i (uP a i) i=true:=nV.2 (.inr ⟨0,l,rfl⟩);rw[h] at this;cases this
 .intro h
  rw[<-Bool.not_eq_true,nV];rintro (⟨d,c,t,b⟩|⟨t,c,b⟩)
  .obtain⟨u,k⟩:=Is A hi s
   have:=(Ez A hi).1 f d c (t+u);rw[tI,b,k] at this;exact this rfl
  .have:=afU A hi (show t<uP a i by omega) h b
   omega
theorem ZT (A:bJ n a)(hi:i<n)(c: ¬nX a n i):Mt a i 0 i=true:=by
 have f: ∃b,b<i/\ ∃t,it a t b=i:=zL λh=>c ((Ez A hi).2 λb d t e=>h ⟨b,d,t,e⟩)
 exact nV.2 (.inl f)
theorem Pz (hi:i<=n):((Mv a n).filter λj=>decide (j<i))=(open Classical in (List.range i).filter λj=>decide (nX a n j)):=by
 classical
 unfold Mv;have:List.range n=List.range i++(List.range (n-i)).map (i+ ·):=by rw[<-List.range_add];congr 1;omega
 rw[this,List.filter_append,List.filter_append]
 have e2:(((List.range (n-i)).map (i+ ·)).filter λj=>decide (nX a n j)).filter (λj=>decide (j<i))= []:=by
  rw[List.filter_eq_nil_iff];intro x b;obtain⟨y,_,rfl⟩:=oG.1 (Gh.1 b).1;simp
 rw[e2,qH];rw[List.filter_eq_self];intro x b;simpa using mS.1 (Gh.1 b).1
noncomputable def HD (a:List Nat)(n i:Nat):LN:=((Mv a n).filter λj=>decide (j<i)).map (FN a)
theorem EW (a:List Nat)(n:Nat):HD a n n=tK a n:=by
 classical
 unfold HD tK;congr 1;rw[List.filter_eq_self];intro x b;unfold Mv at b;simpa using mS.1 (Gh.1 b).1
theorem Cm (hi:i<n):(nX a n i->HD a n (i+1)=HD a n i++ [FN a i])/\(¬nX a n i->HD a n (i+1)=HD a n i):=by
 classical
 unfold HD;rw[Pz (show i+1<=n by omega),Pz (show i<=n by omega),List.range_succ,List.filter_append];constructor
 .intro h
  rw[show ([i]:List Nat).filter (λj=>decide (nX a n j))= [i] by simp [h],List.map_append];rfl
 .intro h
  rw[show ([i]:List Nat).filter (λj=>decide (nX a n j))= [] by simp [h],qH]
theorem ZR: ∀i,i<=n->HD a n i<+:tK a n:=by
 intro i hi
 obtain⟨d,f⟩: ∃d,i+d=n:=⟨n-i,om⟩
 induction d generalizing i with
 |zero=>
      have:i=n:=om
      subst this;rw[EW];exact List.prefix_rfl
 |succ d ih=>
  have b:=ih (i+1) om om
  by_cases c:nX a n i
  .rw[(Cm om).1 c] at b
   exact (List.prefix_append _ _).trans b
  .rw[(Cm om).2 c] at b
   exact b
theorem PW (a:List Nat)(n:Nat):HD a n 0= []:=by
 unfold HD;rw[show (Mv a n).filter (λj=>decide (j<0))= [] by rw[List.filter_eq_nil_iff];intro x _;simp];rfl
theorem XD {α:Type}{l m:List α}(h:l<+:m)(hi:i<l.length)(d:α):m.getD i d=l.getD i d:=by
 obtain⟨t,rfl⟩:=h;rw[List.getD,Aw hi];rfl
theorem CZ (id b:Nat)(va:V)(n:Nat)(a:List Nat)(h:H)(a8:1<=n)(hn:n<=64)(A:bJ n a)(G:Nat)(b1:G<=h.next)(a9:b<G)(hb:h.get b=some (.cells false [va]))(b3:b<h.next)(hv:SI h va (zi a))(J:Nat->H->Prop)(h0:J 0 h)
  (kJ: ∀k hh h',J k hh->hh.next<=h'.next->(∀q,q<G->h'.get q=hh.get q)->J k h') (jb: ∀k hh,J k hh->hh.get b=some (.cells false [va])/\SI hh va (zi a))
  (hy: ∀k hh v,k<(tK a n).length->J k hh->SI hh v (zi ((tK a n).getD k []))->G<=hh.next->Ey T id [v] hh (λv h'=>v= .bool true/\J (k+1) h'/\Fx (λq=>q<G) hh h')):
  Ev T 177 [.yl id,.ptr b 0] h (λ_ h'=>J (tK a n).length h'):=by
 obtain⟨S,hS⟩:=exI h.next
 obtain⟨h1,e1,n1,g1,o1,f1⟩:=iI hS (rc 64 λ_=>V.bool false)
 have a0:=H.cell_of (h:=h1) (id:=b) (by rw[o1 _ om];exact hb)
 have O:=hv.lens
 rw[bD,A.len] at O
 refine alP @EU hS e1 a0 O ?_
 have a5:h1.get S=some (.cells false (rc 64 λj=> .bool (Mt a 0 0 j))):=by
  rw[g1,show (λj=>V.bool (Mt a 0 0 j))=λ_=>V.bool false from funext λj=>by rw[TB]]
 refine aP (λP o hh=> ∃(i:Nat),(∃g:Nat->V,o= [.yl id,.ptr b 0,.ptr S 0,g 3,g 4,g 5,aC n,aC i,g 8,g 9,g 10])/\i<=n/\J (HD a n i).length hh/\hh.get S=some (.cells false (rc 64 λj=> .bool (Mt a i 0 j)))/\S<hh.next/\P=n-i) n
  ⟨0,aD rfl,fY _,by rw[PW];exact kJ _ _ _ h0 f1.next (λq hq=>o1 q om),a5,om,rfl⟩ ?_
 rintro P o h2 ⟨i,⟨g,rfl⟩,hi,r,w,y,rfl⟩
 by_cases Q:(i:Int)<(n:Int)
 case neg=>
  have d1:=bZ Q;obtain rfl:i=n:=om
  refine bM d1 ?_;rw[EW] at r;exact r
 have d1:=cV Q
 have l:i<n:=om
 refine bM d1 ?_
 obtain⟨p0,p1,p2⟩:=mX A l
 have b2:=CP A l
 refine dG (λvs hh=> ∃(u:V) (c:List Nat),(∃g:Nat->V,vs= [.yl id,.ptr b 0,.ptr S 0,g 3,u,g 5,aC n,aC i,g 8,g 9,g 10])/\dF hh u 1 (ints (zi c)) (S+1)/\(nX a n i/\c=FN a i\/ ¬nX a n i/\c= [])/\
   J (HD a n i).length hh/\hh.get S=some (.cells false (rc 64 λj=> .bool (Mt a (i+1) 0 j)))/\S<hh.next) ?_ ?_
 .refine aP (λP vs hh=> ∃(s:Nat) (u:V),(∃g:Nat->V,vs= [.yl id,.ptr b 0,.ptr S 0,g 3,u,aC (it a s i:Nat),aC n,aC i,g 8,g 9,g 10])/\s<=uP a i/\(0<s->nX a n i)/\dF hh u 1 (ints (zi ((List.range s).map λt=>it a t i))) (S+1)/\
    J (HD a n i).length hh/\hh.get S=some (.cells false (rc 64 λj=> .bool (Mt a i s j)))/\S<hh.next/\P=uP a i-s) (uP a i)
   ⟨0,.aH,aD rfl,fY _,λh=>om,dF.aH _ _ _,r,w,y,rfl⟩ ?_
  clear r w y
  rintro P o K ⟨s,u,⟨g,rfl⟩,hs,hf,F,r,w,y,rfl⟩
  have hp:=Dz A l s
  have cS:=vD w (i:=it a s i) om
  cases hsn:Mt a i s (it a s i) with
  |true=>
   rw[hsn] at cS;refine bM cS ?_
   by_cases f:nX a n i
   .have e:s=uP a i:=zL λL=>by
     have:=(FQ A l f hs).2 om;rw[hsn] at this;cases this
    refine⟨u,FN a i,aD rfl,by rw[e] at F;exact F,.inl ⟨f,rfl⟩,r,?_,y⟩;rw[w,e];congr 2;exact bW λj _=>by rw[YH A l]
   .have e:s=0:=zL λL=>f (hf om)
    subst e;refine⟨u, [],aD rfl,F,.inr ⟨f,rfl⟩,r,?_,y⟩;rw[w];congr 2;exact bW λj _=>by rw[QG A l f]
  |false=>
   rw[hsn] at cS
   have f:nX a n i:=zL λf=>by
    have e:s=0:=zL λL=>f (hf om)
    subst e;have:=ZT A l f;have h2:Mt a i 0 i=false:=hsn;rw[h2] at this;cases this
   have a7:=(FQ A l f hs).1 hsn;have pt:=bE (vs:=rc 64 λj=> .bool (Mt a i s j)) (off:=it a s i) (by rw[dE];omega);obtain⟨h4,e4,n4,g4,o4⟩:=xN K S ((rc 64 λj=> .bool (Mt a i s j)).set (it a s i) (.bool true));obtain⟨h5,e5,n5,g5,o5,f5⟩:=iI (h:=h4) (ID:=K.next) n4 [aC (it a s i:Nat)];have a1:dF h5 u 1 (ints (zi ((List.range s).map λt=>it a t i))) (S+1):=F.mono om λk off m c e h1 h2=>by rw[o5 k om,o4 k om]
   obtain⟨h6,a6,p6⟩:=a1.push (bytes:=8) (SV.one (v:= aC (it a s i:Nat)) (id:=K.next) om g5 (.kn 1)) (n:=s) (m:=1) (by rw[aE,bD];simp) rfl om om om;have n6:=p6.next;have ap: ∀q,q<=S->cW u q:=λq hq k off m c e e2=>by have:=(F.in _ _ _ _ e).2.1;omega
   have o6: ∀q,q<G->h6.get q=K.get q:=λq hq=>by rw[p6.old q om (ap q om),o5 q om,o4 q om]
   have J6:=kJ _ _ h6 r om o6;obtain⟨a4,a3⟩:=jb _ _ J6;obtain⟨idx,U,R,W,N⟩:=a3.open;rw[bD,A.len] at R W N
   have cx:h6.cell idx (U+it a s i)=some (aC (it a (s+1) i:Nat)):=by
    rw[N _ hp];congr 2;rw[zi,mZ _ (d:=0) (by rw[A.len];exact hp)];rfl
   simp(disch:=omega)only[go_sem,cS,w,pt,e4,dL h4 (z:= aC 0) (v:= aC (it a s i:Nat)) rfl rfl,n4,e5,a6,H.cell_of a4,R.ixa,cx]
   have a2:h6.get S=some (.cells false (rc 64 λj=> .bool (Mt a i (s+1) j))):=by
    rw[p6.old S om (ap S (dN _)),o5 S om,g4,iQ];congr 2
    exact bW λj _=>by
     rw[WX]
     by_cases e:j=it a s i
     .rw[aS e,aS e]
     .rw[aQ e,aQ e]
   have el:ints (zi ((List.range (s+1)).map λt=>it a t i))=ints (zi ((List.range s).map λt=>it a t i))++ [aC (it a s i:Nat)]:=by
    rw[List.range_succ,List.map_append];simp [zi,ints]
   refine⟨uP a i-(s+1),om,s+1,_,aD rfl,om,λ_=>f,by rw[el];exact p6.own (by rw[aE,bD];simp) rfl om,J6,a2,om,rfl⟩
 clear r w y
 rintro o K ⟨u,c,⟨g,rfl⟩,F,hc,r,w,y⟩
 have Y:=dF.lens F (n:=c.length) (by rw[aE,bD])
 rcases hc with ⟨f,rfl⟩|⟨f,rfl⟩
 .have d2:decide ((0:Int)<((FN a i).length:Int))=true:=cV (by rw[yS];omega)
  have x:=ZR (a:=a) (n:=n) (i+1) om
  have Z:=(Cm l).1 f
  rw[Z] at x
  have hg:(tK a n).getD (HD a n i).length []=FN a i:=by rw[XD x siM];exact jS
  have B:=x.length_le
  rw[eE] at B
  refine eZ Y d2 ?_
  refine (hy _ K u (by simp at B;omega) r (by rw[hg];exact F.sv) om).mono ?_
  rintro _ h4 ⟨rfl,J4,f4⟩
  refine aT ?_
  rw[fJ i]
  refine⟨n-(i+1),om,i+1,aD rfl,om,by rw[Z,eE];exact J4,by rw[f4.get S y (λh=>by have:S<G:=h;omega)];exact w,iD y f4.next,rfl⟩
 .have d2:decide ((0:Int)<((0:Nat):Int))=false:=rfl
  refine eZ Y d2 ?_
  rw[fJ i]
  exact⟨n-(i+1),om,i+1,aD rfl,om,by rw[(Cm l).2 f];exact r,w,y,rfl⟩
end
theorem WM (u:V)(ws:List V)(n:Nat)(h:H)(O:1<=n)(Y:n<=64)(U:ws.length<1000000)(L:SV h u 1 ws)(A: ∀i,i<ws.length-> ∃a,bJ n a/\SI h (ws.getD i .undef) (zi a)):Ev T 116 [u] h (λv h'=>v= aC 0/\Fr h h'):=by
 have K:dD u=some (aC (ws.length:Int)):=by unfold dD;rw[SV.len L (n:=ws.length) om om];rfl
 obtain⟨id,d,z,q,y⟩:=SV.shape L ws.length om om;have r: ∀i:Nat,i<ws.length->h.cell id (d+i)=some (ws.getD i .undef):=λi hi=>by rw[y i om];simp [List.getD,hi]
 refine pM K ?_;refine dG (λk m=>(∃g:Nat->V,k= [u,aC 0,g 2,g 3,g 4,g 5,g 6,g 7,g 8,g 9,g 10,g 11,g 12,g 13,g 14])/\Fr h m) ?_ ?_
 .refine aP (λx k m=> ∃(i:Nat),(∃g:Nat->V,k= [u,aC 0,g 2,g 3,g 4,u,aC (ws.length:Int),aC i,g 8,g 9,g 10,g 11,g 12,g 13,g 14])/\i<=ws.length/\Fr h m/\x=ws.length-i) ws.length
   ⟨0,aD rfl,fY _,Fr.refl h,rfl⟩ ?_
  rintro x c s ⟨i,⟨g,rfl⟩,hi,f,rfl⟩
  by_cases b:(i:Int)<(ws.length:Int)
  .have o:=cV b
   have l:i<ws.length:=om
   have ci:s.cell id (d+i)=some (ws.getD i .undef):=by rw[f.cell (q om),r i om]
   obtain⟨a,X,w⟩:=A i l;generalize ws.getD i .undef=F at ci w;refine iG o @z.ixa ci ?_;refine (zX F _ s (by rw[bD,X.len];omega) (w.mono f)).mono ?_;rw[ahT X om om];rintro _ P ⟨rfl,Q⟩;refine aT ?_;refine bV (λr=>(r rfl).elim) (λ_=>?_);refine aT ?_;rw[fJ i];exact⟨ws.length-(i+1),om,i+1,aD rfl,om,f.trans Q,rfl⟩
  .have o:=bZ b
   refine bM o ?_;exact⟨aD rfl,f⟩
 rintro c s ⟨⟨g,rfl⟩,f⟩;refine bM K ?_;refine dG (λk m=>(∃g:Nat->V,k= [u,aC 0,g 2,g 3,g 4,g 5,g 6,g 7,g 8,g 9,g 10,g 11,g 12,g 13,g 14])/\Fr h m) ?_ ?_
 .refine aP (λx k m=> ∃(i:Nat),(∃g:Nat->V,k= [u,aC 0,g 2,g 3,g 4,g 5,g 6,g 7,g 8,g 9,u,aC (ws.length:Int),aC i,g 13,g 14])/\i<=ws.length/\Fr h m/\x=ws.length-i) ws.length
   ⟨0,aD rfl,fY _,f,rfl⟩ ?_
  clear f;rintro x c s ⟨i,⟨g,rfl⟩,hi,f,rfl⟩
  by_cases b:(i:Int)<(ws.length:Int)
  .have o:=cV b
   have l:i<ws.length:=om
   have ci:s.cell id (d+i)=some (ws.getD i .undef):=by rw[f.cell (q om),r i om]
   have B:s.cell id (d+0)=some (ws.getD 0 .undef):=by rw[f.cell (q om),r 0 om]
   obtain⟨a,X,w⟩:=A i l;obtain⟨R,N,t⟩:=A 0 om;generalize ws.getD i .undef=F at ci w;generalize ws.getD 0 .undef=W at B t;have J:=w.lens;have G:=t.lens;rw[bD,X.len] at J;rw[bD,N.len] at G;have j:Ci 1 u (aC 0)=some (.ptr id (d+0)):=z.ixa .i64 0 om om;rw[Nat.add_zero] at j B;refine Ie o @z.ixa ci j B J G ?_;refine bV (λr=>(r rfl).elim) (λ_=>?_);refine aT ?_;rw[fJ i];exact⟨ws.length-(i+1),om,i+1,aD rfl,om,f,rfl⟩
  .have o:=bZ b
   refine bM o ?_;exact⟨aD rfl,f⟩
 rintro c P ⟨⟨g,rfl⟩,f⟩;refine aT ?_;exact f
theorem Cw (l:List Nat)(k:Nat):pZ (l.take k)∣pZ l:=(tX _ _).2 λc a=>(tX l _).1 (Nat.dvd_refl _) c (List.mem_of_mem_take a)
theorem zU (l:List Nat)(k:Nat)(a:k<l.length):pZ (l.take (k+1))=pZ (l.take k)/Nat.gcd (pZ (l.take k)) (l.getD k 0)*l.getD k 0:=by
 unfold pZ;rw[iW 0 a,List.foldl_append];rfl
structure OrJ (h:H)(A b id2:Nat)(va:V)(a:List Nat)(r:dP)(m:Nat)(hh:H):Prop where
 gr:hh.get id2=some (.loop r)
 gA:hh.get A=cE [aC m]
 gb:hh.get b=cE [va]
 si:SI hh va (zi a)
 nx:id2<hh.next
 fr:Fr h hh
theorem MZ (a:V)(h:H)(i:a.cells= [a])(on:a.one=true):Ev T 117 [a] h (λv h'=> ∃b,v= .fn 177 [] [.ptr b 0]/\b=h.next/\h'.get b=cE [a]/\h'.next=h.next+1/\Fr h h'):=by
 obtain⟨j,e1,f,c,k,d⟩:=iI (h:=h) rfl [a];refine Hv (mF i on h) e1 ?_;exact⟨h.next,rfl,rfl,c,f,d⟩
theorem PI (F:V)(n:Nat)(a:List Nat)(h:H)(a2:1<=n)(hn:n<=20)(ho:fC a n<=823543)(A:bJ n a)(Q:SI h F (zi a)):
  Ev T 77 [F] h (λv h'=>v= .tup [aC (fC a n:Nat),aC 0]/\Fr h h'):=by
 obtain⟨S,hS⟩:=exI h.next
 obtain⟨h1,e1,n1,g1,o1,f1⟩:=iI hS [F]
 have on:=(SV.cT Q).2.1
 refine XL (dL h (z:= .aH) (v:=F) (SV.cT Q).1 on) hS e1 ?_
 have b8: ∀i,i< [F].length-> ∃a,bJ n a/\SI h1 ([F].getD i .undef) (zi a):=λi hi=>by
  obtain rfl:i=0:=by simp at hi;omega
  exact⟨a,A,Q.mono f1⟩
 refine (WM (.sl S 0 1 (.kn 1)) [F] n h1 a2 om siM (SV.one om g1 _) b8).mono ?_
 rintro _ R ⟨rfl,f2⟩
 refine aT ?_
 refine bV (λhc=>(hc rfl).elim) (λ_=>?_)
 obtain⟨B,hB⟩:=exI R.next
 obtain⟨h3,e3,n3,g3,o3,f3⟩:=iI hB [aC 0]
 obtain⟨h4,e4,n4,g4,o4⟩:=xN h3 B [aC 1]
 have b4:(x:H)->(y:V)->dY (cE [aC 0]) x B 0 [y]=some (x.set B (cE [y])):=λx y=>bE siM x _ _
 refine nW hB e3 g3 b4 e4 ?_
 refine (MZ F h4 (SV.cT Q).1 on).mono ?_
 rintro _ h5 ⟨b,rfl,hb,g5,n5,f5⟩
 refine aT ?_
 refine⟨rfl,sJ λr hr=>?_⟩
 obtain⟨o,U⟩:=exI h5.next
 rw[U]
 have iS:r.st= .ready:=by rw[hr]
 have b2:r.pend=none:=by rw[hr]
 obtain⟨P,O⟩: ∃P,P=h5.new (.loop r):=⟨_,rfl⟩
 have c2:P.get o=some (.loop r):=by rw[O,<-U,H.aI]
 have n6:P.next=o+1:=by rw[O,H.aM,U]
 have f6:Fr h5 P:=by rw[O];exact (Fr.refl h5).new _
 rw[<-O]
 have F2:=f1.trans f2
 have F3:=F2.trans f3
 have hs:=F2.next
 have F4:Fr h h4:=⟨by rw[n4];exact F3.next,λq w=>by rw[o4 q om];exact F3.get q w⟩
 have F6:=(F4.trans f5).trans f6
 have c3:o=b+1:=om
 have b5:P.get B=cE [aC 1]:=by rw[f6.get _ om,f5.get _ om];exact g4
 have a7:P.get b=cE [F]:=by rw[f6.get _ om];exact g5
 have J0:OrJ h B b o F a r (pZ (((tK a n).map List.length).take 0)) P:=⟨c2,b5,a7,Q.mono F6,om,F6⟩
 refine (CZ o b F n a P a2 om A (o+1) om om a7 om (Q.mono F6) (λk x=>OrJ h B b o F a r (pZ (((tK a n).map List.length).take k)) x) J0
  (λk x h' j hx w=>⟨by rw[w _ om];exact j.gr,by rw[w _ om];exact j.gA,by rw[w _ om];exact j.gb,Q.mono ⟨kQ j.fr.next hx,λq a0=>by rw[w _ om];exact j.fr.get q a0⟩,iD j.nx hx,⟨kQ j.fr.next hx,λq a0=>by rw[w _ om];exact j.fr.get q a0⟩⟩)
  (λk x j=>⟨j.gb,j.si⟩) ?_).mono ?_
 .intro k x v hk j a4 c8
  obtain⟨m,hm⟩:=exI (pZ (((tK a n).map List.length).take k))
  obtain⟨c,W⟩:=exI ((tK a n).getD k [])
  have a3:((tK a n).map List.length).getD k 0=c.length:=by rw[mZ _ (d:= []) hk,W]
  have b7:k<((tK a n).map List.length).length:=by rw[dO];exact hk
  have J:=zU ((tK a n).map List.length) k b7
  rw[hm,a3] at J
  have hp:=rP A
  have a8:=ho
  have c7:m<=823543:=kQ (by rw[<-hm];exact Nat.le_of_dvd hp (Cw _ k)) a8
  have b0:pZ (((tK a n).map List.length).take (k+1))<=823543:=kQ (Nat.le_of_dvd hp (Cw _ (k+1))) a8
  have c4:1<=c.length/\c.length<=20:=by
   have:=bF (l:=tK a n) (d:= []) hk;rw[W] at this;obtain⟨i,hi,rfl⟩:=oG.1 this;have b1:i<n:=by unfold Mv at hi;exact mS.1 (Gh.1 hi).1
   rw[yS];have:=(mX A b1).1;have:=CP A b1;omega
  rw[W] at a4
  have lv:=a4.lens
  rw[bD] at lv
  rw[hm] at j
  refine pP j.gr (by rw[hr];rfl) iS λN g9 n9 o9=>?_
  rw[congrArg dP.assign hr,congrArg dP.vars hr,congrArg dP.pars hr]
  simp(disch:=omega)only[go_sem,List.zip_cons_cons,List.zip_nil_left]
  rw[congrArg dP.body hr]
  have nx:=j.nx
  have a6:N.get B=cE [aC m]:=by rw[o9 _ om];exact j.gA
  simp(disch:=omega)only[go_sem,H.cell_of a6,lv]
  refine (ahE Be.ok m c.length _ om om).mono ?_
  rintro _ f ⟨rfl,a9⟩
  have b3:N.next+10<=f.next:=a9.next
  have t: ∀q,q<N.next->f.get q=N.get q:=λq w=>a9.get q (by show q<N.next+10;omega)
  have u:f.get B=cE [aC m]:=by rw[t _ om];exact a6
  obtain⟨G,hG⟩:=exI (Nat.gcd m c.length)
  rw[hG] at J
  rw[hG]
  have c5:0<G:=by rw[<-hG];exact Nat.gcd_pos_of_pos_right _ om
  have c0:(G:Int)≠0:=om
  have a5:(m:Int).tdiv (G:Int)=((m/G:Nat):Int):=by rw[Int.tdiv_eq_ediv_of_nonneg om];rfl
  have c1:m/G<=m:=Nat.div_le_self _ _
  have Z:((m/G:Nat):Int)*(c.length:Int)=((pZ (((tK a n).map List.length).take (k+1)):Nat):Int):=by rw[J,Int.natCast_mul]
  generalize pZ (((tK a n).map List.length).take (k+1))=m2 at Z b0 J
  generalize m/G=q at a5 c1 Z J
  have pt:(x:H)->(y:V)->dY (cE [aC m]) x B 0 [y]=some (x.set B (cE [y])):=λx y=>bE siM x _ _
  simp(disch:=omega)only[go_sem,c0,a5,Z,lv,H.cell_of u,u,pt]
  refine pQ iS b2 (by rw[H.Cj _ om];rw[t _ om];exact g9) ?_
  obtain⟨K,s⟩: ∃K,K=(f.set B (cE [aC m2])).set o (some (.loop r)):=⟨_,rfl⟩
  rw[<-s]
  have c6:K.next=f.next:=by rw[s];rfl
  have Y: ∀q,q≠B->q≠o->K.get q=f.get q:=λq h1 R=>by rw[s,H.Cj _ R,H.Cj _ h1]
  have b6:=j.fr.next
  have a1:Fr h K:=⟨om,λq w=>by rw[Y q om om,t q om,o9 q om];exact j.fr.get q w⟩
  exact⟨rfl,⟨by rw[s,H.aJ],by rw[s,H.Cj _ om,H.aJ],by rw[Y b om om,t b om,o9 b om];exact j.gb,Q.mono a1,om,a1⟩,⟨om,λq h1 R=>by rw[Y q (λe=>R om) (λe=>R om),t q om,o9 q (λe=>R om)]⟩⟩
 .rintro _ N j
  rw[show (tK a n).length=((tK a n).map List.length).length from (dO _).symm,List.take_length] at j
  have b0:fC a n<=823543:=ho
  have j':OrJ h B b o F a r (fC a n) N:=j
  refine⟨r,j'.gr,by rw[iS];simp,?_⟩
  have en:r.pend.getD .norm= .norm:=by rw[b2];rfl
  rw[en]
  obtain⟨f,L⟩: ∃f,f=N.set o (some (.loop {r with st:= .out})):=⟨_,rfl⟩
  have t: ∀q,q≠o->f.get q=N.get q:=λq w=>by rw[L,H.Cj _ w]
  have b3:f.next=N.next:=by rw[L];rfl
  have u:f.get B=cE [aC (fC a n:Nat)]:=by rw[t _ om];exact j'.gA
  have b6:=j'.fr.next
  have b9:Fr h f:=⟨om,λq w=>by rw[t q om];exact j'.fr.get q w⟩
  rw[<-L]
  simp(disch:=omega)only[go_sem,H.cell_of u]
  exact b9
theorem OU (h:H)(n:Nat)(a:n<=100000):sD h 1 1 [.int .u8 0] (aC n) (aC n)=some (.sl h.next 0 n (.kn n),h.new (.cells false (rc n λ_=> .int .u8 0))):=by
 rw[iH om (Int.le_refl _) om om,Mc,jP]
 have e:cJ [V.int .u8 0] n=rc n λ_=> .int .u8 0:=by
  symm;refine Dg ?_ λi hi=>?_
  .simp [cJ]
  .simp [cJ,hi,Nat.mod_one]
 rw[e]
theorem Lf: ∀l:List Nat,(∀x∈l,x<256)->rF (l.map λ(x:Nat)=>V.int .u8 (x:Int))=some l
 | [],_=>rfl
 |x::r,h=>by
  have b:=h x siM;show (if 0<=(x:Int)/\(x:Int)<256 then (rF (r.map λ(x:Nat)=>V.int .u8 (x:Int))).map ((x:Int).toNat:: ·) else none)=_;rw[aS ⟨om,om⟩,Lf r λy a=>h y (by simp [a])]
  rfl
theorem Tj (u:V)(a:List Nat)(h:H)(R:a.length<=1000)(z: ∀x∈a,x<256)(K:SI h u (zi a)):
  Ev T 72 [u] h (λv h'=>v= .str a/\Fr h h'):=by
 refine mV ?_
 obtain⟨n,la⟩:=exI a.length
 have J:=K.lens
 rw[bD,la] at J
 obtain⟨id,off,B,s,O⟩:=K.open
 rw[bD,la] at B s O
 simp(disch:=omega)only[go_sem,aV,J,OU h n om]
 have o:Fr h (h.new (.cells false (rc n λ_=> .int .u8 0))):=(Fr.refl h).new _
 have f:(h.new (.cells false (rc n λ_=> .int .u8 0))).get h.next=some (.cells false (rc n λ_=> .int .u8 0)):=H.aI ..
 have c:(h.new (.cells false (rc n λ_=> .int .u8 0))).next=h.next+1:=H.aM ..
 generalize h.new (.cells false (rc n λ_=> .int .u8 0))=Q at*
 obtain⟨S,N⟩:=exI h.next
 rw[N] at f c
 rw[N]
 refine aP (λG b t=> ∃(i:Nat),(∃j:Nat->V,b= [u,j 1,.sl S 0 n (.kn n),j 3,j 4,u,aC n,aC i,j 8])/\i<=n/\
   t.get S=some (.cells false (rc n λj=>if j<i then .int .u8 ((a.getD j 0:Nat):Int) else .int .u8 0))/\t.next=S+1/\Fr h t/\G=n-i) n
  ⟨0,aD rfl,fY _,by rw[f];rfl,c,o,rfl⟩ ?_
 clear f o c
 rintro G b m ⟨i,⟨U,rfl⟩,hi,y,lS,F,rfl⟩
 refine aT ?_
 by_cases l:(i:Int)<(n:Int)
 .rw[cV l]
  have d:i<n:=om
  have ci:m.cell id (off+i)=some (aC (a.getD i 0:Nat)):=by rw[F.cell (s om),O i d];congr 2;simp [zi,la,d]
  have r:=z (a.getD i 0) (bF om)
  generalize P:a.getD i 0=k at ci r
  have A:=bE (vs:=rc n λj=>if j<i then .int .u8 ((a.getD j 0:Nat):Int) else .int .u8 0) (off:=i) (by rw[dE];exact d) m S (.int .u8 (k:Int))
  rw[iQ] at A
  refine nW @B.ixa ci y @rV A ?_
  rw[fJ i]
  refine⟨n-(i+1),om,i+1,aD rfl,om,?_,lS,F.set om _,rfl⟩
  congr 2
  refine bW λj L=>?_
  by_cases e:j=i
  .rw[aS e,aS om,e,P]
  .rw[aQ e]
   by_cases e2:j<i
   .rw[aS e2,aS om]
   .rw[aQ e2,aQ om]
 rw[bZ l]
 obtain rfl:i=n:=om
 have q:m.row S 0 i=some (a.map λ(x:Nat)=>V.int .u8 (x:Int)):=by
  have e:(rc i λj=>if j<i then V.int .u8 ((a.getD j 0:Nat):Int) else .int .u8 0)=a.map λ(x:Nat)=>V.int .u8 (x:Int):=Dg (by rw[dO,la]) λj L=>by
   rw[aS L,Al,dJ om,List.getD,dJ om];rfl
  unfold H.row;rw[y,e];simp only[sub];rw[aS (by rw[dO];omega)];rw[List.drop_zero,Nb (by rw[dO];omega)]
 have w:RQ m (.sl S 0 i (.kn i))=some (.str a):=by
  show (match m.row S 0 i with|some ys=>(rF ys).map V.str|none=>none)=_;rw[q];show (rF (a.map λ(x:Nat)=>V.int .u8 (x:Int))).map V.str=_;rw[Lf a z];rfl
 refine eZ @aaG w ?_
 exact F
section
variable {y x g:List Nat}
section
variable {n:Nat} {G:List Nat->Prop} {O:LN} {R:nZ}
theorem one_le (Y:bJ n y):Le (bI n) y:=by
 by_cases h: ∃k,k<n/\y.getD k 0≠k
 .obtain⟨k,⟨b,o⟩,c⟩: ∃k,(k<n/\y.getD k 0≠k)/\ ∀j,j<k-> ¬(j<n/\y.getD j 0≠j):=by
   obtain⟨k,b⟩:=h
   induction k using Nat.strongRecOn with
   |_ k ih=>
    by_cases l: ∃j,j<k/\(j<n/\y.getD j 0≠j)
    .obtain⟨j,r,q⟩:=l;exact ih j r q
    .exact⟨k,b,λj d s=>l ⟨j,d,s⟩⟩
  have a: ∀j,j<k->y.getD j 0=j:=λj d=>zL λi=>c j d ⟨om,i⟩
  refine .inr ⟨k,by rw[iF];exact b,λj d=>by rw[eG om,a j d],?_⟩;rw[eG b];refine zL λm=>?_
  have f:y.getD k 0<k:=om
  have:=Y.inj om b (a _ f);omega
 .exact .inl ((Fix.all Y λk b=>zL λi=>h ⟨k,b,i⟩).symm)
theorem NN (d:oK n G)(c:eD n G O R){i:Nat}(hi:i<n):0<(R.getD i []).length/\(R.getD i []).getD 0 []=bI n:=by
 have m:i∈O.getD i []:=(c.mem i hi i).2 ⟨bI n,d.one,Fix.one n i om,eG hi⟩;have a:0<(O.getD i []).length:=PC m;have rep:=c.rep i hi 0 a
 have r:(O.getD i []).getD 0 0=i:=by
  have b:(O.getD i []).getD 0 0∈O.getD i []:=bF a;obtain⟨x,s,fx,e⟩:=(c.mem i hi _).1 b
  have o: ¬(O.getD i []).getD 0 0<i:=λf=>by
   have X:=d.cF s;have:=X.inj (i:=(O.getD i []).getD 0 0) (j:=i) om hi (by rw[fx _ f,e]);omega
  obtain⟨k,t,u⟩:=Bj.1 m;have l:=Iz.1 (c.asc i hi);have e0:(O.getD i []).getD 0 0=(O.getD i [])[0]:=Pm.cM a
  by_cases h:k=0
  .subst h;omega
  .have:=l 0 k a t om
   omega
 rw[r] at rep;refine⟨by rw[c.rl i hi];exact a,rep.uniq ⟨d.one,Fix.one n i om,eG hi,λy q _ _=>one_le (d.cF q)⟩⟩
theorem Ke (c:eD n G O R)(a:x∈hH R):G x:=by
 unfold hH at a;obtain⟨r,b,d⟩:=List.mem_flatMap.1 a;exact Gm c x (List.mem_flatten.2 ⟨r,b,List.mem_of_mem_drop d⟩)
theorem BD (d:oK n G)(c:eD n G O R)(m:G x):fG n (λg=>g∈hH R) x:=by
 have h:=(Qe d c x).2 m;have w: ∀g,g∈hH R->bJ n g:=λg b=>d.cF (Ke c b)
 clear m
 induction h with
 |one=>exact .one
 | @mul y g _ b ih=>
  obtain⟨r,l,s⟩:=List.mem_flatten.1 b;obtain⟨i,hi,t⟩:=Bj.1 l;have f:i<n:=by have:=c.lr;omega
  have a:R.getD i []=r:=by rw[List.getD,dJ hi,<-t];rfl
  obtain⟨v,o⟩:=NN d c f;rw[a] at v o;obtain⟨k,u,q⟩:=Bj.1 s
  by_cases j:k=0
  .subst j
   have:g=bI n:=by rw[<-o,List.getD,dJ u,<-q];rfl
   rw[this,cH (ih.cF w)];exact ih
  .refine ih.mul ?_
   unfold hH;refine List.mem_flatMap.2 ⟨r,l,Bj.2 ⟨k- 1,by rw[jR];omega,?_⟩⟩;rw[List.getElem_drop];simp only[show 1+(k- 1)=k by omega,q]
def bL (x g:List Nat):List Nat:=aZ (aZ (bY g) x) g
theorem iN (X:bJ n x)(g':bJ n g):bJ n (bL x g):=(g'.inv.mul X).mul g'
theorem qQ (X:bJ n x):bL x (bI n)=x:=by
 unfold bL;rw[xT,dK X,cH X]
theorem lF {k:List Nat}(X:bJ n x)(A:bJ n g)(B:bJ n k):bL x (aZ g k)=bL (bL x g) k:=by
 unfold bL;rw[Jt A B];have a:=A.inv;have b:=B.inv;rw[aX b a X,<-aX (b.mul (a.mul X)) A B,<-aX b (a.mul X) A|>.symm]
theorem iM (X:bJ n x)(A:bJ n g):bL (bL x g) (bY g)=x:=by
 rw[<-lF X A A.inv,fH A,qQ X]
def cj (G:List Nat->Prop)(x y:List Nat):Prop:= ∃g,G g/\bL x g=y
theorem abA (a:oK n G)(X:bJ n x):cj G x x:=⟨bI n,a.one,qQ X⟩
theorem Si (b:oK n G)(X:bJ n x)(h:cj G x y):cj G y x:=by
 obtain⟨g,a,rfl⟩:=h;exact⟨bY g,b.inv a,iM X (b.cF a)⟩
theorem Di (a:oK n G){z:List Nat}(X:bJ n x)(h:cj G x y)(h2:cj G y z):cj G x z:=by
 obtain⟨g,c,rfl⟩:=h;obtain⟨k,b,rfl⟩:=h2;exact⟨aZ g k,a.mul c b,lF X (a.cF c) (a.cF b)⟩
theorem Gn (a:oK n G)(c:G x)(h:cj G x y):G y:=by
 obtain⟨g,b,rfl⟩:=h;exact a.mul (a.mul (a.inv b) c) b
theorem aiS {S:List Nat->Prop}(b: ∀g,S g->bJ n g)(a: ∀x,G x->fG n S x){P:List Nat->Prop}(X:bJ n x)(d:P x)(f: ∀y g,bJ n y->P y->S g->P (bL y g))(h:cj G x y):P y:=by
 obtain⟨g,c,rfl⟩:=h;have:=a g c;clear c
 induction this with
 |one=>rw[qQ X];exact d
 | @mul z k hz hk ih=>
  rw[lF X (hz.cF b) (b k hk)];exact f _ _ (iN X (hz.cF b)) ih hk
end
end
end Go.Proofs.YtoighkablmjfeaaGreat
namespace Go.Proofs.YtoighkablmjfeaaGreat.Cls
open Go Go.Ay Go.Sort
section
variable {h:H} {S N i j a:Nat}
def alW (ρ:Nat->Nat):dU->dU
 | .op i=> .op i
 | .call f xs=> .call (ρ f) xs
 | .callv x xs=> .callv x xs
 | .calli f t x xs=> .calli f t x xs
def aaQ (ρ:Nat->Nat)(i:It):It:=⟨i.d,i.g,alW ρ i.a⟩
def akG (ρ:Nat->Nat)(i:AI):AI:=⟨i.i,aaQ ρ i.it,i.al,i.cks⟩
def Ga (ρ:Nat->Nat):C->C
 | .skip=> .skip
 | .reg l=> .reg (l.map (aaQ ρ))
 | .any k n l=> .any k n (l.map (akG ρ))
 | .seq a b=> .seq (Ga ρ a) (Ga ρ b)
 | .ite x a b=> .ite x (Ga ρ a) (Ga ρ b)
 | .block i c=> .block i (Ga ρ c)
 | .loop c=> .loop (Ga ρ c)
 | .exit i=> .exit i
 | .ret=> .ret
 | .range f p a b=> .range f p a b
 | .fail=> .fail
def LK (ρ:Nat->Nat)(f:Ay.Fn):Ay.Fn:=⟨f.nargs,f.init,f.results,Ga ρ f.body,f.Pn⟩
attribute [go_sem] LK Ga akG aaQ alW List.map_cons List.map_nil
def sK:List Nat:= [178,231,179,119,185,184,183,180,181,256,233,232,182,78]
class oE (α:Type)[Inhabited α] where
 lt:α->α->Bool
 enc:α->List V
 P:α->Prop
 B:H->Prop
 f:Nat
 b0:Nat
 S:Nat
 swo:SWO lt
 len: ∀a,(enc a).length=4
 one: ∀a,(enc a).all V.one=true
 eqv: ∀a,dS (.agg (enc a)) (.agg (enc a))=true
 cmp: ∀h a b,B h->P a->P b->Ev T f [.agg (enc a),.agg (enc b)] h (λv h'=> ∃z,v= aC z/\decide (z<0)=lt a b/\Fr h h')
 bfr: ∀h h',B h->Fr h h'->B h'
 bS: ∀h h',B h->Fx (· =S) h h'->B h'
 bR: ∀h h' R,B h->b0<=R->Fx (· =R) h h'->B h'
 bn: ∀h,B h->b0<=h.next
 ρ:Nat->Nat
 hT: ∀k,k∈sK->T (ρ k)=(T k).map (LK ρ)
 s1:ρ 95=95
 s2:ρ 198=198
 s3:ρ 199=199
@[go_sem] theorem amX {α:Type}[Inhabited α][O:oE α]:O.ρ 95=95:=O.s1
@[go_sem] theorem amS {α:Type}[Inhabited α][O:oE α]:O.ρ 198=198:=O.s2
@[go_sem] theorem anD {α:Type}[Inhabited α][O:oE α]:O.ρ 199=199:=O.s3
theorem SE {α:Type}[Inhabited α][O:oE α]{k:Nat}{c:Ay.Fn}(h:T k=some c)(m:k∈sK):T (O.ρ k)=some (LK O.ρ c):=by
 rw[O.hT k m,h]
 rfl
def flat {α:Type}[Inhabited α][oE α](l:List α):List V:=l.flatMap oE.enc
structure Bh {α:Type}[Inhabited α][O:oE α](h:H)(S N:Nat)(d:Array α):Prop where
 get:h.get S=cE (flat d.toList)
 size:d.size=N
 lt:S<h.next
 eqS:S=O.S
 base:O.B h
 all: ∀i,i<d.size->O.P d[i]!
section
variable {α:Type} [Inhabited α] [O:oE α]
theorem qX: ∀l:List α,(flat l).length=l.length*4
 | []=>rfl
 |x::r=>by
  show (oE.enc x++flat r).length=_;rw[eE,oE.len,qX r,List.length_cons];omega
theorem Ty:(l:List α)->(i:Nat)->(flat l).drop (i*4)=flat (l.drop i)
 |l,0=>by simp
 | [],i+1=>by simp [flat]
 |x::r,i+1=>by
  show (oE.enc x++flat r).drop ((i+1)*4)=_;rw[List.drop_append,List.drop_eq_nil_of_le (by rw[oE.len];omega),oE.len,List.nil_append,show (i+1)*4- 4=i*4 by omega,Ty r i,List.drop_succ_cons]
theorem Pf:(l:List α)->(i:Nat)->(flat l).take (i*4)=flat (l.take i)
 |l,0=>by simp [flat]
 | [],i+1=>by simp [flat]
 |x::r,i+1=>by
  show (oE.enc x++flat r).take ((i+1)*4)=_;rw[List.take_append,Nb (by rw[oE.len];omega),oE.len,show (i+1)*4- 4=i*4 by omega,Pf r i,List.take_succ_cons];rfl
theorem acK (h:H)(id off:Nat)(a:α):HO h 4 (.ptr id off) (.agg (oE.enc a))=dY (h.get id) h id off (oE.enc a):=yX h id off 4 _ (oE.len a) (oE.one a)
theorem adN (a:α):dS (.agg (oE.enc a)) (.agg (oE.enc a))=true:=oE.eqv a
theorem Bh.rd {d:Array α}(A:Bh h S N d)(hi:i<N):h.row S (i*4) 4=some (oE.enc d[i]!):=by
 have b:i<d.size:=by rw[A.size];exact hi
 have c:i<d.toList.length:=by simpa using b
 unfold H.row;rw[A.get];simp only[sub];rw[aS (by rw[qX];omega),Ty,EF c];show some ((oE.enc d.toList[i]++flat _).take 4)=_;rw[List.take_append,Nb (by rw[oE.len];exact dN _),oE.len];simp [b]
theorem Bh.fr {h':H}{d:Array α}(A:Bh h S N d)(f:Fr h h'):Bh h' S N d:=⟨by rw[f.get _ A.lt];exact A.get,A.size,iD A.lt f.next,A.eqS,O.bfr _ _ A.base f,A.all⟩
theorem xA {d:Array α}(hi:i<d.size)(b:H)(S:Nat)(x:α):dY (cE (flat d.toList)) b S (i*4) (oE.enc x)=some (b.set S (cE (flat (d.setIfInBounds i x).toList))):=by
 have c:i<d.toList.length:=by simpa using hi
 have e:(flat d.toList).take (i*4)++oE.enc x++(flat d.toList).drop (i*4+4)=flat (d.setIfInBounds i x).toList:=by
  rw[Array.toList_setIfInBounds,List.set_eq_take_append_cons_drop,aS c,Pf,show i*4+4=(i+1)*4 by omega,Ty];simp [flat]
 simp only[dY,putAt,oE.len];rw[aS (by rw[qX];omega),e];rfl
theorem Gq {d:Array α}{y:α}(hi:i<d.size)(b:H)(S:Nat)(x:α):dY (cE (flat (d.setIfInBounds j y).toList)) b S (i*4) (oE.enc x)=some (b.set S (cE (flat ((d.setIfInBounds j y).setIfInBounds i x).toList))):=
 xA (by simpa using hi) b S x
theorem Bh.swap {h2:H}{d:Array α}(A:Bh h S N d){nx:Nat}(f:h.next<=nx)(e:h2=((H.mk h.tr nx).set S (cE (flat (d.setIfInBounds i d[j]!).toList))).set S (cE (flat ((d.setIfInBounds i d[j]!).setIfInBounds j d[i]!).toList)))(hi:i<N:=by omega)(q:j<N:=by omega):Bh h2 S N (swp d i j)/\Fx (· =S) h h2:=by
 subst e
 have fx:Fx (· =S) h (((H.mk h.tr nx).set S (cE (flat (d.setIfInBounds i d[j]!).toList))).set S (cE (flat ((d.setIfInBounds i d[j]!).setIfInBounds j d[i]!).toList))):=⟨f,λid _ l=>by rw[H.Cj _ l,H.Cj _ l];rfl⟩
 have o:=A.size;refine⟨⟨?_,?_,iD A.lt f,A.eqS,O.bS _ _ A.base (by have:=A.eqS;subst this;exact fx),?_⟩,fx⟩
 .rw[H.aJ];rfl
 .simp [swp,o]
 .intro k n
  have b:k<d.size:=by simpa [swp] using n
  unfold swp
  have c:(x:Array α)->(u:Nat)->(y:α)->k<x.size->(x.setIfInBounds u y)[k]! =if u=k then y else x[k]! :=λx u y m=>by
   rw[getElem!_pos (x.setIfInBounds u y) k (by simpa using m),getElem!_pos x k m,Array.getElem_setIfInBounds]
  rw[c _ _ _ (by simpa using b),c _ _ _ b]
  by_cases e1:j=k
  .rw[aS e1];exact A.all i om
  .rw[aQ e1]
   by_cases e2:i=k
   .rw[aS e2];exact A.all j om
   .rw[aQ e2];exact A.all k b
theorem acG {d:Array α}(A:Bh h S N d)(hi:i<N)(b:j<N)(nx:Nat)(c:h.next<=nx):Ev T (oE.f α) [.agg (oE.enc d[i]!),.agg (oE.enc d[j]!)] (H.mk h.tr nx) (λv h'=> ∃z,v= aC z/\decide (z<0)=oE.lt d[i]! d[j]! /\Fr (H.mk h.tr nx) h'):=
 O.cmp _ _ _ (O.bfr _ _ A.base ((Fr.refl h).cU c)) (A.all i (by rw[A.size];exact hi)) (A.all j (by rw[A.size];exact b))
end
attribute [go_sem] acK adN H.Xz
theorem Ps {a b c:H}(x:Fx (· =S) a b)(y:Fx (· =S) b c):Fx (· =S) a c:=x.trans y λ_ _ h=>h
theorem DZ {α:Type}[Inhabited α]{lt:α->α->Bool}{d:Array α}(b:a<j+1)(h2:lt d[j+1]! d[j]! =true):insInner lt a (j+1) d=insInner lt a j (swp d (j+1) j):=by
 rw[insInner,aS (by simp [b,h2])]
theorem DK {α:Type}[Inhabited α]{lt:α->α->Bool}{d:Array α}(h2:lt d[j+1]! d[j]! =false):insInner lt a (j+1) d=d:=by
 rw[insInner,aQ (by simp [h2])]
theorem CY {α:Type}[Inhabited α]{lt:α->α->Bool}{d:Array α}(h:j<=a):insInner lt a j d=d:=by
 cases j with
 |zero=>rfl
 |succ j=>rw[insInner,aQ siO]
theorem Ee {α:Type}[Inhabited α][O:oE α](h:H)(S N a b:Nat)(d:Array α)(x:qD)(hN:N<1000000)(A:Bh h S N d)(hb:b<=N)(L:a<=b):
  Ev T (oE.ρ α 178) [.sl S 0 N x,aC a,aC b,.fn (oE.f α) [] []] h (λ_ h'=>Bh h' S N (insertionSort oE.lt d a b)/\Fx (· =S) h h'):=by
 refine vZ (SE (α:=α) fE.ok deC) rfl ?_
 simp(disch:=omega)only[go_sem,fE,aV]
 rw[fJ a]
 refine aP (λs c t=> ∃(i:Nat) (e:Array α),(∃g:Nat->V,c= [.sl S 0 N x,aC a,aC b,.fn (oE.f α) [] [],aC i,g 5,g 6,g 7])/\a<i/\i<=b+1/\Bh t S N e/\insOuter oE.lt a b i e=insertionSort oE.lt d a b/\Fx (· =S) h t/\s=b+1-i) (b+1-(a+1))
  ⟨a+1,d,aD rfl,om,om,A,rfl,Fx.refl _ h,rfl⟩ ?_
 clear A
 rintro s c h1 ⟨i,e,⟨g,rfl⟩,J,P,A,n,F,rfl⟩
 refine aT ?_
 by_cases r:(i:Int)<(b:Int)
 case neg=>
  rw[bZ r];refine aT ?_;rw[insOuter,aQ om] at n;rw[<-n];exact⟨A,F⟩
 rw[cV r]
 rw[insOuter,aS om] at n
 refine aT ?_
 refine aP (λs c t=> ∃(j:Nat) (k:Array α),(∃g:Nat->V,c= [.sl S 0 N x,aC a,aC b,.fn (oE.f α) [] [],aC i,aC j,g 6,g 7])/\a<=j/\j<=i/\Bh t S N k/\insInner oE.lt a j k=insInner oE.lt a i e/\Fx (· =S) h t/\s=j) i
  ⟨i,e,aD rfl,om,om,A,rfl,F,rfl⟩ ?_
 clear A F
 rintro s c o ⟨j,k,⟨g2,rfl⟩,K,Z,A,q,F,hk⟩
 have sz:=A.size
 by_cases u:(a:Int)<(j:Int)
 .obtain⟨m,rfl⟩: ∃m,j=m+1:=⟨j- 1,om⟩
  have Q:=A.rd (i:=m+1) om
  have R:=A.rd (i:=m) om
  have e1:=cV u
  have e2:((m+1:Nat):Int)- 1=(m:Int):=om
  refine jX e1 e2 Q R ?_
  refine (acG A (i:=m+1) (j:=m) om om _ om).mono ?_
  rintro _ B ⟨z,rfl,y,w⟩
  have l:Fr o B:=Fr.trans ((Fr.refl o).cU om) w
  have v:=A.fr l
  have U:=v.rd (i:=m+1) om
  have Y:=v.rd (i:=m) om
  cases hl:oE.lt k[m+1]! k[m]! with
  |false=>
   rw[DK hl] at q;refine eZ y hl ?_;rw[fJ i];rw[<-q] at n;exact⟨b+1-(i+1),om,i+1,k,aD rfl,om,om,v,n,Ps F (Fx.of l),rfl⟩
  |true=>
   rw[DZ om hl] at q;refine wY y hl e2 U Y @v.get @xA @Gq ?_;have W:=v.swap (i:=m+1) (j:=m) (nx:=B.next+18) om rfl;exact⟨m,om,m,_,aD rfl,om,om,W.1,q,Ps (Ps F (Fx.of l)) W.2,rfl⟩
 .have e1:=bZ u
  rw[CY om] at q
  refine bM e1 ?_
  rw[fJ i]
  rw[<-q] at n
  have G:Fr o (H.mk o.tr (o.next+17)):=(Fr.refl o).cU om
  exact⟨b+1-(i+1),om,i+1,k,aD rfl,om,om,A.fr G,n,Ps F (Fx.of G),rfl⟩
end
def chd {α:Type}[Inhabited α](lt:α->α->Bool)(hi first root:Nat)(d:Array α):Nat:=if 2*root+1+1<hi/\lt d[first+(2*root+1)]! d[first+(2*root+1)+1]! =true then 2*root+2 else 2*root+1
theorem XQ {α:Type}[Inhabited α]{lt:α->α->Bool}(hi first a:Nat)(d:Array α):siftDown lt hi first a d=if 2*a+1>=hi then d else
  if lt d[first+a]! d[first+chd lt hi first a d]! =true then siftDown lt hi first (chd lt hi first a d) (swp d (first+a) (first+chd lt hi first a d)) else d:=by
 rw[siftDown]
 unfold chd
 by_cases b:2*a+1>=hi
 .rw[dif_pos b,aS b]
 .rw[dif_neg b,aQ b]
  by_cases c:2*a+1+1<hi/\lt d[first+(2*a+1)]! d[first+(2*a+1)+1]! =true
  .rw[aS (by simpa using c),aS c]
   cases h3:lt d[first+a]! d[first+(2*a+2)]!
   .simp
   .simp [show 2*a+2<hi by omega]
  .rw[aQ (by simpa using c),aQ c]
   cases h3:lt d[first+a]! d[first+(2*a+1)]! <;>simp
theorem AB  {α:Type}[Inhabited α][O:oE α](h:H)(S N y hi first:Nat)(d:Array α)(cp:qD)(hN:N<1000000)(A:Bh h S N d)(hb:first+hi<=N)(Z:y<=hi):
  Ev T (oE.ρ α 231) [.sl S 0 N cp,aC y,aC hi,aC first,.fn (oE.f α) [] []] h (λ_ h'=>Bh h' S N (siftDown oE.lt hi first y d)/\Fx (· =S) h h'):=by
 refine vZ (SE (α:=α) oA.ok deC) rfl ?_
 simp(disch:=omega)only[go_sem,oA,aV]
 refine aP (λk' s hh=> ∃(r:Nat) (e:Array α),(∃g:Nat->V,s= [.sl S 0 N cp,aC y,aC hi,aC first,.fn (oE.f α) [] [],aC r,g 6,g 7,g 8,g 9])/\r<=hi/\Bh hh S N e/\siftDown oE.lt hi first r e=siftDown oE.lt hi first y d/\Fx (· =S) h hh/\k'=hi-r) (hi-y)
  ⟨y,d,aD rfl,Z,A,rfl,Fx.refl _ h,rfl⟩ ?_
 clear A
 rintro k' s t ⟨r,e,⟨g,rfl⟩,hr,A,a,F,rfl⟩
 have e0:2*(r:Int)+1=((2*r+1:Nat):Int):=om
 by_cases B:(hi:Int)<=((2*r+1:Nat):Int)
 .have Q:=cV B
  refine eZ e0 Q ?_
  rw[XQ,aS om] at a
  rw[<-a]
  exact⟨A,F⟩
 have Q:=bZ B
 rw[XQ,aQ om] at a
 have R:((2*r+1:Nat):Int)+1=((2*r+2:Nat):Int):=om
 have c:(first:Int)+(r:Int)=((first+r:Nat):Int):=om
 have l:(first:Int)+((2*r+1:Nat):Int)=((first+(2*r+1):Nat):Int):=om
 have P:(first:Int)+((2*r+2:Nat):Int)=((first+(2*r+2):Nat):Int):=om
 have U:((first+(2*r+1):Nat):Int)+1=((first+(2*r+1)+1:Nat):Int):=om
 have sz:=A.size
 by_cases K:((2*r+2:Nat):Int)<(hi:Int)
 .have e2:=cV K
  have q:=A.rd (i:=first+(2*r+1)) om
  have J:=A.rd (i:=first+(2*r+1)+1) om
  refine wY e0 Q R e2 l U q J ?_
  refine (acG A (i:=first+(2*r+1)) (j:=first+(2*r+1)+1) om om _ om).mono ?_
  rintro _ G ⟨z,rfl,k,Y⟩
  have L:Fr t G:=Fr.trans ((Fr.refl t).cU om) Y
  have v:=A.fr L
  have o:=v.rd (i:=first+r) om
  have q:=v.rd (i:=first+(2*r+1)) om
  have J:=v.rd (i:=first+(2*r+2)) om
  cases hl:oE.lt e[first+(2*r+1)]! e[first+(2*r+1)+1]! with
  |false=>
   have n:chd oE.lt hi first r e=2*r+1:=aQ (by rw[hl];simp)
   rw[n] at a;refine wE k hl c l o q ?_;refine (acG v (i:=first+r) (j:=first+(2*r+1)) om om _ om).mono ?_;rintro _ u ⟨z,rfl,k,m⟩;have w:Fr G u:=Fr.trans ((Fr.refl G).cU om) m;have b:=v.fr w;have o:=b.rd (i:=first+r) om;have q:=b.rd (i:=first+(2*r+1)) om;have x:=Ps (Ps F (Fx.of L)) (Fx.of w)
   cases hl2:oE.lt e[first+r]! e[first+(2*r+1)]! with
   |false=>
    rw[aQ (by rw[hl2];simp)] at a;refine eZ k hl2 ?_;rw[<-a];exact⟨b,x⟩
   |true=>
    rw[aS hl2] at a;refine Ux k hl2 c l o q @b.get @xA @Gq ?_;have W:=b.swap (i:=first+r) (j:=first+(2*r+1)) (nx:=u.next+24) om rfl;exact⟨hi-(2*r+1),om,2*r+1,_,aD rfl,om,W.1,a,Ps x W.2,rfl⟩
  |true=>
   have n:chd oE.lt hi first r e=2*r+2:=aS ⟨om,hl⟩
   rw[n] at a;refine Ie k hl R c P o J ?_;refine (acG v (i:=first+r) (j:=first+(2*r+2)) om om _ om).mono ?_;rintro _ u ⟨z,rfl,k,m⟩;have w:Fr G u:=Fr.trans ((Fr.refl G).cU om) m;have b:=v.fr w;have o:=b.rd (i:=first+r) om;have J:=b.rd (i:=first+(2*r+2)) om;have x:=Ps (Ps F (Fx.of L)) (Fx.of w)
   cases hl2:oE.lt e[first+r]! e[first+(2*r+2)]! with
   |false=>
    rw[aQ (by rw[hl2];simp)] at a;refine eZ k hl2 ?_;rw[<-a];exact⟨b,x⟩
   |true=>
    rw[aS hl2] at a;refine Ux k hl2 c P o J @b.get @xA @Gq ?_;have W:=b.swap (i:=first+r) (j:=first+(2*r+2)) (nx:=u.next+24) om rfl;exact⟨hi-(2*r+2),om,2*r+2,_,aD rfl,om,W.1,a,Ps x W.2,rfl⟩
 .have e2:=bZ K
  have n:chd oE.lt hi first r e=2*r+1:=aQ om
  rw[n] at a
  have L:Fr t (H.mk t.tr (t.next+20)):=(Fr.refl t).cU om
  have v:=A.fr L
  have o:=A.rd (i:=first+r) om
  have q:=A.rd (i:=first+(2*r+1)) om
  refine wY e0 Q R e2 c l o q ?_
  refine (acG A (i:=first+r) (j:=first+(2*r+1)) om om _ om).mono ?_
  rintro _ u ⟨z,rfl,k,m⟩
  have w:Fr t u:=Fr.trans ((Fr.refl t).cU om) m
  have b:=A.fr w
  have o:=b.rd (i:=first+r) om
  have q:=b.rd (i:=first+(2*r+1)) om
  have x:=Ps F (Fx.of w)
  cases hl2:oE.lt e[first+r]! e[first+(2*r+1)]! with
  |false=>
   rw[aQ (by rw[hl2];simp)] at a;refine eZ k hl2 ?_;rw[<-a];exact⟨b,x⟩
  |true=>
   rw[aS hl2] at a;refine Ux k hl2 c l o q @b.get @xA @Gq ?_;have W:=b.swap (i:=first+r) (j:=first+(2*r+1)) (nx:=u.next+24) om rfl;exact⟨hi-(2*r+1),om,2*r+1,_,aD rfl,om,W.1,a,Ps x W.2,rfl⟩
theorem QZ  {α:Type}[Inhabited α][O:oE α](h:H)(S N a b:Nat)(d:Array α)(t:qD)(z:N<1000000)(A:Bh h S N d)(hb:b<=N)(B:a<=b):
  Ev T (oE.ρ α 179) [.sl S 0 N t,aC a,aC b,.fn (oE.f α) [] []] h (λ_ h'=>Bh h' S N (heapSort oE.lt d a b)/\Fx (· =S) h h'):=by
 refine vZ (SE (α:=α) oM.ok deC) rfl ?_
 obtain⟨n,R⟩:=exI (b-a)
 have Q:(b:Int)-(a:Int)=(n:Int):=om
 have U:((n:Int)- 1).tdiv 2=(((n- 1)/2+1:Nat):Int)- 1:=by
  by_cases G:n=0
  .subst G;decide
  .rw[Int.tdiv_eq_ediv_of_nonneg om];omega
 simp(disch:=omega)only[go_sem,oM,aV,Q,U]
 refine aP (λo c s=> ∃(k:Nat) (e:Array α),(∃g:Nat->V,c= [.sl S 0 N t,aC a,aC b,.fn (oE.f α) [] [],aC a,aC 0,aC n,aC ((k:Int)- 1),g 8,g 9,g 10])/\k<=n+1/\(k=1\/k<=n)/\Bh s S N e/\heapBuild oE.lt n a k e=heapBuild oE.lt n a ((n- 1)/2+1) d/\Fx (· =S) h s/\o=k) ((n- 1)/2+1)
  ⟨(n- 1)/2+1,d,aD rfl,om,om,A,rfl,Fx.refl _ h,rfl⟩ ?_
 clear A
 rintro o c J ⟨k,e,⟨g,rfl⟩,q,w,A,v,F,x⟩
 subst x
 by_cases l:(0:Int)<=(o:Int)- 1
 .have e1:=cV l
  obtain⟨m,rfl⟩: ∃m,o=m+1:=⟨o- 1,om⟩
  have e2:((m+1:Nat):Int)- 1=(m:Int):=om
  rw[e2] at e1
  rw[e2]
  refine bM e1 ?_
  refine (AB J S N m n a e t z A om om).mono ?_
  rintro _ y ⟨A2,F2⟩
  refine aT ?_
  exact⟨m,om,m,_,aD rfl,om,om,A2,v,Ps F F2,rfl⟩
 have e1:=bZ l
 obtain rfl:o=0:=om
 have v:e=heapBuild oE.lt n a ((n- 1)/2+1) d:=v
 refine bM e1 ?_
 refine aP (λo c s=> ∃(k:Nat) (r:Array α),(∃g:Nat->V,c= [.sl S 0 N t,aC a,aC b,.fn (oE.f α) [] [],aC a,aC 0,aC n,g 7,aC ((k:Int)- 1),g 9,g 10])/\k<=n/\Bh s S N r/\heapPop oE.lt a k r=heapPop oE.lt a n e/\Fx (· =S) h s/\o=k) n
  ⟨n,e,aD rfl,om,A,rfl,F,rfl⟩ ?_
 clear A F l e1 q w
 rintro o c y ⟨k,r,⟨g,rfl⟩,q,A,u,F,x⟩
 subst x
 have sz:=A.size
 by_cases l:(0:Int)<=(o:Int)- 1
 .have e1:=cV l
  obtain⟨m,rfl⟩: ∃m,o=m+1:=⟨o- 1,om⟩
  have e2:((m+1:Nat):Int)- 1=(m:Int):=om
  rw[e2] at e1
  rw[e2]
  have Z:(a:Int)+(m:Int)=((a+m:Nat):Int):=om
  have L:=A.rd (i:=a+m) om
  have P:=A.rd (i:=a) om
  refine Ie e1 Z L P @A.get @xA @Gq ?_
  have W:=A.swap (i:=a) (j:=a+m) (nx:=y.next+20) om rfl
  have K:=AB _ S N 0 m a _ t z W.1 om om
  refine K.mono ?_
  rintro _ h3 ⟨Y,F3⟩
  refine aT ?_
  exact⟨m,om,m,_,aD rfl,om,Y,u,Ps (Ps F W.2) F3,rfl⟩
 have e1:=bZ l
 obtain rfl:o=0:=om
 refine bM e1 ?_
 have u:r=heapPop oE.lt a n e:=u
 have:heapSort oE.lt d a b=r:=by unfold heapSort;rw[R,u,v]
 rw[this]
 exact⟨A,F⟩
theorem Bh.fxo  {α:Type}[Inhabited α][O:oE α]{h h':H}{S N R:Nat}{d:Array α}(A:Bh h S N d)(f:Fx (· =R) h h')(b:R≠S)(a:oE.b0 α<=R):Bh h' S N d:=⟨by rw[f.get S A.lt (λe=>b e.symm)];exact A.get,A.size,iD A.lt f.next,A.eqS,O.bR _ _ _ A.base a f,A.all⟩
theorem VO  {α:Type}[Inhabited α][O:oE α](h:H)(S N a b:Nat)(d:Array α)(o:qD)(y:N<1000000)(A:Bh h S N d)(x:b<=N)(r:a<b):
  Ev T (oE.ρ α 182) [.sl S 0 N o,aC a,aC b,.fn (oE.f α) [] []] h (λ_ h'=>Bh h' S N (reverseRange d a b)/\Fx (· =S) h h'):=by
 refine vZ (SE (α:=α) lW.ok deC) rfl ?_
 have u:(b:Int)- 1=((b- 1:Nat):Int):=om
 simp(disch:=omega)only[go_sem,lW,aV,u]
 refine aP (λc k n=> ∃(i j:Nat) (e:Array α),(∃g:Nat->V,k= [.sl S 0 N o,aC a,aC b,aC i,aC j,g 5])/\j<b/\i<=b/\Bh n S N e/\reverseLoop i j e=reverseLoop a (b- 1) d/\Fx (· =S) h n/\c=j) (b- 1)
  ⟨a,b- 1,d,aD rfl,om,om,A,rfl,Fx.refl _ h,rfl⟩ ?_
 clear A
 rintro c k t ⟨i,j,e,⟨g,rfl⟩,z,hi,A,m,F,s⟩
 subst s
 have w:=A.size
 rw[reverseLoop] at m
 by_cases l:(i:Int)<(c:Int)
 .have e1:=cV l
  rw[aS om] at m
  have v:=A.rd (i:=i) om
  have q:=A.rd (i:=c) om
  refine wE e1 v q @A.get @xA @Gq ?_
  have W:=A.swap (i:=i) (j:=c) (nx:=t.next+16) om rfl
  rw[show (i:Int)+1=((i+1:Nat):Int) from om,show (c:Int)- 1=((c- 1:Nat):Int) from om]
  exact⟨c- 1,om,i+1,c- 1,_,aD rfl,om,om,W.1,m,Ps F W.2,rfl⟩
 have e1:=bZ l
 rw[aQ om] at m
 refine bM e1 ?_
 unfold reverseRange
 rw[<-m]
 exact⟨A,F⟩
theorem aeC (n:Nat){k:Int}{m:Nat}(a:k=(m:Int)):(n:Int).tdiv k=((n/m:Nat):Int):=by
 rw[a,Int.tdiv_eq_ediv_of_nonneg om];rfl
theorem acU  {α:Type}[Inhabited α][O:oE α](h:H)(S N a b:Nat)(d:Array α)(cp:qD)(hN:N<60000)(A:Bh h S N d)(hb:b<=N)(a5:a<=b):
  Ev T (oE.ρ α 180) [.sl S 0 N cp,aC a,aC b,.fn (oE.f α) [] []] h (λ_ h'=> ∃e,Bh h' S N e/\PermIn a b d e/\Fx (· =S) h h'):=by
 refine vZ (SE (α:=α) bP.ok deC) rfl ?_
 obtain⟨n,hn⟩:=exI (b-a)
 have en:(b:Int)-(a:Int)=(n:Int):=om
 by_cases h8:(8:Int)<=(n:Int)
 case neg=>
  have e8:=bZ h8;simp(disch:=omega)only[go_sem,bP,aV,en,e8];exact⟨d,A,permIn_refl d a b,Fx.refl _ h⟩
 have e8:=cV h8
 have L:=aeC n (k:=4) (m:=4) rfl
 obtain⟨q,hq⟩:=exI (n/4)
 rw[hq] at L
 have ei:(a:Int)+(q:Int)*2- 1=((a+q*2- 1:Nat):Int):=om
 have ej:(a:Int)+(q:Int)*2+1=((a+q*2+1:Nat):Int):=om
 have hp:=two_pow_bitsLen_le (show 0<n by omega)
 have a0:=lt_two_pow_bitsLen n
 obtain⟨m,hm⟩:=exI (2^bitsLen n)
 rw[hm] at hp a0
 obtain⟨R,hR⟩:=exI h.next
 have a2:R≠S:=by have:=A.lt;omega
 have a1:oE.b0 α<=R:=by have:=O.bn _ A.base;omega
 have Y: ∀c:H,dY (cE [.int .u64 0]) c R 0 [.int .u64 (n:Int)]=some (c.set R (cE [.int .u64 (n:Int)])):=λc=>bE siM c R _
 have t:(h.new (.cells false [.int .u64 0])).get R=cE [.int .u64 0]:=by rw[<-hR,H.aI]
 simp(disch:=omega)only[go_sem,bP,aV,en,e8,hR,Hi (n:=(n:Int)) om om,t,Y]
 obtain⟨o,l⟩: ∃o,o=(h.new (.cells false [.int .u64 0])).set R (cE [.int .u64 (n:Int)]):=⟨_,rfl⟩
 rw[<-l]
 have g1:o.get R=cE [.int .u64 (n:Int)]:=by rw[l,H.aJ]
 have n1:o.next=R+1:=by rw[l,H.bT,H.aM,hR]
 have Q:Fr h o:=by rw[l];exact ((Fr.refl h).new _).set om _
 clear l
 refine (aiR n o om).mono ?_
 rintro _ a6 ⟨rfl,c⟩
 rw[c,hm]
 refine eZ L ei ?_
 refine aP (λk' s c=> ∃(i:Nat) (e:Array α) (x:Int),(∃g:Nat->V,s= [.sl S 0 N cp,aC a,aC b,aC n,.ptr R 0,.int .u64 (m:Int),aC i,g 7,g 8,g 9,g 10])/\a<=i/\i<=a+q*2+2/\Bh c S N e/\PermIn a b d e/\c.get R=cE [.int .u64 x]/\R<c.next/\Fx (· =S) h c/\k'=a+q*2+2-i) (a+q*2+2-(a+q*2- 1))
  ⟨a+q*2- 1,d,_,aD rfl,om,om,A.fr Q,permIn_refl d a b,g1,om,Fx.of Q,rfl⟩ ?_
 clear A g1 n1 Q c o
 rintro k' s o ⟨i,e,x,⟨g,rfl⟩,G,a3,A,Z,gR,nR,F,rfl⟩
 by_cases J:(i:Int)<=((a+q*2+1:Nat):Int)
 case neg=>
  have e1:=bZ J;refine iG L ej e1 ?_;exact⟨e,A,Z,F⟩
 have e1:=cV J
 refine iG L ej e1 ?_
 refine (alC R x o gR nR).mono ?_
 rintro _ K ⟨y,rfl,z,F2⟩
 have r:=A.fxo F2 a2 a1
 obtain⟨w,hw,a4⟩:=akP y (m- 1) om
 have em:(m:Int)- 1=((m- 1:Nat):Int):=om
 have sz:=r.size
 have u:Fx (· =S) h K:=⟨kQ F.next F2.next,λid h3 h4=>(F2.get id (iD h3 F.next) (λe=>by have:id=R:=e;omega)).trans (F.get id h3 h4)⟩
 have v:R<K.next:=iD nR F2.next
 by_cases B:(n:Int)<=(w:Int)
 .have e2:=cV B
  have e3:(w:Int)-(n:Int)=((w-n:Nat):Int):=om
  have P:(a:Int)+((w-n:Nat):Int)=((a+(w-n):Nat):Int):=om
  have c1:=r.rd (i:=i) om
  have U:=r.rd (i:=a+(w-n)) om
  simp(disch:=omega)only[go_sem,em,Hi (n:=((m- 1:Nat):Int)) om om,hw,e2,e3,P,c1,U,r.get,xA,Gq]
  have W:=r.swap (i:=i) (j:=a+(w-n)) (nx:=K.next+20) om rfl
  rw[fJ i]
  refine⟨a+q*2+2-(i+1),om,i+1,_,y,aD rfl,om,om,W.1,permIn_trans _ _ _ a b Z (swp_permIn e a b i (a+(w-n)) G om om om om),?_,iD v W.2.next,Ps u W.2,rfl⟩
  exact z
 .have e2:=bZ B
  have P:(a:Int)+(w:Int)=((a+w:Nat):Int):=om
  have c1:=r.rd (i:=i) om
  have U:=r.rd (i:=a+w) om
  simp(disch:=omega)only[go_sem,em,Hi (n:=((m- 1:Nat):Int)) om om,hw,e2,P,c1,U,r.get,xA,Gq]
  have W:=r.swap (i:=i) (j:=a+w) (nx:=K.next+20) om rfl
  rw[fJ i]
  refine⟨a+q*2+2-(i+1),om,i+1,_,y,aD rfl,om,om,W.1,permIn_trans _ _ _ a b Z (swp_permIn e a b i (a+w) G om om om om),?_,iD v W.2.next,Ps u W.2,rfl⟩
  exact z
structure Chs (h h':H)(R:Nat):Prop where
 get: ∃s,h'.get R=cE [aC s]
 fx:Fx (· =R) h h'
theorem Chs.trans {a b c:H}{R:Nat}(x:Chs a b R)(y:Chs b c R):Chs a c R:=⟨y.get,x.fx.trans y.fx λ_ _ h=>h⟩
theorem Wq  {α:Type}[Inhabited α][O:oE α](h:H)(S N a b R:Nat)(d:Array α)(y:qD)(K:N<1000000)(A:Bh h S N d)(G:a<N)(F:b<N)(J:R≠S)(o:R<h.next)(u:oE.b0 α<=R)(s:Int)(x:h.get R=cE [aC s]):
  Ev T (oE.ρ α 256) [.sl S 0 N y,aC a,aC b,.ptr R 0,.fn (oE.f α) [] []] h (λv h'=>(v= .tup [aC a,aC b]\/v= .tup [aC b,aC a])/\Chs h h' R):=by
 refine vZ (SE (α:=α) uX.ok deC) rfl ?_
 have B:=A.rd (i:=a) om
 have r:=A.rd (i:=b) om
 simp(disch:=omega)only[go_sem,uX,aV,B,r]
 refine (acG A (i:=b) (j:=a) om om _ om).mono ?_
 rintro _ k ⟨z,rfl,q,m⟩
 have n:Fr h k:=Fr.trans ((Fr.refl h).cU om) m
 have c:k.get R=cE [aC s]:=by rw[n.get R o];exact x
 cases hl:oE.lt d[b]! d[a]! with
 |false=>
  refine eZ q hl ?_;exact⟨.inl trivial,⟨s,c⟩,Fx.of n⟩
 |true=>
  have cR:k.cell R 0=some (aC s):=by rw[H.cell_of c];rfl
  have t:(w:Int)->(l:H)->dY (cE [aC s]) l R 0 [aC w]=some (l.set R (cE [aC w])):=λw l=>bE siM l R _
  simp(disch:=omega)only[go_sem,q,hl,cR,c,t];exact⟨.inr trivial,⟨_,by rw[H.aJ]⟩,(Fx.of (W:=(· =R)) n).trans (Fx.set k (W:=(· =R)) rfl _) (λ_ _ h=>h)⟩
theorem DV  {α:Type}[Inhabited α][O:oE α](h:H)(S N a b c R:Nat)(d:Array α)(r:qD)(J:N<1000000)(A:Bh h S N d)(G:a<N)(w:b<N)(Y:c<N)(l:R≠S)(k:R<h.next)(i:oE.b0 α<=R)(s:Int)(gR:h.get R=cE [aC s]):
  Ev T (oE.ρ α 233) [.sl S 0 N r,aC a,aC b,aC c,.ptr R 0,.fn (oE.f α) [] []] h (λv h'=>(∃m,v= aC (m:Nat)/\(m=a\/m=b\/m=c))/\Chs h h' R):=by
 refine vZ (SE (α:=α) uZ.ok deC) rfl ?_
 simp(disch:=omega)only[go_sem,uZ,aV]
 refine (Wq h S N a b R d r J A G w l k i s gR).mono ?_
 rintro v1 h1 ⟨u,q⟩
 obtain⟨W,o,rfl,B,j,U⟩: ∃x y,v1= .tup [aC (x:Nat),aC (y:Nat)]/\x<N/\y<N/\((x=a\/x=b)/\(y=a\/y=b)):=by
  rcases u with rfl|rfl
  .exact⟨a,b,rfl,G,w,.inl rfl,.inr rfl⟩
  .exact⟨b,a,rfl,w,G,.inr rfl,.inl rfl⟩
 have K:=A.fxo q.fx l i
 obtain⟨s1,g1⟩:=q.get
 have Q:=iD k q.fx.next
 refine aT ?_
 refine (Wq h1 S N o c R d r J K j Y l Q i s1 g1).mono ?_
 rintro v2 Z ⟨z,n⟩
 obtain⟨P,y2,rfl,t,L⟩: ∃x y,v2= .tup [aC (x:Nat),aC (y:Nat)]/\x<N/\(x=o\/x=c):=by
  rcases z with rfl|rfl
  .exact⟨o,c,rfl,j,.inl rfl⟩
  .exact⟨c,o,rfl,Y,.inr rfl⟩
 have A2:=K.fxo n.fx l i
 obtain⟨s2,g2⟩:=n.get
 have n2:=iD Q n.fx.next
 refine aT ?_
 refine (Wq Z S N W P R d r J A2 B t l n2 i s2 g2).mono ?_
 rintro v3 h3 ⟨F,C3⟩
 have C:=(q.trans n).trans C3
 rcases F with rfl|rfl
 .refine aT ?_
  exact⟨⟨P,rfl,om⟩,C⟩
 .refine aT ?_
  exact⟨⟨W,rfl,om⟩,C⟩
theorem Mq  {α:Type}[Inhabited α][O:oE α](h:H)(S N a R:Nat)(d:Array α)(i:qD)(n:N<1000000)(A:Bh h S N d)(r:0<a)(o:a+1<N)(k:R≠S)(c:R<h.next)(b:oE.b0 α<=R)(s:Int)(l:h.get R=cE [aC s]):
  Ev T (oE.ρ α 232) [.sl S 0 N i,aC a,.ptr R 0,.fn (oE.f α) [] []] h (λv h'=>(∃m,v= aC (m:Nat)/\(m=a- 1\/m=a\/m=a+1))/\Chs h h' R):=by
 refine vZ (SE (α:=α) lQ.ok deC) rfl ?_
 have e1:(a:Int)- 1=((a- 1:Nat):Int):=om
 have e2:(a:Int)+1=((a+1:Nat):Int):=om
 simp(disch:=omega)only[go_sem,lQ,aV,e1,e2]
 refine (DV h S N (a- 1) a (a+1) R d i n A om om om k c b s l).mono ?_
 rintro _ q ⟨⟨m,rfl,j⟩,C⟩
 refine aT ?_
 exact⟨⟨m,rfl,j⟩,C⟩
theorem adX  {α:Type}[Inhabited α][O:oE α](h:H)(S N a b:Nat)(d:Array α)(J:qD)(Z:N<1000000)(A:Bh h S N d)(hb:b<=N)(a1:a<b):
  Ev T (oE.ρ α 181) [.sl S 0 N J,aC a,aC b,.fn (oE.f α) [] []] h (λv h'=> ∃(p:Nat) (t:Int),v= .tup [aC p,aC t]/\a<=p/\p<b/\Fr h h'):=by
 refine vZ (SE (α:=α) aG.ok deC) rfl ?_
 obtain⟨n,hn⟩:=exI (b-a)
 have en:(b:Int)-(a:Int)=(n:Int):=om
 have W:=aeC n (k:=4) (m:=4) rfl
 obtain⟨q,hq⟩:=exI (n/4)
 rw[hq] at W
 have ei:(a:Int)+(q:Int)*1=((a+q:Nat):Int):=om
 have ej:(a:Int)+(q:Int)*2=((a+q*2:Nat):Int):=om
 have ek:(a:Int)+(q:Int)*3=((a+q*3:Nat):Int):=om
 obtain⟨R,U⟩:=exI h.next
 have l:R≠S:=by have:=A.lt;omega
 have c:oE.b0 α<=R:=by have:=O.bn _ A.base;omega
 obtain⟨s,r⟩: ∃s,s=h.new (.cells false [aC 0]):=⟨_,rfl⟩
 have g1:s.get R=cE [aC 0]:=by rw[r,<-U,H.aI]
 have n1:s.next=R+1:=by rw[r,H.aM,U]
 have f1:Fr h s:=by rw[r];exact (Fr.refl h).new _
 have A1:=A.fr f1
 have L:(p:Nat)->(o:H)->a<=p->p<b->Fx (· =R) s o->a<=p/\p<b/\Fr h o:=λp o x1 x2 x3=>⟨x1,x2,kQ f1.next x3.next,λid a0=>(x3.get id om (λe=>by have:id=R:=e;omega)).trans (f1.get id a0)⟩
 by_cases h8:(8:Int)<=(n:Int)
 case neg=>
  have Y:=bZ h8;simp(disch:=omega)only[go_sem,aG,aV,en,W,ei,ej,ek,Y];rw[<-r];have cR:s.cell R 0=some (aC 0):=by rw[H.cell_of g1];rfl
  simp(disch:=omega)only[go_sem,U,cR];refine bV (λ_=>?_) (λhc=>(hc (by trivial)).elim);refine aT ?_;exact⟨a+q*2,1,rfl,L _ _ om om (Fx.refl _ _)⟩
 have Y:=cV h8
 have w:(i j k:Nat)->(o:H)->(P:Int)->a<=i->i<b->a<=j->j<b->a<=k->k<b->Bh o S N d->o.get R=cE [aC P]->R<o.next->Fx (· =R) s o->
   Ev T (oE.ρ α 233) [.sl S 0 N J,aC i,aC j,aC k,.ptr R 0,.fn (oE.f α) [] []] o (λv h'=> ∃p u,v= aC (p:Nat)/\a<=p/\p<b/\h'.get R=cE [aC u]/\Fr h h'):=by
  intro i j k o P i1 i2 j1 j2 k1 k2 A2 g2 n2 F2
  refine (DV o S N i j k R d J Z A2 om om om l n2 c P g2).mono ?_
  rintro _ y ⟨⟨p,rfl,hp⟩,⟨u,G⟩,K⟩
  exact⟨p,u,rfl,om,om,G,(L p y om om (F2.trans K λ_ _ h=>h)).2.2⟩
 by_cases Q:(50:Int)<=(n:Int)
 case neg=>
  have F:=bZ Q;simp(disch:=omega)only[go_sem,aG,aV,en,W,ei,ej,ek,Y,F];rw[<-r];refine bM U ?_;refine (w (a+q) (a+q*2) (a+q*3) s 0 om om om om om om A1 g1 om (Fx.refl _ _)).mono ?_;rintro _ y ⟨p,u,rfl,z,x,G,B⟩;have cR:y.cell R 0=some (aC u):=by rw[H.cell_of G];rfl
  simp(disch:=omega)only[go_sem,cR];refine bV (λ_=>?_) (λ_=>?_)
  .refine aT ?_
   exact⟨p,1,rfl,z,x,B⟩
  .refine aT ?_
   refine bV (λ_=>?_) (λ_=>?_)
   .refine aT ?_
    exact⟨p,2,rfl,z,x,B⟩
   .refine aT ?_
    exact⟨p,0,rfl,z,x,B⟩
 have F:=cV Q
 simp(disch:=omega)only[go_sem,aG,aV,en,W,ei,ej,ek,Y,F]
 rw[<-r]
 refine bM U ?_
 refine (Mq s S N (a+q) R d J Z A1 om om l om c 0 g1).mono ?_
 rintro _ o ⟨⟨i,rfl,hi⟩,⟨P,g2⟩,F2⟩
 have A2:=A1.fxo F2 l c
 have n2:=F2.next
 refine aT ?_
 refine (Mq o S N (a+q*2) R d J Z A2 om om l om c P g2).mono ?_
 rintro _ y ⟨⟨j,rfl,hj⟩,⟨u,G⟩,K⟩
 have A3:=A2.fxo K l c
 have n3:=K.next
 refine aT ?_
 refine (Mq y S N (a+q*3) R d J Z A3 om om l om c u G).mono ?_
 rintro _ h4 ⟨⟨k,rfl,hk⟩,⟨s4,g4⟩,F4⟩
 have A4:=A3.fxo F4 l c
 have n4:=F4.next
 refine aT ?_
 refine (w i j k h4 s4 om om om om om om A4 g4 om ((F2.trans K λ_ _ h=>h).trans F4 λ_ _ h=>h)).mono ?_
 rintro _ y ⟨p,u,rfl,z,x,G,B⟩
 have cR:y.cell R 0=some (aC u):=by rw[H.cell_of G];rfl
 simp(disch:=omega)only[go_sem,cR]
 refine bV (λ_=>?_) (λ_=>?_)
 .refine aT ?_
  exact⟨p,1,rfl,z,x,B⟩
 .refine aT ?_
  refine bV (λ_=>?_) (λ_=>?_)
  .refine aT ?_
   exact⟨p,2,rfl,z,x,B⟩
  .refine aT ?_
   exact⟨p,0,rfl,z,x,B⟩
section
variable {j b:Nat}
theorem anG {α:Type}[Inhabited α]{lt:α->α->Bool}{d:Array α}(h:lt d[j+1]! d[j]! =true):shiftDown lt (j+1) d=shiftDown lt j (swp d (j+1) j):=by rw[shiftDown,aQ (by simp [h])]
theorem anJ {α:Type}[Inhabited α]{lt:α->α->Bool}{d:Array α}(h:lt d[j+1]! d[j]! =false):shiftDown lt (j+1) d=d:=by rw[shiftDown,aS (by simp [h])]
theorem anH {α:Type}[Inhabited α]{lt:α->α->Bool}{d:Array α}(a:j<b)(h:lt d[j]! d[j- 1]! =true):shiftUp lt b j d=shiftUp lt b (j+1) (swp d j (j- 1)):=by rw[shiftUp,aS a,aQ (by simp [h])]
theorem anC {α:Type}[Inhabited α]{lt:α->α->Bool}{d:Array α}(a:j<b)(h:lt d[j]! d[j- 1]! =false):shiftUp lt b j d=d:=by rw[shiftUp,aS a,aS (by simp [h])]
theorem anK {α:Type}[Inhabited α]{lt:α->α->Bool}{i:Nat}{d:Array α}(hi:i<b)(h:lt d[i]! d[i- 1]! =false):scanSorted lt d b i=scanSorted lt d b (i+1):=by rw[scanSorted,aS (by simp [h,hi])]
theorem alS {α:Type}[Inhabited α]{lt:α->α->Bool}{i:Nat}{d:Array α}(h: ¬(i<b/\lt d[i]! d[i- 1]! =false)):scanSorted lt d b i=i:=by rw[scanSorted,aQ (by simpa using h)]
theorem ajB {α:Type}[Inhabited α](lt:α->α->Bool)(a b s i:Nat)(d:Array α):partialIns lt a b (s+1) i d=if scanSorted lt d b i=b then (d,true) else if b-a<50 then (d,false) else
  partialIns lt a b s (scanSorted lt d b i) (if b-scanSorted lt d b i>=2 then shiftUp lt b (scanSorted lt d b i+1) (if scanSorted lt d b i-a>=2 then shiftDown lt (scanSorted lt d b i- 1) (swp d (scanSorted lt d b i) (scanSorted lt d b i- 1)) else swp d (scanSorted lt d b i) (scanSorted lt d b i- 1)) else
   (if scanSorted lt d b i-a>=2 then shiftDown lt (scanSorted lt d b i- 1) (swp d (scanSorted lt d b i) (scanSorted lt d b i- 1)) else swp d (scanSorted lt d b i) (scanSorted lt d b i- 1))):=by rw[partialIns]
theorem RM {α:Type}[Inhabited α][O:oE α](h:H)(S N a b:Nat)(d:Array α)(Z:qD)(hN:N<1000000)(A:Bh h S N d)(hb:b<=N)(b5:a<b):
  Ev T (oE.ρ α 183) [.sl S 0 N Z,aC a,aC b,.fn (oE.f α) [] []] h (λv h'=>v= .bool (partialInsertionSort oE.lt d a b).2/\Bh h' S N (partialInsertionSort oE.lt d a b).1/\Fx (· =S) h h'):=by
 refine vZ (SE (α:=α) cG.ok deC) rfl ?_
 simp(disch:=omega)only[go_sem,cG,aV]
 rw[fJ a]
 refine aP (λk c t=> ∃(s i:Nat) (e:Array α),(∃g:Nat->V,c= [.sl S 0 N Z,aC a,aC b,.fn (oE.f α) [] [],g 4,aC i,aC (5-(s:Int)),g 7,g 8,g 9,g 10,g 11,g 12,g 13,g 14,g 15,g 16,g 17,g 18])/\s<=5/\a<i/\i<=b/\Bh t S N e/\partialIns oE.lt a b s i e=partialInsertionSort oE.lt d a b/\Fx (· =S) h t/\k=s) 5
  ⟨5,a+1,d,aD rfl,om,om,om,A,rfl,Fx.refl _ h,rfl⟩ ?_
 clear A
 rintro k c h1 ⟨s,i,e,⟨g,rfl⟩,hs,b1,b0,A,l,F,hk⟩
 subst hk
 by_cases K:(5:Int)-(k:Int)<5
 case neg=>
  have e1:=bZ K;obtain rfl:k=0:=om
  refine bM e1 ?_;have l:(e,false)=partialInsertionSort oE.lt d a b:=l;rw[<-l];exact⟨rfl,A,F⟩
 have e1:=cV K
 obtain⟨s,rfl⟩: ∃s,k=s+1:=⟨k- 1,om⟩
 refine bM e1 ?_
 rw[ajB] at l
 refine aP (λk c t=> ∃(m:Nat),(∃g:Nat->V,c= [.sl S 0 N Z,aC a,aC b,.fn (oE.f α) [] [],g 4,aC m,aC (5-((s+1:Nat):Int)),g 7,g 8,g 9,g 10,g 11,g 12,g 13,g 14,g 15,g 16,g 17,g 18])/\a<m/\m<=b/\Bh t S N e/\scanSorted oE.lt e b m=scanSorted oE.lt e b i/\Fx (· =S) h t/\k=b-m) (b-i)
  ⟨i,aD rfl,b1,b0,A,rfl,F,rfl⟩ ?_
 clear A F K e1
 rintro k c y ⟨m,⟨g,rfl⟩,b6,b7,A,hS,F,rfl⟩
 have sz:=A.size
 have Q:(m:Int)- 1=((m- 1:Nat):Int):=om
 have a2:(m:Int)+1=((m+1:Nat):Int):=om
 by_cases a4:(m:Int)<(b:Int)
 case neg=>
  have e1:=bZ a4;have em:m=b:=om
  rw[alS om] at hS;rw[<-hS,aS em] at l;have e2:decide ((m:Int)=(b:Int))=true:=cV om;refine eZ e1 e2 ?_;rw[<-l];exact⟨rfl,A.fr ((Fr.refl y).cU om),Ps F (Fx.of ((Fr.refl y).cU om))⟩
 have e1:=cV a4
 have o:=A.rd (i:=m) om
 have n:=A.rd (i:=m- 1) om
 refine jX e1 Q o n ?_
 refine (acG A (i:=m) (j:=m- 1) om om _ om).mono ?_
 rintro _ h3 ⟨z,rfl,u,a7⟩
 have P:Fr y h3:=Fr.trans ((Fr.refl y).cU om) a7
 have G:=A.fr P
 have F3:=Ps F (Fx.of P)
 cases hl:oE.lt e[m]! e[m- 1]! with
 |false=>
  rw[anK om hl] at hS;refine iG u hl a2 ?_;exact⟨b-(m+1),om,m+1,aD rfl,om,om,G,hS,F3,rfl⟩
 |true=>
  rw[alS (by rw[hl];simp)] at hS;rw[<-hS,aQ om] at l;have e2:decide ((m:Int)=(b:Int))=false:=bZ om
  by_cases a8:(b:Int)-(a:Int)<50
  .have R:=cV a8
   rw[aS om] at l;refine jX u hl e2 R ?_;rw[<-l];exact⟨rfl,G,F3⟩
  have R:=bZ a8;rw[aQ om] at l;have o:=G.rd (i:=m) om;have n:=G.rd (i:=m- 1) om;simp(disch:=omega)only[go_sem,u,hl,e2,R,Q,o,n,G.get,xA,Gq];have W:=G.swap (i:=m) (j:=m- 1) (nx:=h3.next+18) om rfl
  obtain⟨h4,a1⟩: ∃h4,h4=((H.mk h3.tr (h3.next+18)).set S (cE (flat (e.setIfInBounds m e[m- 1]!).toList))).set S (cE (flat ((e.setIfInBounds m e[m- 1]!).setIfInBounds (m- 1) e[m]!).toList)):=⟨_,rfl⟩
  rw[<-a1] at W |-;obtain⟨A4,F4⟩:=W;have L:=Ps F3 F4;clear a1 F4 G F3 P a7 o n;obtain⟨Y,a0⟩:=exI (swp e m (m- 1));rw[a0] at A4 l;refine Pl (λvs h5=> ∃U,(∃g:Nat->V,vs= [.sl S 0 N Z,aC a,aC b,.fn (oE.f α) [] [],g 4,aC m,aC (5-((s+1:Nat):Int)),g 7,g 8,g 9,g 10,g 11,g 12,g 13,g 14,g 15,g 16,g 17,g 18])/\Bh h5 S N U/\U=(if m-a>=2 then shiftDown oE.lt (m- 1) Y else Y)/\Fx (· =S) h h5) ?_ ?_
  .refine bV (λy=>?_) (λy=>?_)
   .refine bM Q ?_
    refine aP (λk c t=> ∃(j:Nat) (x:Array α),(∃g:Nat->V,c= [.sl S 0 N Z,aC a,aC b,.fn (oE.f α) [] [],g 4,aC m,aC (5-((s+1:Nat):Int)),aC j,g 8,g 9,g 10,g 11,g 12,g 13,g 14,g 15,g 16,g 17,g 18])/\j<b/\Bh t S N x/\shiftDown oE.lt j x=shiftDown oE.lt (m- 1) Y/\Fx (· =S) h t/\k=j) (m- 1)
     ⟨m- 1,Y,aD rfl,om,A4,rfl,L,rfl⟩ ?_
    rintro k c h5 ⟨j,x,⟨g,rfl⟩,hj,w,B,F5,hk⟩;subst hk;have b8:=w.size
    by_cases h1:(1:Int)<=(k:Int)
    .have e1:=cV h1
     obtain⟨q,rfl⟩: ∃q,k=q+1:=⟨k- 1,om⟩
     have a6:((q+1:Nat):Int)- 1=(q:Int):=om
     have o:=w.rd (i:=q+1) om;have n:=w.rd (i:=q) om;refine jX e1 a6 o n ?_;refine (acG w (i:=q+1) (j:=q) om om _ om).mono ?_;rintro _ h6 ⟨z,rfl,u,b3⟩;have f6:Fr h5 h6:=Fr.trans ((Fr.refl h5).cU om) b3;have r:=w.fr f6;have F6:=Ps F5 (Fx.of f6)
     cases hl:oE.lt x[q+1]! x[q]! with
     |false=>
      rw[anJ hl] at B;refine eZ u hl ?_;exact .inl ⟨x,aD rfl,r,by rw[aS om,<-B],F6⟩
     |true=>
      rw[anG hl] at B;have o:=r.rd (i:=q+1) om;have n:=r.rd (i:=q) om;refine wY u hl a6 o n @r.get @xA @Gq ?_;have W:=r.swap (i:=q+1) (j:=q) (nx:=h6.next+18) om rfl;exact⟨q,om,q,_,aD rfl,om,W.1,B,Ps F6 W.2,rfl⟩
    .have e1:=bZ h1
     obtain rfl:k=0:=om
     refine bM e1 ?_;have B:x=shiftDown oE.lt (m- 1) Y:=B;exact .inl ⟨x,aD rfl,w,by rw[aS om,<-B],F5⟩
   .refine aT ?_
    exact .inl ⟨Y,aD rfl,A4,by rw[aQ om],L⟩
  .rintro c h5 ⟨U,⟨g,rfl⟩,w,a3,F5⟩
   rw[<-a3] at l;clear A4 L a3 a0;refine aT ?_;have J:(5:Int)-((s+1:Nat):Int)+1=5-(s:Int):=om
   refine bV (λy=>?_) (λy=>?_)
   .rw[aS om] at l
    refine bM a2 ?_;refine aP (λk c t=> ∃(j:Nat) (x:Array α),(∃g:Nat->V,c= [.sl S 0 N Z,aC a,aC b,.fn (oE.f α) [] [],g 4,aC m,aC (5-((s+1:Nat):Int)),g 7,aC j,g 9,g 10,g 11,g 12,g 13,g 14,g 15,g 16,g 17,g 18])/\0<j/\j<=b/\Bh t S N x/\shiftUp oE.lt b j x=shiftUp oE.lt b (m+1) U/\Fx (· =S) h t/\k=b-j) (b-(m+1))
     ⟨m+1,U,aD rfl,om,om,w,rfl,F5,rfl⟩ ?_
    rintro k c h6 ⟨j,x,⟨g,rfl⟩,b4,hj,r,hU,F6,rfl⟩;have b9:=r.size
    by_cases h1:(j:Int)<(b:Int)
    .have e1:=cV h1
     have a5:(j:Int)- 1=((j- 1:Nat):Int):=om
     have b2:(j:Int)+1=((j+1:Nat):Int):=om
     have o:=r.rd (i:=j) om;have n:=r.rd (i:=j- 1) om;refine jX e1 a5 o n ?_;refine (acG r (i:=j) (j:=j- 1) om om _ om).mono ?_;rintro _ h7 ⟨z,rfl,u,a9⟩;have f7:Fr h6 h7:=Fr.trans ((Fr.refl h6).cU om) a9;have A7:=r.fr f7;have F7:=Ps F6 (Fx.of f7)
     cases hl:oE.lt x[j]! x[j- 1]! with
     |false=>
      rw[anC om hl] at hU;rw[<-hU] at l;refine iG u hl J ?_;exact⟨s,om,s,m,x,aD rfl,om,om,om,A7,l,F7,rfl⟩
     |true=>
      rw[anH om hl] at hU;have o:=A7.rd (i:=j) om;have n:=A7.rd (i:=j- 1) om;refine Ux u hl a5 b2 o n @A7.get @xA @Gq ?_;have W:=A7.swap (i:=j) (j:=j- 1) (nx:=h7.next+18) om rfl;exact⟨b-(j+1),om,j+1,_,aD rfl,om,om,W.1,hU,Ps F7 W.2,rfl⟩
    .have e1:=bZ h1
     rw[shiftUp,aQ om] at hU;rw[<-hU] at l;refine eZ e1 J ?_;exact⟨s,om,s,m,x,aD rfl,om,om,om,r,l,F6,rfl⟩
   .rw[aQ om] at l
    refine bM J ?_;exact⟨s,om,s,m,U,aD rfl,om,om,om,w,l,F5,rfl⟩
end
section
variable {j i:Nat}
theorem aaK {α:Type}[Inhabited α]{p:α->Bool}{d:Array α}(a:i<=j)(h2:p d[i]! =true):scanUp p d j i=scanUp p d j (i+1):=by rw[scanUp,aS (by simp [a,h2])]
theorem Zi {α:Type}[Inhabited α]{p:α->Bool}{d:Array α}(h: ¬(i<=j/\p d[i]! =true)):scanUp p d j i=i:=by rw[scanUp,aQ (by simpa using h)]
theorem ahA {α:Type}[Inhabited α]{p:α->Bool}{d:Array α}(a:i<=j+1)(h2:p d[j+1]! =true):scanDown p d i (j+1)=scanDown p d i j:=by rw[scanDown,aS (by simp [a,h2])]
theorem ET {α:Type}[Inhabited α]{p:α->Bool}{d:Array α}(h: ¬(i<=j/\p d[j]! =true)):scanDown p d i j=j:=by
 cases j with
 |zero=>rfl
 |succ j=>rw[scanDown,aQ (by simpa using h)]
theorem Xy {α:Type}[Inhabited α](p:α->Bool)(d:Array α)(j i:Nat):scanUp p d j i<=max i (j+1):=by
 obtain⟨n,a⟩:=exI (j+1-i)
 induction n generalizing i with
 |zero=>rw[Zi (λh=>by have:=h.1;omega)];omega
 |succ n ih=>
  by_cases h:i<=j/\p d[i]! =true
  .rw[aaK h.1 h.2]
   have:=ih (i+1) om;omega
  .rw[Zi h];omega
theorem KB {α:Type}[Inhabited α][O:oE α](h:H)(S N a b pv:Nat)(d:Array α)(cp:qD)(hN:N<1000000)(A:Bh h S N d)(hb:b<=N)(b8:a<=pv)(b7:pv<b):
  Ev T (oE.ρ α 185) [.sl S 0 N cp,aC a,aC b,aC pv,.fn (oE.f α) [] []] h (λv h'=>v= .tup [aC ((partition oE.lt d a b pv).1:Nat),.bool (partition oE.lt d a b pv).2.1]/\Bh h' S N (partition oE.lt d a b pv).2.2/\Fx (· =S) h h'):=by
 refine vZ (SE (α:=α) nK.ok deC) rfl ?_
 have sz:=A.size
 have P:=A.rd (i:=a) om
 have L:=A.rd (i:=pv) om
 simp(disch:=omega)only[go_sem,nK,aV,P,L,A.get,xA,Gq]
 have W:=A.swap (i:=a) (j:=pv) (nx:=h.next+16) om rfl
 obtain⟨h1,b2⟩: ∃h1,h1=((H.mk h.tr (h.next+16)).set S (cE (flat (d.setIfInBounds a d[pv]!).toList))).set S (cE (flat ((d.setIfInBounds a d[pv]!).setIfInBounds pv d[a]!).toList)):=⟨_,rfl⟩
 rw[<-b2] at W |-
 obtain⟨A1,F1⟩:=W
 obtain⟨e,he⟩:=exI (swp d a pv)
 rw[he] at A1
 clear b2 P L A
 have eb:(b:Int)- 1=((b- 1:Nat):Int):=om
 have ea:(a:Int)+1=((a+1:Nat):Int):=om
 have hP:partition oE.lt d a b pv=if scanUp (λx=>oE.lt x e[a]!) e (b- 1) (a+1)>scanDown (λx=>!oE.lt x e[a]!) e (scanUp (λx=>oE.lt x e[a]!) e (b- 1) (a+1)) (b- 1) then
   (scanDown (λx=>!oE.lt x e[a]!) e (scanUp (λx=>oE.lt x e[a]!) e (b- 1) (a+1)) (b- 1),true,swp e (scanDown (λx=>!oE.lt x e[a]!) e (scanUp (λx=>oE.lt x e[a]!) e (b- 1) (a+1)) (b- 1)) a) else
   ((partLoop oE.lt a (scanUp (λx=>oE.lt x e[a]!) e (b- 1) (a+1)+1) (scanDown (λx=>!oE.lt x e[a]!) e (scanUp (λx=>oE.lt x e[a]!) e (b- 1) (a+1)) (b- 1)- 1) (swp e (scanUp (λx=>oE.lt x e[a]!) e (b- 1) (a+1)) (scanDown (λx=>!oE.lt x e[a]!) e (scanUp (λx=>oE.lt x e[a]!) e (b- 1) (a+1)) (b- 1)))).1,false,
    swp (partLoop oE.lt a (scanUp (λx=>oE.lt x e[a]!) e (b- 1) (a+1)+1) (scanDown (λx=>!oE.lt x e[a]!) e (scanUp (λx=>oE.lt x e[a]!) e (b- 1) (a+1)) (b- 1)- 1) (swp e (scanUp (λx=>oE.lt x e[a]!) e (b- 1) (a+1)) (scanDown (λx=>!oE.lt x e[a]!) e (scanUp (λx=>oE.lt x e[a]!) e (b- 1) (a+1)) (b- 1)))).2 (partLoop oE.lt a (scanUp (λx=>oE.lt x e[a]!) e (b- 1) (a+1)+1) (scanDown (λx=>!oE.lt x e[a]!) e (scanUp (λx=>oE.lt x e[a]!) e (b- 1) (a+1)) (b- 1)- 1) (swp e (scanUp (λx=>oE.lt x e[a]!) e (b- 1) (a+1)) (scanDown (λx=>!oE.lt x e[a]!) e (scanUp (λx=>oE.lt x e[a]!) e (b- 1) (a+1)) (b- 1)))).1 a):=by
  rw[<-he];rfl
 obtain⟨R,a9⟩:=exI (partition oE.lt d a b pv)
 rw[a9] at hP
 rw[a9]
 refine eZ ea eb ?_
 refine dG (λK c=>(∃g:Nat->V,K= [.sl S 0 N cp,aC a,aC b,aC pv,.fn (oE.f α) [] [],g 5,g 6,aC (scanUp (λx=>oE.lt x e[a]!) e (b- 1) (a+1):Nat),aC ((b- 1):Nat),g 9,g 10,g 11,g 12,g 13,g 14])/\Bh c S N e/\Fx (· =S) h c) ?_ ?_
 .refine aP (λJ K c=> ∃(k:Nat),(∃g:Nat->V,K= [.sl S 0 N cp,aC a,aC b,aC pv,.fn (oE.f α) [] [],g 5,g 6,aC (k:Nat),aC ((b- 1):Nat),g 9,g 10,g 11,g 12,g 13,g 14])/\(a+1)<=k/\k<=N+2/\Bh c S N e/\scanUp (λx=>oE.lt x e[a]!) e (b- 1) k=scanUp (λx=>oE.lt x e[a]!) e (b- 1) (a+1)/\Fx (· =S) h c/\J=(b- 1)+1-k) ((b- 1)+1-(a+1))
   ⟨(a+1),aD rfl,om,om,A1,rfl,F1,rfl⟩ ?_
  rintro J n Q ⟨k,⟨g,rfl⟩,a6,b6,o,q,Fs,rfl⟩
  by_cases l:(k:Int)<=(((b- 1):Nat):Int)
  .have e1:decide ((k:Int)<=(((b- 1):Nat):Int))=true:=cV l
   have eK:(k:Int)+1=((k+1:Nat):Int):=om
   have a7:=o.size
   have P:=o.rd (i:=k) om
   have L:=o.rd (i:=a) om
   refine iG e1 P L ?_
   refine (acG o (i:=k) (j:=a) om om _ om).mono ?_
   rintro _ U ⟨z,rfl,hz,t⟩
   have y:Fr Q U:=Fr.trans ((Fr.refl Q).cU om) t
   have B:=o.fr y
   have F:=Ps Fs (Fx.of y)
   cases hl:oE.lt e[k]! e[a]! with
   |false=>
    rw[Zi (λc=>by have:=c.2;simp [hl] at this)] at q;refine eZ hz hl ?_;exact⟨by rw[<-q];exact aD rfl,B,F⟩
   |true=>
    rw[aaK om (by simp [hl])] at q;refine iG hz hl eK ?_;exact⟨(b- 1)+1-(k+1),om,k+1,aD rfl,om,om,B,q,F,rfl⟩
  .have e1:decide ((k:Int)<=(((b- 1):Nat):Int))=false:=bZ l
   rw[Zi (λc=>l (by have:=c.1;omega))] at q
   refine bM e1 ?_
   exact⟨by rw[<-q];exact aD rfl,o.fr ((Fr.refl Q).cU om),Ps Fs (Fx.of ((Fr.refl Q).cU om))⟩
 .rintro n h9 ⟨⟨g,rfl⟩,A9,F9⟩
  have a2:=scanUp_ge (λx=>oE.lt x e[a]!) e (b- 1) (a+1)
  have a3:=Xy (λx=>oE.lt x e[a]!) e (b- 1) (a+1)
  obtain⟨s,Z⟩: ∃x,scanUp (λx=>oE.lt x e[a]!) e (b- 1) (a+1)=x:=⟨_,rfl⟩
  rw[Z] at a2 a3
  rw[Z]
  refine aT ?_
  refine dG (λK c=>(∃g:Nat->V,K= [.sl S 0 N cp,aC a,aC b,aC pv,.fn (oE.f α) [] [],g 5,g 6,aC (s:Nat),aC (scanDown (λx=>!oE.lt x e[a]!) e s (b- 1):Nat),g 9,g 10,g 11,g 12,g 13,g 14])/\Bh c S N e/\Fx (· =S) h c) ?_ ?_
  .refine aP (λJ K c=> ∃(k:Nat),(∃g:Nat->V,K= [.sl S 0 N cp,aC a,aC b,aC pv,.fn (oE.f α) [] [],g 5,g 6,aC (s:Nat),aC (k:Nat),g 9,g 10,g 11,g 12,g 13,g 14])/\k<=(b- 1)/\Bh c S N e/\scanDown (λx=>!oE.lt x e[a]!) e s k=scanDown (λx=>!oE.lt x e[a]!) e s (b- 1)/\Fx (· =S) h c/\J=k) (b- 1)
    ⟨(b- 1),aD rfl,om,A9,rfl,F9,rfl⟩ ?_
   rintro J n Q ⟨k,⟨g,rfl⟩,a6,o,q,Fs,a1⟩
   subst a1
   by_cases l:((s:Nat):Int)<=(J:Int)
   .have e1:=cV l
    obtain⟨k,rfl⟩: ∃k,J=k+1:=⟨J- 1,om⟩
    have eK:((k+1:Nat):Int)- 1=(k:Int):=om
    have a7:=o.size
    have P:=o.rd (i:=k+1) om
    have L:=o.rd (i:=a) om
    refine iG e1 P L ?_
    refine (acG o (i:=k+1) (j:=a) om om _ om).mono ?_
    rintro _ U ⟨z,rfl,hz,t⟩
    have y:Fr Q U:=Fr.trans ((Fr.refl Q).cU om) t
    have B:=o.fr y
    have F:=Ps Fs (Fx.of y)
    cases hl:oE.lt e[k+1]! e[a]! with
    |true=>
     rw[ET (λc=>by have:=c.2;simp [hl] at this)] at q;refine eZ hz hl ?_;exact⟨by rw[<-q];exact aD rfl,B,F⟩
    |false=>
     rw[ahA om (by simp [hl])] at q;refine iG hz hl eK ?_;exact⟨k,om,k,aD rfl,om,B,q,F,rfl⟩
   .have e1:=bZ l
    rw[ET (λc=>l (by have:=c.1;omega))] at q
    refine bM e1 ?_
    exact⟨by rw[<-q];exact aD rfl,o.fr ((Fr.refl Q).cU om),Ps Fs (Fx.of ((Fr.refl Q).cU om))⟩
  .rintro n h2 ⟨⟨g,rfl⟩,A2,F2⟩
   have a4:=scanDown_le (λx=>!oE.lt x e[a]!) e s (b- 1)
   obtain⟨G,a5⟩: ∃x,scanDown (λx=>!oE.lt x e[a]!) e s (b- 1)=x:=⟨_,rfl⟩
   rw[a5] at a4
   rw[a5]
   rw[Z,a5] at hP
   have b5:=A2.size
   by_cases Y:(G:Int)<(s:Int)
   .have e1:=cV Y
    rw[aS om] at hP
    have P:=A2.rd (i:=G) om
    have L:=A2.rd (i:=a) om
    refine wE e1 P L @A2.get @xA @Gq ?_
    have W:=A2.swap (i:=G) (j:=a) (nx:=h2.next+16) om rfl
    rw[hP]
    exact⟨rfl,W.1,Ps F2 W.2⟩
   have e1:=bZ Y
   rw[aQ om] at hP
   have P:=A2.rd (i:=s) om
   have L:=A2.rd (i:=G) om
   refine wE e1 P L @A2.get @xA @Gq ?_
   have W:=A2.swap (i:=s) (j:=G) (nx:=h2.next+16) om rfl
   obtain⟨h3,b1⟩: ∃h3,h3=((H.mk h2.tr (h2.next+16)).set S (cE (flat (e.setIfInBounds s e[G]!).toList))).set S (cE (flat ((e.setIfInBounds s e[G]!).setIfInBounds G e[s]!).toList)):=⟨_,rfl⟩
   rw[<-b1] at W |-
   obtain⟨A3,b3⟩:=W
   have F3:=Ps F2 b3
   have a8:s<=G:=om
   obtain⟨e0,b0⟩:=exI (swp e s G)
   rw[b0] at A3 hP
   clear b1 P L A2 A9 F9 A1 F1 he Y e1
   have ei:(s:Int)+1=((s+1:Nat):Int):=om
   have ej:(G:Int)- 1=((G- 1:Nat):Int):=om
   refine eZ ei ej ?_
   refine dG (λK c=>(∃g:Nat->V,K= [.sl S 0 N cp,aC a,aC b,aC pv,.fn (oE.f α) [] [],g 5,g 6,g 7,aC (((partLoop oE.lt a (s+1) (G- 1) e0).1:Nat):Int),g 9,g 10,g 11,g 12,g 13,g 14])/\Bh c S N (partLoop oE.lt a (s+1) (G- 1) e0).2/\(partLoop oE.lt a (s+1) (G- 1) e0).1<b/\Fx (· =S) h c) ?_ ?_
   .refine aP (λJ K c=> ∃(i j:Nat) (e:Array α),(∃g:Nat->V,K= [.sl S 0 N cp,aC a,aC b,aC pv,.fn (oE.f α) [] [],g 5,g 6,aC i,aC j,g 9,g 10,g 11,g 12,g 13,g 14])/\a<i/\i<=b+1/\j<b/\Bh c S N e/\partLoop oE.lt a i j e=partLoop oE.lt a (s+1) (G- 1) e0/\Fx (· =S) h c/\J=j) (G- 1)
     ⟨s+1,G- 1,e0,aD rfl,om,om,om,A3,rfl,F3,rfl⟩ ?_
    obtain⟨R2,b4⟩:=exI (partLoop oE.lt a (s+1) (G- 1) e0)
    rw[b4]
    clear hP b4 Z a5 b0 ei ej a4 a2 a3 F3 b3 A3 b5 h3 a8
    clear s G
    rintro J n h3 ⟨i,j,e,⟨g,rfl⟩,b9,Z,hj,A3,hL,F3,a1⟩
    rw[partLoop_eq] at hL
    refine aT ?_
    refine dG (λK c=>(∃g:Nat->V,K= [.sl S 0 N cp,aC a,aC b,aC pv,.fn (oE.f α) [] [],g 5,g 6,aC (scanUp (λx=>oE.lt x e[a]!) e j i:Nat),aC (j:Nat),g 9,g 10,g 11,g 12,g 13,g 14])/\Bh c S N e/\Fx (· =S) h c) ?_ ?_
    .refine aP (λJ K c=> ∃(k:Nat),(∃g:Nat->V,K= [.sl S 0 N cp,aC a,aC b,aC pv,.fn (oE.f α) [] [],g 5,g 6,aC (k:Nat),aC (j:Nat),g 9,g 10,g 11,g 12,g 13,g 14])/\i<=k/\k<=N+2/\Bh c S N e/\scanUp (λx=>oE.lt x e[a]!) e j k=scanUp (λx=>oE.lt x e[a]!) e j i/\Fx (· =S) h c/\J=j+1-k) (j+1-i)
      ⟨i,aD rfl,om,om,A3,rfl,F3,rfl⟩ ?_
     rintro J n Q ⟨k,⟨g,rfl⟩,a6,b6,o,q,Fs,rfl⟩
     by_cases l:(k:Int)<=((j:Nat):Int)
     .have e1:=cV l
      have eK:(k:Int)+1=((k+1:Nat):Int):=om
      have a7:=o.size
      have P:=o.rd (i:=k) om
      have L:=o.rd (i:=a) om
      refine iG e1 P L ?_
      refine (acG o (i:=k) (j:=a) om om _ om).mono ?_
      rintro _ U ⟨z,rfl,hz,t⟩
      have y:Fr Q U:=Fr.trans ((Fr.refl Q).cU om) t
      have B:=o.fr y
      have F:=Ps Fs (Fx.of y)
      cases hl:oE.lt e[k]! e[a]! with
      |false=>
       rw[Zi (λc=>by have:=c.2;simp [hl] at this)] at q;refine eZ hz hl ?_;exact⟨by rw[<-q];exact aD rfl,B,F⟩
      |true=>
       rw[aaK om (by simp [hl])] at q;refine iG hz hl eK ?_;exact⟨j+1-(k+1),om,k+1,aD rfl,om,om,B,q,F,rfl⟩
     .have e1:=bZ l
      rw[Zi (λc=>l (by have:=c.1;omega))] at q
      refine bM e1 ?_
      exact⟨by rw[<-q];exact aD rfl,o.fr ((Fr.refl Q).cU om),Ps Fs (Fx.of ((Fr.refl Q).cU om))⟩
    .rintro n h9 ⟨⟨g,rfl⟩,A9,F9⟩
     have a2:=scanUp_ge (λx=>oE.lt x e[a]!) e j i
     have a3:=Xy (λx=>oE.lt x e[a]!) e j i
     obtain⟨u,hu⟩: ∃x,scanUp (λx=>oE.lt x e[a]!) e j i=x:=⟨_,rfl⟩
     rw[hu] at a2 a3
     rw[hu]
     refine aT ?_
     refine dG (λK c=>(∃g:Nat->V,K= [.sl S 0 N cp,aC a,aC b,aC pv,.fn (oE.f α) [] [],g 5,g 6,aC (u:Nat),aC (scanDown (λx=>!oE.lt x e[a]!) e u j:Nat),g 9,g 10,g 11,g 12,g 13,g 14])/\Bh c S N e/\Fx (· =S) h c) ?_ ?_
     .refine aP (λJ K c=> ∃(k:Nat),(∃g:Nat->V,K= [.sl S 0 N cp,aC a,aC b,aC pv,.fn (oE.f α) [] [],g 5,g 6,aC (u:Nat),aC (k:Nat),g 9,g 10,g 11,g 12,g 13,g 14])/\k<=j/\Bh c S N e/\scanDown (λx=>!oE.lt x e[a]!) e u k=scanDown (λx=>!oE.lt x e[a]!) e u j/\Fx (· =S) h c/\J=k) j
       ⟨j,aD rfl,om,A9,rfl,F9,rfl⟩ ?_
      rintro J n Q ⟨k,⟨g,rfl⟩,a6,o,q,Fs,a1⟩
      subst a1
      by_cases l:((u:Nat):Int)<=(J:Int)
      .have e1:=cV l
       obtain⟨k,rfl⟩: ∃k,J=k+1:=⟨J- 1,om⟩
       have eK:((k+1:Nat):Int)- 1=(k:Int):=om
       have a7:=o.size
       have P:=o.rd (i:=k+1) om
       have L:=o.rd (i:=a) om
       refine iG e1 P L ?_
       refine (acG o (i:=k+1) (j:=a) om om _ om).mono ?_
       rintro _ U ⟨z,rfl,hz,t⟩
       have y:Fr Q U:=Fr.trans ((Fr.refl Q).cU om) t
       have B:=o.fr y
       have F:=Ps Fs (Fx.of y)
       cases hl:oE.lt e[k+1]! e[a]! with
       |true=>
        rw[ET (λc=>by have:=c.2;simp [hl] at this)] at q;refine eZ hz hl ?_;exact⟨by rw[<-q];exact aD rfl,B,F⟩
       |false=>
        rw[ahA om (by simp [hl])] at q;refine iG hz hl eK ?_;exact⟨k,om,k,aD rfl,om,B,q,F,rfl⟩
      .have e1:=bZ l
       rw[ET (λc=>l (by have:=c.1;omega))] at q
       refine bM e1 ?_
       exact⟨by rw[<-q];exact aD rfl,o.fr ((Fr.refl Q).cU om),Ps Fs (Fx.of ((Fr.refl Q).cU om))⟩
     .rintro n h4 ⟨⟨g,rfl⟩,A4,F4⟩
      have a4:=scanDown_le (λx=>!oE.lt x e[a]!) e u j
      obtain⟨w,hw⟩: ∃x,scanDown (λx=>!oE.lt x e[a]!) e u j=x:=⟨_,rfl⟩
      rw[hw] at a4
      rw[hw]
      rw[hu,hw] at hL
      have c0:=A4.size
      by_cases Y:(w:Int)<(u:Int)
      .have e1:=cV Y
       rw[aS om] at hL
       refine bM e1 ?_
       rw[<-hL]
       exact⟨aD rfl,A4,om,F4⟩
      have e1:=bZ Y
      rw[aQ om] at hL
      have P:=A4.rd (i:=u) om
      have L:=A4.rd (i:=w) om
      have ei:(u:Int)+1=((u+1:Nat):Int):=om
      have ej:(w:Int)- 1=((w- 1:Nat):Int):=om
      simp(disch:=omega)only[go_sem,e1,P,L,A4.get,xA,Gq,ei,ej]
      have W:=A4.swap (i:=u) (j:=w) (nx:=h4.next+16) om rfl
      exact⟨w- 1,om,u+1,w- 1,_,aD rfl,om,om,om,W.1,hL,Ps F4 W.2,rfl⟩
   .rintro n h5 ⟨⟨g,rfl⟩,A5,a0,F5⟩
    generalize partLoop oE.lt a (s+1) (G- 1) e0=r at hP A5 a0
    obtain⟨m,e5⟩:=r
    have a0:m<b:=a0
    have A5:Bh h5 S N e5:=A5
    have c3:=A5.size
    have P:=A5.rd (i:=m) om
    have L:=A5.rd (i:=a) om
    refine nW P L @A5.get @xA @Gq ?_
    have W:=A5.swap (i:=m) (j:=a) (nx:=h5.next+16) om rfl
    rw[hP]
    exact⟨rfl,W.1,Ps F5 W.2⟩
theorem acH {α:Type}[Inhabited α][O:oE α](h:H)(S N a b pv:Nat)(d:Array α)(L:qD)(hN:N<1000000)(A:Bh h S N d)(hb:b<=N)(a8:a<=pv)(a6:pv<b):
  Ev T (oE.ρ α 184) [.sl S 0 N L,aC a,aC b,aC pv,.fn (oE.f α) [] []] h (λv h'=>v= aC ((partitionEqual oE.lt d a b pv).1:Nat)/\Bh h' S N (partitionEqual oE.lt d a b pv).2/\Fx (· =S) h h'):=by
 refine vZ (SE (α:=α) iA.ok deC) rfl ?_
 have sz:=A.size
 have J:=A.rd (i:=a) om
 have G:=A.rd (i:=pv) om
 simp(disch:=omega)only[go_sem,iA,aV,J,G,A.get,xA,Gq]
 have W:=A.swap (i:=a) (j:=pv) (nx:=h.next+16) om rfl
 obtain⟨h1,Y⟩: ∃h1,h1=((H.mk h.tr (h.next+16)).set S (cE (flat (d.setIfInBounds a d[pv]!).toList))).set S (cE (flat ((d.setIfInBounds a d[pv]!).setIfInBounds pv d[a]!).toList)):=⟨_,rfl⟩
 rw[<-Y] at W |-
 obtain⟨A1,F1⟩:=W
 have eb:(b:Int)- 1=((b- 1:Nat):Int):=om
 have ea:(a:Int)+1=((a+1:Nat):Int):=om
 unfold partitionEqual
 obtain⟨e0,he⟩: ∃e,swp d a pv=e:=⟨_,rfl⟩
 rw[he] at A1 |-
 clear Y J G A
 refine eZ ea eb ?_
 refine dG (λs c=>(∃g:Nat->V,s= [.sl S 0 N L,aC a,aC b,aC pv,.fn (oE.f α) [] [],g 5,aC (((partEqLoop oE.lt a (a+1) (b- 1) e0).1:Nat):Int),g 7,g 8,g 9,g 10])/\Bh c S N (partEqLoop oE.lt a (a+1) (b- 1) e0).2/\Fx (· =S) h c) ?_ ?_
 .refine aP (λt s c=> ∃(i j:Nat) (e:Array α),(∃g:Nat->V,s= [.sl S 0 N L,aC a,aC b,aC pv,.fn (oE.f α) [] [],g 5,aC i,aC j,g 8,g 9,g 10])/\a<i/\i<=b+1/\j<b/\Bh c S N e/\partEqLoop oE.lt a i j e=partEqLoop oE.lt a (a+1) (b- 1) e0/\Fx (· =S) h c/\t=j) (b- 1)
   ⟨a+1,b- 1,e0,aD rfl,om,om,om,A1,rfl,F1,rfl⟩ ?_
  obtain⟨R2,a0⟩:=exI (partEqLoop oE.lt a (a+1) (b- 1) e0)
  rw[a0]
  clear a0 F1 A1 h1 he e0
  rintro t l h3 ⟨i,j,e,⟨g,rfl⟩,a9,a7,hj,A3,P,F3,Q⟩
  rw[partEqLoop_eq] at P
  refine aT ?_
  refine dG (λs c=>(∃g:Nat->V,s= [.sl S 0 N L,aC a,aC b,aC pv,.fn (oE.f α) [] [],g 5,aC (scanUp (λx=>!oE.lt e[a]! x) e j i:Nat),aC (j:Nat),g 8,g 9,g 10])/\Bh c S N e/\Fx (· =S) h c) ?_ ?_
  .refine aP (λt s c=> ∃(k:Nat),(∃g:Nat->V,s= [.sl S 0 N L,aC a,aC b,aC pv,.fn (oE.f α) [] [],g 5,aC (k:Nat),aC (j:Nat),g 8,g 9,g 10])/\i<=k/\k<=N+2/\Bh c S N e/\scanUp (λx=>!oE.lt e[a]! x) e j k=scanUp (λx=>!oE.lt e[a]! x) e j i/\Fx (· =S) h c/\t=j+1-k) (j+1-i)
    ⟨i,aD rfl,om,om,A3,rfl,F3,rfl⟩ ?_
   rintro t l F ⟨k,⟨g,rfl⟩,a2,b0,n,o,Z,rfl⟩
   by_cases m:(k:Int)<=((j:Nat):Int)
   .have e1:=cV m
    have eK:(k:Int)+1=((k+1:Nat):Int):=om
    have a4:=n.size
    have J:=n.rd (i:=k) om
    have G:=n.rd (i:=a) om
    refine iG e1 J G ?_
    refine (acG n (i:=a) (j:=k) om om _ om).mono ?_
    rintro _ K ⟨z,rfl,U,q⟩
    have r:Fr F K:=Fr.trans ((Fr.refl F).cU om) q
    have y:=n.fr r
    have B:=Ps Z (Fx.of r)
    cases hl:oE.lt e[a]! e[k]! with
    |true=>
     rw[Zi (λc=>by have:=c.2;simp [hl] at this)] at o;refine eZ U hl ?_;exact⟨by rw[<-o];exact aD rfl,y,B⟩
    |false=>
     rw[aaK om (by simp [hl])] at o;refine iG U hl eK ?_;exact⟨j+1-(k+1),om,k+1,aD rfl,om,om,y,o,B,rfl⟩
   .have e1:=bZ m
    rw[Zi (λc=>m (by have:=c.1;omega))] at o
    refine bM e1 ?_
    exact⟨by rw[<-o];exact aD rfl,n.fr ((Fr.refl F).cU om),Ps Z (Fx.of ((Fr.refl F).cU om))⟩
  .rintro l h9 ⟨⟨g,rfl⟩,A9,F9⟩
   have a1:=scanUp_ge (λx=>!oE.lt e[a]! x) e j i
   have a3:=Xy (λx=>!oE.lt e[a]! x) e j i
   obtain⟨u,hu⟩: ∃x,scanUp (λx=>!oE.lt e[a]! x) e j i=x:=⟨_,rfl⟩
   rw[hu] at a1 a3
   rw[hu]
   refine aT ?_
   refine dG (λs c=>(∃g:Nat->V,s= [.sl S 0 N L,aC a,aC b,aC pv,.fn (oE.f α) [] [],g 5,aC (u:Nat),aC (scanDown (λx=>oE.lt e[a]! x) e u j:Nat),g 8,g 9,g 10])/\Bh c S N e/\Fx (· =S) h c) ?_ ?_
   .refine aP (λt s c=> ∃(k:Nat),(∃g:Nat->V,s= [.sl S 0 N L,aC a,aC b,aC pv,.fn (oE.f α) [] [],g 5,aC (u:Nat),aC (k:Nat),g 8,g 9,g 10])/\k<=j/\Bh c S N e/\scanDown (λx=>oE.lt e[a]! x) e u k=scanDown (λx=>oE.lt e[a]! x) e u j/\Fx (· =S) h c/\t=k) j
     ⟨j,aD rfl,om,A9,rfl,F9,rfl⟩ ?_
    rintro t l F ⟨k,⟨g,rfl⟩,a2,n,o,Z,Q⟩
    subst Q
    by_cases m:((u:Nat):Int)<=(t:Int)
    .have e1:=cV m
     obtain⟨k,rfl⟩: ∃k,t=k+1:=⟨t- 1,om⟩
     have eK:((k+1:Nat):Int)- 1=(k:Int):=om
     have a4:=n.size
     have J:=n.rd (i:=k+1) om
     have G:=n.rd (i:=a) om
     refine iG e1 J G ?_
     refine (acG n (i:=a) (j:=k+1) om om _ om).mono ?_
     rintro _ K ⟨z,rfl,U,q⟩
     have r:Fr F K:=Fr.trans ((Fr.refl F).cU om) q
     have y:=n.fr r
     have B:=Ps Z (Fx.of r)
     cases hl:oE.lt e[a]! e[k+1]! with
     |false=>
      rw[ET (λc=>by have:=c.2;simp [hl] at this)] at o;refine eZ U hl ?_;exact⟨by rw[<-o];exact aD rfl,y,B⟩
     |true=>
      rw[ahA om (by simp [hl])] at o;refine iG U hl eK ?_;exact⟨k,om,k,aD rfl,om,y,o,B,rfl⟩
    .have e1:=bZ m
     rw[ET (λc=>m (by have:=c.1;omega))] at o
     refine bM e1 ?_
     exact⟨by rw[<-o];exact aD rfl,n.fr ((Fr.refl F).cU om),Ps Z (Fx.of ((Fr.refl F).cU om))⟩
   .rintro l h4 ⟨⟨g,rfl⟩,A4,F4⟩
    have a5:=scanDown_le (λx=>oE.lt e[a]! x) e u j
    obtain⟨w,hw⟩: ∃x,scanDown (λx=>oE.lt e[a]! x) e u j=x:=⟨_,rfl⟩
    rw[hw] at a5
    rw[hw]
    rw[hu,hw] at P
    have b1:=A4.size
    by_cases R:(w:Int)<(u:Int)
    .have e1:=cV R
     rw[aS om] at P
     refine bM e1 ?_
     rw[<-P]
     exact⟨aD rfl,A4,F4⟩
    have e1:=bZ R
    rw[aQ om] at P
    have J:=A4.rd (i:=u) om
    have G:=A4.rd (i:=w) om
    have ei:(u:Int)+1=((u+1:Nat):Int):=om
    have ej:(w:Int)- 1=((w- 1:Nat):Int):=om
    simp(disch:=omega)only[go_sem,e1,J,G,A4.get,xA,Gq,ei,ej]
    have W:=A4.swap (i:=u) (j:=w) (nx:=h4.next+16) om rfl
    exact⟨w- 1,om,u+1,w- 1,_,aD rfl,om,om,om,W.1,P,Ps F4 W.2,rfl⟩
 .rintro l h5 ⟨⟨g,rfl⟩,A5,F5⟩
  refine aT ?_
  exact⟨A5,F5⟩
end
def amL  {α:Type}[Inhabited α][O:oE α](n:Nat):Prop:= ∀(h:H) (S N a b:Nat) (lim:Int) (d:Array α) (cp:qD),N<60000->Bh h S N d->a<=b->b<=N->b-a<=n->0<=lim->lim<1000000->Below oE.lt a b d->
 Ev T (oE.ρ α 119) [.sl S 0 N cp,aC a,aC b,aC lim,.fn (oE.f α) [] []] h (λ_ h'=> ∃e,Bh h' S N e/\PermIn a b d e/\SortedIn oE.lt a b e/\Fx (· =S) h h')
theorem amE  {α:Type}[Inhabited α][O:oE α](n:Nat)(ih: ∀m,m<n->amL (α:=α) m):amL (α:=α) n:=by
 intro h S N a b a5 d s hN A a8 a6 hn u w hB;refine vZ (SE (α:=α) gU.ok deC) rfl ?_;simp(disch:=omega)only[go_sem,gU,aV]
 refine aP (λk' y W=> ∃(c l:Nat) (l':Int) (P wp:Bool) (e:Array α),(∃g:Nat->V,y= [.sl S 0 N s,aC (c:Int),aC (l:Int),aC l',.fn (oE.f α) [] [],.bool P,.bool wp,g 7,g 8,g 9,g 10,g 11,g 12,g 13,g 14,g 15,g 16,g 17,g 18,g 19,g 20,g 21,g 22,g 23])/\c<=l/\l<=N/\a<=c/\l<=b/\0<=l'/\l'<1000000/\Below oE.lt c l e/\Bh W S N e/\Fx (· =S) h W/\
   (∀R,PermIn c l e R->SortedIn oE.lt c l R->PermIn a b d R/\SortedIn oE.lt a b R)/\k'=l-c) (b-a)
  ⟨a,b,a5,true,true,d,aD rfl,a8,a6,dN _,dN _,u,w,hB,A,Fx.refl _ h,λR h1 h2=>⟨h1,h2⟩,rfl⟩ ?_
 clear A hB u w;rintro k' y h1 ⟨c,l,l',P,wp,e,⟨g,rfl⟩,B,o,a7,a2,u,w,hB,A,F,K,rfl⟩;obtain⟨m,hm⟩:=exI (l-c);have em:(l:Int)-(c:Int)=(m:Int):=om
 have ez:{x:Array α}->{hx:H}->Bh hx S N x->l<=x.size:=λA=>by rw[A.size];exact o
 by_cases a4:(m:Int)<=12
 .have e1:=cV a4
  refine eZ em e1 ?_;refine (Ee h1 S N c l e s om A o B).mono ?_;rintro _ h2 ⟨A2,F2⟩;obtain⟨p1,p2⟩:=insertionSort_holds (oE.swo (α:=α)) e c l B (ez A);obtain⟨q1,q2⟩:=K _ p1 p2;refine aT ?_;exact⟨_,A2,q1,q2,Ps F F2⟩
 have e1:=bZ a4
 by_cases hl:l'=0
 .have e2:=cV hl
  refine iG em e1 e2 ?_;refine (QZ h1 S N c l e s om A o B).mono ?_;rintro _ h2 ⟨A2,F2⟩;obtain⟨p1,p2⟩:=heapSort_holds (oE.swo (α:=α)) e c l B (ez A);obtain⟨q1,q2⟩:=K _ p1 p2;refine aT ?_;exact⟨_,A2,q1,q2,Ps F F2⟩
 have e2:=bZ hl;refine iG em e1 e2 ?_;refine Pl (λY W=> ∃(e2:Array α) (G:Int) (g:Nat->V),Y= [.sl S 0 N s,aC (c:Int),aC (l:Int),aC G,.fn (oE.f α) [] [],.bool P,.bool wp,aC m,g 8,g 9,g 10,g 11,g 12,g 13,g 14,g 15,g 16,g 17,g 18,g 19,g 20,g 21,g 22,g 23]/\0<=G/\G<1000000/\Bh W S N e2/\PermIn c l e e2/\Fx (· =S) h W) ?_ ?_
 .cases P with
  |true=>
   refine aT ?_;exact .inl ⟨e,l',_,(aD rfl: ∃g:Nat->V,_= [.sl S 0 N s,aC (c:Int),aC (l:Int),aC l',.fn (oE.f α) [] [],.bool true,.bool wp,aC m,g 8,g 9,g 10,g 11,g 12,g 13,g 14,g 15,g 16,g 17,g 18,g 19,g 20,g 21,g 22,g 23]).choose_spec,u,w,A,permIn_refl e c l,F⟩
  |false=>
   refine aT ?_;refine (acU h1 S N c l e s hN A o B).mono ?_;rintro _ h2 ⟨e2,A2,p2,F2⟩;refine aT ?_;exact .inl ⟨e2,l'- 1,_,(aD rfl: ∃g:Nat->V,_= [.sl S 0 N s,aC (c:Int),aC (l:Int),aC (l'- 1),.fn (oE.f α) [] [],.bool false,.bool wp,aC m,g 8,g 9,g 10,g 11,g 12,g 13,g 14,g 15,g 16,g 17,g 18,g 19,g 20,g 21,g 22,g 23]).choose_spec,om,om,A2,p2,Ps F F2⟩
 clear A F u w hl e2 g;rintro y h2 ⟨e2,G,g,rfl,u,w,A,P2,F⟩;have B2:=hB.perm (by rw[<-P2.1];exact ez A) P2;refine aT ?_;refine (adX h2 S N c l e2 s om A o om).mono ?_;rintro _ h3 ⟨p,t,rfl,U,Q,f3⟩;have A3:=A.fr f3;have F3:=Ps F (Fx.of f3);clear A F;refine aT ?_;refine Pl (λY W=> ∃(e3:Array α) (p2:Nat) (t2:Int) (g:Nat->V),Y= [.sl S 0 N s,aC (c:Int),aC (l:Int),aC G,.fn (oE.f α) [] [],.bool P,.bool wp,aC m,aC p2,aC t2,g 10,g 11,g 12,g 13,g 14,g 15,g 16,g 17,g 18,g 19,g 20,g 21,g 22,g 23]/\c<=p2/\p2<l/\Bh W S N e3/\PermIn c l e2 e3/\Fx (· =S) h W) ?_ ?_
 .refine bV (λht=>?_) (λht=>?_)
  .refine aT ?_
   refine (VO h3 S N c l e2 s om A3 o om).mono ?_;rintro _ h4 ⟨A4,F4⟩;have Z:(l:Int)- 1-((p:Int)-(c:Int))=(((l- 1)-(p-c):Nat):Int):=om
   refine bM Z ?_;exact .inl ⟨_,(l- 1)-(p-c),1,_,(aD rfl: ∃g:Nat->V,_= [.sl S 0 N s,aC (c:Int),aC (l:Int),aC G,.fn (oE.f α) [] [],.bool P,.bool wp,aC m,aC ((l- 1)-(p-c):Nat),aC 1,g 10,g 11,g 12,g 13,g 14,g 15,g 16,g 17,g 18,g 19,g 20,g 21,g 22,g 23]).choose_spec,om,om,A4,reverseRange_holds e2 c l B (ez A3),Ps F3 F4⟩
  .refine aT ?_
   exact .inl ⟨e2,p,t,_,(aD rfl: ∃g:Nat->V,_= [.sl S 0 N s,aC (c:Int),aC (l:Int),aC G,.fn (oE.f α) [] [],.bool P,.bool wp,aC m,aC p,aC t,g 10,g 11,g 12,g 13,g 14,g 15,g 16,g 17,g 18,g 19,g 20,g 21,g 22,g 23]).choose_spec,U,Q,A3,permIn_refl e2 c l,F3⟩
 have a1:=ez A3;clear A3 F3 U Q f3 p t g;rintro y h4 ⟨e3,p,t,g,rfl,U,Q,A,P3,F⟩;have B3:=B2.perm a1 P3;have a0:=permIn_trans _ _ _ c l P2 P3;have b0:l<=e2.size:=a1;clear a1 B2 hB;refine YI (λY W=> ∃(J:Array α) (g:Nat->V),Y= [.sl S 0 N s,aC (c:Int),aC (l:Int),aC G,.fn (oE.f α) [] [],.bool P,.bool wp,aC m,aC p,g 9,g 10,g 11,g 12,g 13,g 14,g 15,g 16,g 17,g 18,g 19,g 20,g 21,g 22,g 23]/\Bh W S N J/\PermIn c l e J/\Below oE.lt c l J/\Fx (· =S) h W) ?_ ?_
 .have skip:(Y:List V)->(∃g:Nat->V,Y= [.sl S 0 N s,aC (c:Int),aC (l:Int),aC G,.fn (oE.f α) [] [],.bool P,.bool wp,aC m,aC p,g 9,g 10,g 11,g 12,g 13,g 14,g 15,g 16,g 17,g 18,g 19,g 20,g 21,g 22,g 23])-> ∃(J:Array α) (g:Nat->V),Y= [.sl S 0 N s,aC (c:Int),aC (l:Int),aC G,.fn (oE.f α) [] [],.bool P,.bool wp,aC m,aC p,g 9,g 10,g 11,g 12,g 13,g 14,g 15,g 16,g 17,g 18,g 19,g 20,g 21,g 22,g 23]/\Bh h4 S N J/\PermIn c l e J/\Below oE.lt c l J/\Fx (· =S) h h4:=λY ⟨g,hv⟩=>⟨e3,g,hv,A,a0,B3,F⟩
  have run: ∀g:Nat->V,Ev T (oE.ρ α 183) [.sl S 0 N s,aC (c:Int),aC (l:Int),.fn (oE.f α) [] []] h4 (λv h'=> ∃r:Array α×Bool,v= .bool r.2/\Bh h' S N r.1/\Fx (· =S) h4 h'/\PermIn c l e3 r.1/\(r.2=true->SortedIn oE.lt c l r.1)):=λ_=>by
   refine (RM h4 S N c l e3 s om A o om).mono ?_;rintro v h5 ⟨hv,A5,F5⟩;obtain⟨q1,q2⟩:=partialInsertionSort_holds (oE.swo (α:=α)) e3 c l om (ez A) B3;exact⟨_,hv,A5,F5,q1,q2⟩
  cases P with
  |false=>
   refine aT ?_;exact .inl (skip _ (aD rfl))
  |true=>cases wp with
   |false=>
    refine aT ?_
    exact .inl (skip _ (aD rfl))
   |true=>
    refine aT ?_
    refine bV (λht=>?_) (λht=>?_)
    .refine aT ?_
     refine (run g).mono ?_
     rintro v h5 ⟨⟨Z,r5⟩,rfl,A5,F5,q1,q2⟩
     have A5:Bh h5 S N Z:=A5
     have q1:PermIn c l e3 Z:=q1
     have P5:=permIn_trans _ _ _ c l a0 q1
     cases r5 with
     |false=>
      refine aT ?_;exact .inl ⟨Z,_,(aD rfl: ∃g:Nat->V,_= [.sl S 0 N s,aC (c:Int),aC (l:Int),aC G,.fn (oE.f α) [] [],.bool true,.bool true,aC m,aC p,g 9,g 10,g 11,g 12,g 13,g 14,g 15,g 16,g 17,g 18,g 19,g 20,g 21,g 22,g 23]).choose_spec,A5,P5,B3.perm (ez A) q1,Ps F F5⟩
     |true=>
      obtain⟨w1,w2⟩:=K _ P5 (q2 rfl);refine aT ?_;exact .inr ⟨siM,Z,A5,w1,w2,Ps F F5⟩
    .refine aT ?_
     exact .inl (skip _ (aD rfl))
 clear A P3 a0 B3 F P2 b0 e3 e2;rintro y h5 ⟨J,g,rfl,A,P4,B4,F⟩;have a3:=ez A;refine YI (λY W=> ∃(g:Nat->V),Y= [.sl S 0 N s,aC (c:Int),aC (l:Int),aC G,.fn (oE.f α) [] [],.bool P,.bool wp,aC m,aC p,g 9,g 10,g 11,g 12,g 13,g 14,g 15,g 16,g 17,g 18,g 19,g 20,g 21,g 22,g 23]/\Bh W S N J/\Fx (· =S) h W) ?_ ?_
 .by_cases h0:(0:Int)<(c:Int)
  case neg=>
   have e1:=bZ h0;refine bM e1 ?_;exact .inl ⟨_,(aD rfl: ∃g:Nat->V,_= [.sl S 0 N s,aC (c:Int),aC (l:Int),aC G,.fn (oE.f α) [] [],.bool P,.bool wp,aC m,aC p,g 9,g 10,g 11,g 12,g 13,g 14,g 15,g 16,g 17,g 18,g 19,g 20,g 21,g 22,g 23]).choose_spec,A.fr ((Fr.refl h5).cU om),Ps F (Fx.of ((Fr.refl h5).cU om))⟩
  have e1:=cV h0;have ea:(c:Int)- 1=((c- 1:Nat):Int):=om
  have c1:=A.rd (i:=c- 1) om;have c2:=A.rd (i:=p) om;refine jX e1 ea c1 c2 ?_;refine (acG A (i:=c- 1) (j:=p) om om _ om).mono ?_;rintro _ h6 ⟨z,rfl,hz,a9⟩;have f6:Fr h5 h6:=Fr.trans ((Fr.refl h5).cU om) a9;have A6:=A.fr f6;have F6:=Ps F (Fx.of f6)
  cases hl:oE.lt J[c- 1]! J[p]! with
  |true=>
   refine eZ hz hl ?_;exact .inl ⟨_,(aD rfl: ∃g:Nat->V,_= [.sl S 0 N s,aC (c:Int),aC (l:Int),aC G,.fn (oE.f α) [] [],.bool P,.bool wp,aC m,aC p,g 9,g 10,g 11,g 12,g 13,g 14,g 15,g 16,g 17,g 18,g 19,g 20,g 21,g 22,g 23]).choose_spec,A6,F6⟩
  |false=>
   obtain⟨w1,w2,w3,w4,w5⟩:=round_eq (oE.swo (α:=α)) (partitionEqual_holds oE.lt) om U Q a3 B4 hl (Prod.eta (partitionEqual oE.lt J c l p)).symm;refine eZ hz hl ?_;refine (acH h6 S N c l p J s om A6 o U Q).mono ?_;rintro _ h7 ⟨rfl,A7,F7⟩;refine aT ?_;refine .inr ⟨siM,l-(partitionEqual oE.lt J c l p).1,om,(partitionEqual oE.lt J c l p).1,l,G,P,wp,_,aD rfl,w2,o,om,a2,u,w,w4,A7,Ps F6 F7,λR r1 r2=>?_,rfl⟩;obtain⟨t1,t2⟩:=w5 R r1 r2;exact K R (permIn_trans _ _ _ c l P4 t1) t2
 clear A F;rintro y h6 ⟨g,rfl,A,F⟩;have e8:=aeC m (k:=8) (m:=8) rfl;refine aT ?_;refine (KB h6 S N c l p J s om A o U Q).mono ?_;obtain⟨r,hr⟩:=exI (partition oE.lt J c l p);rw[hr];obtain⟨q,ap,Z⟩:=r;obtain⟨w1,w2,w3,w4,w5,w6,w7⟩:=round_part (oE.swo (α:=α)) (partition_holds oE.lt) U Q a3 B4 hr;rintro _ h7 ⟨rfl,A7,F7⟩;have A7:Bh h7 S N Z:=A7;have F7:=Ps F F7;have el:(q:Int)-(c:Int)=((q-c:Nat):Int):=om
 have er:(l:Int)-(q:Int)=((l-q:Nat):Int):=om
 have e1:(q:Int)+1=((q+1:Nat):Int):=om
 refine iG el er e8 ?_;refine bV (λht=>?_) (λht=>?_)
 .refine aT ?_
  refine (ih (q-c) om h7 S N c q G Z s hN A7 w1 om (dN _) u w w4).mono ?_;rintro _ h8 ⟨L,A8,p8,s8,F8⟩;obtain⟨u1,u2⟩:=w6 L p8 s8;refine bM e1 ?_;refine⟨l-(q+1),om,q+1,l,G,_,ap,L,aD rfl,om,o,om,a2,u,w,u1,A8,Ps F7 F8,λR r1 r2=>?_,rfl⟩;obtain⟨t1,t2⟩:=u2 R r1 r2;exact K R (permIn_trans _ _ _ c l P4 t1) t2
 .refine bM e1 ?_
  refine (ih (l-(q+1)) om h7 S N (q+1) l G Z s hN A7 om o (dN _) u w w5).mono ?_;rintro _ h8 ⟨L,A8,p8,s8,F8⟩;obtain⟨u1,u2⟩:=w7 L p8 s8;refine aT ?_;refine⟨q-c,om,c,q,G,_,ap,L,aD rfl,om,om,a7,om,u,w,u1,A8,Ps F7 F8,λR r1 r2=>?_,rfl⟩;obtain⟨t1,t2⟩:=u2 R r1 r2;exact K R (permIn_trans _ _ _ c l P4 t1) t2
theorem alA  {α:Type}[Inhabited α][O:oE α](n:Nat):amL (α:=α) n:=by
 induction n using Nat.strongRecOn with
 |_ n ih=>exact amE n  ih
theorem Yq {α:Type}[Inhabited α][O:oE α](h:H)(S N:Nat)(d:Array α)(a:qD)(j:N<60000)(A:Bh h S N d):
  Ev T (oE.ρ α 78) [.sl S 0 N a,.fn (oE.f α) [] []] h (λ_ h'=> ∃e,Bh h' S N e/\PermIn 0 N d e/\SortedIn oE.lt 0 N e/\Fx (· =S) h h'):=by
 refine vZ (SE (α:=α) eM.ok deC) rfl ?_
 have l:bitsLen N<=16:=(bitsLen_le_iff _ 16).2 om
 simp(disch:=omega)only[go_sem,eM,aV,Hi (n:=(N:Int)) om om]
 refine (SH N h om).mono ?_
 rintro _ i ⟨rfl,c⟩
 subst c
 refine aT ?_
 refine (alA N i S N 0 N _ d a j A om om om om om (.inl rfl)).mono ?_
 rintro _ k ⟨e,b,p,s,F⟩
 refine aT ?_
 exact⟨e,b,p,s,F⟩
theorem yN (a:Int)(h:H):Ev T 96 [aC a] h (λv h'=>v= .bool false/\h'=h):=by
 refine mV ?_;have e:decide (a≠a)=false:=bZ om;exact adI @aV e
def nG (a b:Int):Int:=if a<b then -1 else if b<a then 1 else 0
theorem rT (a b:Int)(h:H):Ev T 59 [aC a,aC b] h (λv h'=>v= aC (nG a b)/\Fr h h'):=by
 refine lG ?_;refine (yN a h).mono ?_;rintro _ c ⟨rfl,rfl⟩;refine aT ?_;refine (yN b c).mono ?_;rintro _ i ⟨rfl,rfl⟩;refine aT ?_;unfold nG
 by_cases c:a<b
 .have d:=cV c
  simp(disch:=omega)only[go_sem,d,aS c];exact Fr.refl _
 .have d:=bZ c
  by_cases f:b<a
  .have d2:=cV f
   simp(disch:=omega)only[go_sem,d,d2,aQ c,aS f];exact Fr.refl _
  .have d2:=bZ f
   simp(disch:=omega)only[go_sem,d,d2,aQ c,aQ f];exact Fr.refl _
def Zw:List Int->Int
 | []=>0
 |x::r=>if x=0 then Zw r else x
theorem WI {l:List Int}{i:Nat}(hi:i<l.length)(h:l.getD i 0=0):Zw (l.drop i)=Zw (l.drop (i+1)):=by
 rw[EF hi];show (if l[i]=0 then _ else _)=_;rw[aS (by rw[List.getD,dJ hi] at h;exact h)]
theorem acE {l:List Int}{i:Nat}(hi:i<l.length)(h:l.getD i 0≠0):Zw (l.drop i)=l.getD i 0:=by
 rw[EF hi];show (if l[i]=0 then _ else l[i])=_;have e:l.getD i 0=l[i]:=by rw[List.getD,dJ hi];rfl
 rw[aQ (by rw[<-e];exact h),e]
theorem afR (u:V)(l:List Int)(h:H)(F:l.length<1000000)(q:SI h u l):Ev T 58 [u] h (λv h'=>v= aC (Zw l)/\Fr h h'):=by
 have B:=q.lens;obtain⟨id,j,y,o,A⟩:=q.open;refine pM B ?_;refine aP (λs z w=> ∃(i:Nat),(∃g:Nat->V,z= [u,aC 0,aC 0,g 3,u,aC (l.length:Int),aC i,g 7,g 8])/\i<=l.length/\Zw (l.drop i)=Zw l/\Fr h w/\s=l.length-i) l.length
   ⟨0,aD rfl,fY _,rfl,Fr.refl h,rfl⟩ ?_
 rintro s r t ⟨i,⟨g,rfl⟩,hi,c,f,rfl⟩
 by_cases b:(i:Int)<(l.length:Int)
 .have n:=cV b
  have a:i<l.length:=om
  have ci:t.cell id (j+i)=some (aC (l.getD i 0)):=by rw[f.cell (o om),A i a]
  generalize m:l.getD i 0=x at ci;refine iG n @y.ixa ci ?_
  by_cases d:x=0
  .have k:decide (x≠0)=false:=bZ (by simpa using d)
   refine bM k ?_;rw[fJ i];exact⟨l.length-(i+1),om,i+1,aD rfl,om,by rw[<-WI a (m.trans d)];exact c,f.cU om,rfl⟩
  .have k:=cV d
   refine bM k ?_;exact⟨by rw[<-c,acE a (by rw[m];exact d),m],f.cU om⟩
 have n:=bZ b;obtain rfl:i=l.length:=om
 refine bM n ?_;rw[List.drop_length] at c;exact⟨by rw[<-c];rfl,f⟩
structure KE where
 rep:V
 ord:Nat
 size:Nat
 ranks:V
 fst:Nat
 hrep:rep.cells= [rep]/\rep.one=true/\dS rep rep=true
 hranks:ranks.cells= [ranks]/\ranks.one=true/\dS ranks ranks=true
instance:Inhabited KE:=⟨⟨.aH,0,0,.aH,0,⟨rfl,rfl,rfl⟩,⟨rfl,rfl,rfl⟩⟩⟩
def KE.enc (a:KE):List V:= [a.rep,aC (a.ord:Int),aC (a.size:Int),a.ranks]
def KE.cmp (a b:KE):Int:=Zw [nG a.ord b.ord,nG a.size b.size,nG a.fst b.fst]
def KE.lt (a b:KE):Bool:=decide (a.cmp b<0)
theorem Ei (a:KE)(h:H):mT h (.agg a.enc)=some (.ptr h.next 0,h.new (.cells false a.enc)):=rI h _ (by simp [KE.enc,a.hrep.2.1,a.hranks.2.1,show (aC (a.ord:Int)).one=true from rfl,show (aC (a.size:Int)).one=true from rfl])
theorem JH (a b:KE)(h:H):Ev T 80 [.agg a.enc,.agg b.enc] h (λv h'=>v= aC (nG a.ord b.ord)/\Fr h h'):=by
 refine mV ?_;obtain⟨A,f⟩:=exI h.next;obtain⟨u,e1,d,j,w,n⟩:=iI f a.enc;obtain⟨c,e2,t,m,r,l⟩:=iI d b.enc;have k:c.get A=some (.cells false a.enc):=by rw[r _ om];exact j
 have q:c.cell A 1=some (aC (a.ord:Int)):=by rw[H.cell_of k];rfl
 have i:c.cell (A+1) 1=some (aC (b.ord:Int)):=by rw[H.cell_of m];rfl
 refine wY @aV @Ei f e1 d e2 q i ?_;refine (rT _ _ c).mono ?_;rintro _ s ⟨rfl,o⟩;refine aT ?_;exact (n.trans l).trans o
theorem UT (a b:KE)(h:H):Ev T 81 [.agg a.enc,.agg b.enc] h (λv h'=>v= aC (nG a.size b.size)/\Fr h h'):=by
 refine mV ?_;obtain⟨A,f⟩:=exI h.next;obtain⟨u,e1,d,j,w,n⟩:=iI f a.enc;obtain⟨c,e2,t,m,r,l⟩:=iI d b.enc;have k:c.get A=some (.cells false a.enc):=by rw[r _ om];exact j
 have q:c.cell A 2=some (aC (a.size:Int)):=by rw[H.cell_of k];rfl
 have i:c.cell (A+1) 2=some (aC (b.size:Int)):=by rw[H.cell_of m];rfl
 refine wY @aV @Ei f e1 d e2 q i ?_;refine (rT _ _ c).mono ?_;rintro _ s ⟨rfl,o⟩;refine aT ?_;exact (n.trans l).trans o
def KE.At (h:H)(a:KE):Prop:= ∃id off n cap,a.ranks= .sl id off (n+1) cap/\id<h.next/\h.cell id off=some (aC (a.fst:Int))
theorem NU (a b:KE)(h:H)(x:a.At h)(F:b.At h):Ev T 82 [.agg a.enc,.agg b.enc] h (λv h'=>v= aC (nG a.fst b.fst)/\Fr h h'):=by
 refine mV ?_;obtain⟨A,u⟩:=exI h.next;obtain⟨h1,e1,y,R,o1,K⟩:=iI u a.enc;obtain⟨c,e2,n2,J,N,W⟩:=iI y b.enc;have⟨q,s,P,L,Z,la,z⟩:=x;have⟨o,k,G,Q,O,lb,B⟩:=F;have F2:=K.trans W;have U:c.get A=some (.cells false a.enc):=by rw[N _ om];exact R
 have l:c.cell A 3=some a.ranks:=by rw[H.cell_of U];rfl
 have i:c.cell (A+1) 3=some b.ranks:=by rw[H.cell_of J];rfl
 rw[Z] at l;rw[O] at i;have t:c.cell q s=some (aC (a.fst:Int)):=by rw[F2.cell la];exact z
 have w:c.cell o k=some (aC (b.fst:Int)):=by rw[F2.cell lb];exact B
 simp(disch:=omega)only[go_sem,aV,Ei,u,e1,y,e2,l,i,t,w];refine (rT _ _ _).mono ?_;rintro _ d ⟨rfl,Y⟩;have f:Fr c d:=((Fr.refl c).cU om).trans Y;have x:=F2.next;have j:d.cell A 3=some (.sl q s (P+1) L):=by rw[f.cell om];exact l
 have m:d.cell (A+1) 3=some (.sl o k (G+1) Q):=by rw[f.cell om];exact i
 have n:d.cell q s=some (aC (a.fst:Int)):=by rw[f.cell om];exact t
 have r:d.cell o k=some (aC (b.fst:Int)):=by rw[f.cell om];exact w
 refine jX j m n r ?_;exact F2.trans f
theorem yW {h:H}{A:Nat}{ro:Bool}{a:KE}(b:h.get A=some (.cells ro a.enc)):h.row A 0 4=some a.enc:=by
 simp [H.row,b,sub,KE.enc]
theorem Ha (a:KE):dS (.agg a.enc) (.agg a.enc)=true:=by
 show qE a.enc a.enc=true;simp [KE.enc,qE,dS,a.hrep.2.2,a.hranks.2.2]
theorem KE.At.fr {a:KE}{h h':H}(x:a.At h)(f:Fr h h'):a.At h':=by
 have⟨k,i,b,j,d,la,c⟩:=x;exact⟨k,i,b,j,d,iD la f.next,by rw[f.cell la];exact c⟩
theorem DJ (h:H)(x y z:Int):lU h 1 [aC 0] 3 [(0,1,aC x),(1,1,aC y),(2,1,aC z)]=some (.sl h.next 0 3 (.kn 3),h.new (.cells false (ints [x,y,z]))):=rfl
theorem ZV (a b:KE)(h:H)(Z:a.At h)(K:b.At h):Ev T 79 [.agg a.enc,.agg b.enc] h (λv h'=>v= aC (a.cmp b)/\Fr h h'):=by
 refine mV ?_;obtain⟨A,u⟩:=exI h.next;obtain⟨h1,e1,z,U,o1,N⟩:=iI u a.enc;obtain⟨i,e2,n2,j,Q,Y⟩:=iI z b.enc;have F2:=N.trans Y;have W:i.get A=some (.cells false a.enc):=by rw[Q _ om];exact U
 simp(disch:=omega)only[go_sem,aV,Ei,u,e1,z,e2,yW W,yW j,Ha,H.Xz];have hn:=F2.next;refine (JH a b _).mono ?_;rintro _ t ⟨rfl,F⟩;have B:Fr i t:=((Fr.refl i).cU om).trans F;have o:t.get (A+1)=some (.cells false b.enc):=by rw[B.get _ om];exact j
 refine eZ (yW o) @Ha ?_;refine (UT a b _).mono ?_;rintro _ O ⟨rfl,y⟩;have l:=B.trans y;have q:O.get (A+1)=some (.cells false b.enc):=by rw[l.get _ om];exact j
 refine eZ (yW q) @Ha ?_;refine (NU a b _ (Z.fr (F2.trans l)) (K.fr (F2.trans l))).mono ?_;rintro _ d ⟨rfl,w⟩;have m:=l.trans w;have r:d.get (A+1)=some (.cells false b.enc):=by rw[m.get _ om];exact j
 refine eZ (yW r) @Ha ?_;obtain⟨I,R⟩:=exI (i.next+9+9);have n5:=w.next;have n4:=y.next;have n3:i.next+9+12<=t.next:=F.next;refine eZ R @DJ ?_
 obtain⟨f,c⟩: ∃f:H,f=H.mk ((H.mk d.tr I).new (Ob.cells false (ints [nG a.ord b.ord,nG a.size b.size,nG a.fst b.fst]))).tr d.next:=⟨_,rfl⟩
 rw[<-c];have G:f.get I=cE (ints [nG a.ord b.ord,nG a.size b.size,nG a.fst b.fst]):=by rw[c];exact H.aI (H.mk d.tr I) _
 have n6:f.next=d.next:=by rw[c]
 have J: ∀k,k≠I->f.get k=d.get k:=λk n=>by rw[c];exact H.bG (H.mk d.tr I) (by simpa using n) _
 have F6:Fr i f:=⟨by have:=m.next;omega,λk n=>by rw[J k om];exact m.get k n⟩
 refine (afR _ [nG a.ord b.ord,nG a.size b.size,nG a.fst b.fst] f siM (SV.all (by simp [aE]) om G _)).mono ?_;rintro _ P ⟨rfl,L⟩;have x:=F6.trans L;have s:P.get (A+1)=some (.cells false b.enc):=by rw[x.get _ om];exact j
 refine eZ (yW s) @Ha ?_;exact⟨rfl,F2.trans x⟩
theorem KE.lt_iff (a b:KE):a.lt b=true↔a.ord<b.ord\/a.ord=b.ord/\(a.size<b.size\/a.size=b.size/\a.fst<b.fst):=by
 unfold KE.lt KE.cmp Zw Zw Zw Zw nG;rw[decide_eq_true_eq]
 repeat' split
 all_goals omega
theorem ajU:SWO KE.lt where
 irrefl x:=by rw[<-Bool.not_eq_true,KE.lt_iff];omega
 trans x y z h1 h2:=by rw[KE.lt_iff] at*;omega
 ntrans x y z h1 h2:=by rw[<-Bool.not_eq_true,KE.lt_iff] at*;omega
theorem vG: ∀c:C,Ga (λk=>k) c=c
 | .skip=>rfl
 | .reg l=>congrArg C.reg ((Nt λi _=>show aaQ (λk=>k) i=id i from by
   have⟨d,g,a⟩:=i
   cases a<;>rfl).trans (List.map_id l))
 | .any k n l=>congrArg (C.any k n) ((Nt λi _=>show akG (λk=>k) i=id i from by
   have⟨i,⟨d,g,a⟩,h,j⟩:=i
   cases a<;>rfl).trans (List.map_id l))
 | .seq a b=>by rw[Ga,vG a,vG b]
 | .ite x a b=>by rw[Ga,vG a,vG b]
 | .block i c=>by rw[Ga,vG c]
 | .loop c=>by rw[Ga,vG c]
 | .exit i=>rfl
 | .ret=>rfl
 | .range f p a b=>rfl
 | .fail=>rfl
theorem adY (o:Option Ay.Fn):o.map (LK λk=>k)=o:=by
 cases o with
 |none=>rfl
 |some f=>
  show some (LK _ f)=_;unfold LK;rw[vG]
def KE.Pp (hB:H)(b0 S:Nat)(a:KE):Prop:= ∃id off n cap,a.ranks= .sl id off (n+1) cap/\id<b0/\id≠S/\hB.cell id off=some (aC (a.fst:Int))
def Bb (hB:H)(b0 S:Nat)(h:H):Prop:=b0<=h.next/\ ∀q,q<b0->q≠S->h.get q=hB.get q
theorem KE.Pp.at {j h:H}{f S:Nat}{a:KE}(p:a.Pp j f S)(b:Bb j f S h):a.At h:=by
 have⟨id,c,n,d,e,i,k,l⟩:=p;refine⟨id,c,n,d,e,iD i b.1,?_⟩;rw[<-l];unfold H.cell;rw[b.2 id i k]
@[reducible] def akU (hB:H)(b0 S:Nat):oE KE where
 lt:=KE.lt
 enc:=KE.enc
 P:=KE.Pp hB b0 S
 B:=Bb hB b0 S
 f:=79
 b0:=b0
 S:=S
 swo:=ajU
 len _:=rfl
 one a:=by simp [KE.enc,a.hrep.2.1,a.hranks.2.1,show (aC (a.ord:Int)).one=true from rfl,show (aC (a.size:Int)).one=true from rfl]
 eqv:=Ha
 cmp h a b hb pa pb:=(ZV a b h (pa.at hb) (pb.at hb)).mono λv h' ⟨e,f⟩=>⟨_,e,rfl,f⟩
 bfr h h' b f:=⟨kQ b.1 f.next,λq h1 h2=>by rw[f.get q (iD h1 b.1)];exact b.2 q h1 h2⟩
 bS h h' b f:=⟨kQ b.1 f.next,λq h1 h2=>by rw[f.get q (iD h1 b.1) h2];exact b.2 q h1 h2⟩
 bR h h' R b hR f:=⟨kQ b.1 f.next,λq h1 h2=>by rw[f.get q (iD h1 b.1) (λe=>by have:q=R:=e;omega)];exact b.2 q h1 h2⟩
 bn h b:=b.1
 ρ:=λk=>k
 hT:=λk _=>(adY _).symm
 s1:=rfl
 s2:=rfl
 s3:=rfl
theorem PE {l:List KE}{N:Nat}(k:l.length=N){e:Array KE}(n:PermIn 0 N l.toArray e)(s:SortedIn KE.lt 0 N e):e.toList.Perm l/\e.toList.Pairwise (λa b=>KE.lt b a=false):=by
 have⟨o,t,m⟩:=n;have c:e.size=N:=by rw[o];simpa using k
 refine⟨?_,?_⟩
 .have q:(e.extract 0 N).toList=e.toList:=by rw[<-c];simp
  have r:(l.toArray.extract 0 N).toList=l:=by rw[<-k];simp
  rwa [q,r] at m
 .rw[Iz]
  intro i j hi f h;have d:j<N:=by simpa [c] using f
  have:=s i j (fY _) h d;have e1:e[i]! =e.toList[i]:=by simp at hi;simp [hi]
  have e2:e[j]! =e.toList[j]:=by simp at f;simp [f]
  rw[e1,e2] at this;exact this
def nT (l:List KE):List V:=l.flatMap KE.enc
theorem PX (h:H)(S d:Nat)(l:List KE)(f:qD)(m:l.length<60000)(k:h.get S=cE (nT l))(q:S<h.next)(j:d<=h.next)(o: ∀a∈l,a.Pp h d S):
  Ev T 78 [.sl S 0 l.length f,.fn 79 [] []] h (λ_ h'=> ∃l',h'.get S=cE (nT l')/\l'.Perm l/\l'.Pairwise (λa b=>KE.lt b a=false)/\Fx (· =S) h h'):=by
 letI:=akU h d S
 have A:Bh h S l.length l.toArray:=⟨k,siM,q,rfl,⟨j,λ_ _ _=>rfl⟩,λi hi=>by
  have c:i<l.length:=by simpa using hi
  have:l.toArray[i]! =l[i]:=by simp [c]
  rw[this]
  exact o _ (Hn c)⟩
 refine (Yq h S l.length l.toArray f m A).mono ?_
 rintro _ h' ⟨e,n,p,s,F⟩
 obtain⟨r,t⟩:=PE rfl p s
 exact⟨e.toList,n.get,r,t,F⟩
end Go.Proofs.YtoighkablmjfeaaGreat.Cls
namespace Go.Proofs.YtoighkablmjfeaaGreat
open Go Go.Ay Go.Pm
section
variable {i j p:Nat} {S:LN} {Q:List Nat}
section
variable {n:Nat} {G:List Nat->Prop} {L:LN}
theorem AX {l:LN}(nd:l.Nodup)(hi:i<l.length)(b:j<l.length)(e:l.getD i []=l.getD j []):i=j:=by
 have c:l.getD i []=l[i]:=by rw[List.getD,dJ hi];rfl
 have d:l.getD j []=l[j]:=by rw[List.getD,dJ b];rfl
 rw[c,d] at e;have h:=Iz.1 nd;rcases Nat.lt_trichotomy i j with a|a|a
 .exact absurd e (h i j hi b a)
 .exact a
 .exact absurd e.symm (h j i b hi a)
def cR (G:List Nat->Prop)(L:LN)(i j:Nat):Prop:=cj G (L.getD i []) (L.getD j [])
open Classical in
noncomputable def iK (G:List Nat->Prop)(L:LN)(i:Nat):List Nat:=(List.range L.length).filter λj=>decide (cR G L i j)
theorem jM:j∈iK G L i↔j<L.length/\cR G L i j:=by
 classical
 unfold iK;rw[Gh,mS,xF]
theorem Wy (i:Nat):(iK G L i).Pairwise (· < ·):=by
 classical
 unfold iK;exact List.Pairwise.filter _ List.pairwise_lt_range
theorem Aj (i:Nat):(iK G L i).Nodup:=by
 classical
 unfold iK;exact List.Pairwise.filter _ List.nodup_range
def HN (G:List Nat->Prop)(L:LN)(i:Nat):Prop:= ∀j,j<i-> ¬cR G L j i
open Classical in
noncomputable def dR (G:List Nat->Prop)(L:LN)(k:Nat):List Nat:=(List.range k).filter λj=>decide (HN G L j)
theorem Ky (k:Nat):(HN G L k->dR G L (k+1)=dR G L k++ [k])/\(¬HN G L k->dR G L (k+1)=dR G L k):=by
 classical
 unfold dR;rw[List.range_succ,List.filter_append];refine⟨λh=>?_,λh=>?_⟩
 .rw[List.filter_cons_of_pos (by simpa using h)];rfl
 .rw[List.filter_cons_of_neg (by simpa using h),List.filter_nil,qH]
theorem mL {k:Nat}:i∈dR G L k↔i<k/\HN G L i:=by
 classical
 unfold dR;rw[Gh,mS,xF]
variable (hG:oK n G) (E:fW G L)
include hG E
omit hG in
theorem pX (hi:i<L.length):G (L.getD i []):=(E.mem _).1 (bF hi)
theorem jZ (hi:i<L.length):bJ n (L.getD i []):=hG.cF (pX E hi)
theorem Da (hi:i<L.length):cR G L i i:=abA hG (jZ hG E hi)
theorem Cg (hi:i<L.length)(h:cR G L i j):cR G L j i:=Si hG (jZ hG E hi) h
theorem pI {k:Nat}(hi:i<L.length)(h:cR G L i j)(h2:cR G L j k):cR G L i k:=Di hG (jZ hG E hi) h h2
theorem agJ (hi:i<L.length): ∃r,r<=i/\HN G L r/\cR G L r i:=by
 induction i using Nat.strongRecOn with
 |_ i ih=>
  by_cases h:HN G L i
  .exact⟨i,dN _,h,Da hG E hi⟩
  .obtain⟨j,a,b⟩: ∃j,j<i/\cR G L j i:=zL λf=>h λj a b=>f ⟨j,a,b⟩
   obtain⟨r,k,c,d⟩:=ih j a om;exact⟨r,om,c,pI hG E om d b⟩
theorem PH {r s:Nat}(b:r<L.length)(c:s<L.length)(l:HN G L r)(h2:HN G L s)(d:cR G L r i)(a:cR G L s i):r=s:=by
 have f:=pI hG E b d (Cg hG E c a);have k:=pI hG E c a (Cg hG E b d);rcases Nat.lt_trichotomy r s with h|h|h
 .exact absurd f (h2 r h)
 .exact h
 .exact absurd k (l s h)
omit hG E in
structure BQ (G:List Nat->Prop)(L S:LN)(i:Nat)(Q:List Nat)(p:Nat):Prop where
 nd:Q.Nodup
 ne:0<Q.length
 hd:Q.getD 0 0=i
 mem: ∀j∈Q,j<L.length/\cR G L i j
 cl: ∀k,k<p-> ∀s∈S,∃j∈Q,L.getD j []=bL (L.getD (Q.getD k 0) []) s
omit hG E in
theorem BQ.len (b:BQ G L S i Q p):Q.length<=L.length:=by
 have h:Q ⊆ List.range L.length:=λj a=>mS.2 (b.mem j a).1
 have:=List.Nodup.length_le_of_subset b.nd h;rwa [gT] at this
theorem BQ.done (b:BQ G L S i Q p)(w:Q.length<=p)(hi:i<L.length)(q: ∀s∈S,G s)(a: ∀x,G x->fG n (λg=>g∈S) x)(j:Nat):j∈Q↔j<L.length/\cR G L i j:=by
 refine⟨b.mem j,λ⟨o,hc⟩=>?_⟩
 have d: ∃k∈Q,L.getD k []=L.getD j []:=by
  refine aiS (S:=λg=>g∈S) (λg h=>hG.cF (q g h)) a (P:=λy=> ∃k∈Q,L.getD k []=y) (jZ hG E hi) ⟨i,by rw[<-b.hd];exact bF b.ne,rfl⟩ ?_ hc;rintro y g Y ⟨k,c,rfl⟩ h;obtain⟨t,m,v⟩:=Bj.1 c;obtain⟨u,r,l⟩:=b.cl t om g h;have e:Q.getD t 0=k:=by rw[Pm.cM m,v]
  rw[e] at l;exact⟨u,r,l⟩
 have⟨k,c,e⟩:=d;have f:=(b.mem k c).1;rw[<-AX E.nodup f o e];exact c
theorem BQ.sort (b:BQ G L S i Q p)(d:Q.length<=p)(hi:i<L.length)(k: ∀s∈S,G s)(a: ∀x,G x->fG n (λg=>g∈S) x){c:List Int}(f:c.Perm (zi Q))(h2:c.Pairwise (· <= ·)):c=zi (iK G L i):=by
 refine Ws (f.trans ?_) h2 ?_
 .refine List.Perm.map _ ((List.perm_ext_iff_of_nodup b.nd (Aj i)).2 λj=>?_)
  rw[b.done hG E d hi k a j,jM]
 .unfold zi
  rw[List.pairwise_map];exact (Wy i).imp λh=>om
theorem Oa (hi:i<L.length)(m:HN G L i):0<(iK G L i).length/\(iK G L i).getD 0 0=i:=by
 have f:i∈iK G L i:=jM.2 ⟨hi,Da hG E hi⟩;have a:=PC f;refine⟨a,?_⟩;have o:=jM.1 (bF (d:=0) a);obtain⟨k,h,l⟩:=Bj.1 f;have c:=Iz.1 (Wy (G:=G) (L:=L) i);rw[Pm.cM a] at*
 by_cases b:k=0
 .subst b;exact l
 .have q:=c 0 k a h om
  exact absurd (Cg hG E hi o.2) (m _ om)
end
end
end Go.Proofs.YtoighkablmjfeaaGreat
namespace Go.Ay
open Go
def BW (o:Option Ob)(h:H)(id:Nat)(s:vF)(k y:V):Option (V×H):=match o with
 |some (.wmap sh es)=>if s=sh/\isKey s k=true then
   some (V.undef,h.set id (some (.wmap sh (match fR k es with
    |some e=>es.set e.1 (k,y)
    |none=>es++ [(k,y)]))))
  else none
 |_=>none
def agH (s:vF)(h:H)(x k y:V):Option (V×H):=match x with
 | .mp id=>BW (h.get id) h id s k y
 |_=>none
theorem afK (ρ:X->V)(h:H)(s:vF)(x k y:X):dI ρ h (.msw s x k y)=agH s h (ρ x) (ρ k) (ρ y):=by
 simp only[dI,agH,BW];cases ρ x<;>try rfl
theorem aeQ (s:vF)(h:H)(id:Nat)(k y:V):agH s h (.mp id) k y=BW (h.get id) h id s k y:=rfl
def Ni (o:Option Ob)(s:vF)(zero:V)(ok:Bool)(k:V):Option V:=match o with
 |some (.wmap sh es)=>if s=sh/\isKey s k=true then
   match fR k es with
   |some e=>some (if ok then .tup [e.2,.bool true] else e.2)
   |none=>some (if ok then .tup [zero,.bool false] else zero)
  else none
 |_=>none
def akE (s:vF)(zero:V)(ok:Bool)(h:H)(x k:V):Option V:=match x with
 | .mp id=>Ni (h.get id) s zero ok k
 |_=>none
theorem EY (ρ:X->V)(h:H)(s:vF)(zero:V)(b:Bool)(x k:X):dI ρ h (.lkw s zero b x k)=(akE s zero b h (ρ x) (ρ k)).map (·,h):=by
 simp only[dI,akE,Ni];cases ρ x<;>try rfl
 rename_i id;simp only
 cases hg:h.get id with
 |none=>rfl
 |some o=>
  cases o<;>try rfl
  rename_i d c;simp only
  by_cases a:s=d/\isKey s (ρ k)=true
  .rw[aS a,aS a]
   cases fR (ρ k) c<;>rfl
  .rw[aQ a,aQ a];rfl
theorem ER (s:vF)(zero:V)(a:Bool)(h:H)(id:Nat)(k:V):akE s zero a h (.mp id) k=Ni (h.get id) s zero a k:=rfl
attribute [go_sem] afK aeQ EY ER
end Go.Ay
namespace Go.Proofs.YtoighkablmjfeaaGreat
open Go Go.Ay Go.Pm
set_option maxRecDepth 100000
def Vk (L:LN)(k:Nat):List (V×V):=(List.range k).map λi=>(V.str (L.getD i []),aC i)
theorem Eu (k:V):(a b:List (V×V))->fR k a=none->fR k (a++b)=(fR k b).map λq=>(q.1+a.length,q.2)
 | [],b,_=>by
  cases h:fR k b<;>simp [h]
 |e::a,b,h=>by
  show (if dS k e.1 then some (0,e.2) else (fR k (a++b)).map λq=>(q.1+1,q.2))=_;have c:(if dS k e.1 then some (0,e.2) else (fR k a).map λq=>(q.1+1,q.2))=none:=h;split at c
  .cases c
  .rename_i d
   rw[aQ d,Eu k a b (by cases h2:fR k a with|none=>rfl|some x=>rw[h2] at c;cases c),Option.map_map]
   rfl
theorem Kb (L:LN)(k:Nat):Vk L (k+1)=Vk L k++ [(V.str (L.getD k []),aC k)]:=by
 unfold Vk;rw[List.range_succ,List.map_append];rfl
theorem Mj {L:LN}{w:List Nat}:{k:Nat}->(∀i,i<k->L.getD i []≠w)->fR (.str w) (Vk L k)=none
 |0,_=>rfl
 |k+1,h=>by
  rw[Kb,Eu _ _ _ (Mj λi hi=>h i om)]
  have:(dS (.str w) (.str (L.getD k [])))=false:=by
   have:=h k om;simp only[dS,beq_eq_false_iff_ne,ne_eq];exact λe=>this e.symm
  show Option.map _ (if dS (.str w) (.str (L.getD k [])) then _ else _)=_;rw[aQ (by rw[this];simp)];rfl
theorem Xc {L:LN}(nd:L.Nodup):{k i:Nat}->k<=L.length->i<k->fR (.str (L.getD i [])) (Vk L k)=some (i,aC i)
 |0,i,_,h=>om
 |k+1,i,hk,h=>by
  rw[Kb]
  by_cases e:i=k
  .subst e
   rw[Eu _ _ _ (Mj λj m e=>by have:=AX nd om om e;omega)];show Option.map _ (if dS (.str (L.getD i [])) (.str (L.getD i [])) then some (0,aC i) else _)=_;rw[aS (by simp [dS])];simp [Vk]
  .have l:=Xc nd (k:=k) om (show i<k by omega)
   have d:(a b:List (V×V))->(x:V)->(r:Nat×V)->fR x a=some r->fR x (a++b)=some r:=by
    intro a
    induction a with
    |nil=>intro b x r h;cases h
    |cons y a ih2=>
     intro b x r h;show (if dS x y.1 then some (0,y.2) else (fR x (a++b)).map λq=>(q.1+1,q.2))=_;have c:(if dS x y.1 then some (0,y.2) else (fR x a).map λq=>(q.1+1,q.2))=some r:=h
     by_cases f:dS x y.1=true
     .rw[aS f] at c |-;exact c
     .rw[aQ f] at c |-
      cases h2:fR x a with
      |none=>rw[h2] at c;cases c
      |some r2=>rw[h2] at c;rw[ih2 b x r2 h2];exact c
   exact d _ _ _ _ l
theorem Kl {w:List Nat}(b:w.length<=1000)(h2: ∀x∈w,x<256):isKey .str (.str w)=true:=by
 have e:(decide (w.length<2^62)&&w.all λn=>decide (n<256))=true:=by
  rw[oD,decide_eq_true_eq,uR];exact⟨om,λx a=>by simpa using h2 x a⟩
 exact e
theorem UO {L:LN}(nd:L.Nodup){k:Nat}(b:k<L.length)(c:isKey .str (.str (L.getD k []))=true)(a:H)(M:Nat):
  BW (some (.wmap .str (Vk L k))) a M .str (.str (L.getD k [])) (aC k)=some (.undef,a.set M (some (.wmap .str (Vk L (k+1))))):=by
 have e:fR (.str (L.getD k [])) (Vk L k)=none:=Mj λj d e=>by have:=AX nd om b e;omega
 simp only[BW]
 rw[aS ⟨trivial,c⟩,e,Kb]
theorem Wr {L:LN}(nd:L.Nodup){i:Nat}(hi:i<L.length)(a:isKey .str (.str (L.getD i []))=true)(z:V):
  Ni (some (.wmap .str (Vk L L.length))) .str z false (.str (L.getD i []))=some (aC i):=by
 simp only[Ni]
 rw[aS ⟨trivial,a⟩,Xc nd (dN _) hi];rfl
end Go.Proofs.YtoighkablmjfeaaGreat
namespace Go.Ay
open Go
section
variable {e:Nat×V} {y:V}
def EO (o:Option Ob)(h:H)(id:Nat)(s:vF)(zero k:V):Option (V×H):=match o with
 |some (.wmap sh es)=>if s=sh/\isKey s k=true then
   match fR k es with
   |some e=>some (.tup [e.2,aC (e.1:Nat)],h)
   |none=>some (.tup [zero,aC es.length],h.set id (some (.wmap sh (es++ [(k,zero)]))))
  else none
 |_=>none
def aiE (s:vF)(zero:V)(h:H)(x k:V):Option (V×H):=match x with
 | .mp id=>EO (h.get id) h id s zero k
 |_=>none
theorem afE (ρ:X->V)(h:H)(s:vF)(zero:V)(x k:X):dI ρ h (.kH s zero x k)=aiE s zero h (ρ x) (ρ k):=by
 simp only[dI,aiE,EO];cases ρ x<;>try rfl
theorem aaN (s:vF)(zero:V)(h:H)(id:Nat)(k:V):aiE s zero h (.mp id) k=EO (h.get id) h id s zero k:=rfl
def OE (o:Option Ob)(h:H)(id:Nat)(n:Int)(y:V):Option (V×H):=match o with
 |some (.wmap sh es)=>if 0<=n then
   match es[n.toNat]? with
   |some e=>some (V.undef,h.set id (some (.wmap sh (es.set n.toNat (e.1,y)))))
   |none=>none
  else none
 |_=>none
def agO (h:H)(x s y:V):Option (V×H):=match x,s with
 | .mp id,aC n=>OE (h.get id) h id n y
 |_,_=>none
theorem abQ (ρ:X->V)(h:H)(x s y:X):dI ρ h (.ens x s y)=agO h (ρ x) (ρ s) (ρ y):=by
 simp only[dI,agO,OE];cases ρ x<;>try rfl
theorem ZC (h:H)(id:Nat)(n:Int)(y:V):agO h (.mp id) (aC n) y=OE (h.get id) h id n y:=rfl
attribute [go_sem] afE aaN abQ ZC
section
variable {κ:Type} [DecidableEq κ]
def Av:List (κ×V)->κ->Option (Nat×V)
 | [],_=>none
 |p::l,a=>if a=p.1 then some (0,p.2) else (Av l a).map λq=>(q.1+1,q.2)
def eU (enc:κ->V)(l:List (κ×V)):List (V×V):=l.map λp=>(enc p.1,p.2)
def Rt (l:List (κ×V))(a:κ):Option V:=(Av l a).map (·.2)
def Rz (l:List (κ×V))(a:κ)(y:V):List (κ×V):=match Av l a with
 |some e=>l.set e.1 (a,y)
 |none=>l++ [(a,y)]
theorem yO {enc:κ->V}{P:κ->Prop}(d: ∀a b,P a->P b->dS (enc a) (enc b)=decide (a=b)){a:κ}(c:P a):{l:List (κ×V)}->(∀p∈l,P p.1)->fR (enc a) (eU enc l)=Av l a
 | [],_=>rfl
 |p::l,h=>by
  show (if dS (enc a) (enc p.1) then some (0,p.2) else (fR (enc a) (eU enc l)).map λq=>(q.1+1,q.2))=if a=p.1 then some (0,p.2) else (Av l a).map λq=>(q.1+1,q.2)
  rw[d a p.1 c (h p siM),yO d c λq f=>h q (by simp [f])]
  by_cases e:a=p.1<;>simp [e]
theorem YF {l:List (κ×V)}{a:κ}(h:Av l a=some e):l[e.1]? =some (a,e.2):=by
 induction l generalizing e with
 |nil=>cases h
 |cons p l ih=>
  rw[Av] at h
  by_cases c:a=p.1
  .rw[aS c] at h
   cases h;simp [c]
  .rw[aQ c] at h
   obtain⟨q,b,rfl⟩:=kU.1 h;simpa using ih b
theorem acC (a:κ)(l m:List (κ×V))(h:Av l a=none):Av (l++m) a=(Av m a).map λq=>(q.1+l.length,q.2):=by
 induction l with
 |nil=>cases hm:Av m a<;>simp [hm]
 |cons p l ih=>
  rw[Av] at h
  by_cases c:a=p.1
  .rw[aS c] at h;cases h
  .rw[aQ c] at h
   have b:Av l a=none:=by cases hl:Av l a with|none=>rfl|some x=>rw[hl] at h;cases h
   rw[List.cons_append,Av,aQ c,ih b,Option.map_map]
   rfl
theorem Rh (a:κ)(l m:List (κ×V))(h:Av l a=some e):Av (l++m) a=some e:=by
 induction l generalizing e with
 |nil=>cases h
 |cons p l ih=>
  rw[Av] at h;rw[List.cons_append,Av]
  by_cases c:a=p.1
  .rw[aS c] at h |-;exact h
  .rw[aQ c] at h |-
   obtain⟨q,b,rfl⟩:=kU.1 h;rw[ih b];rfl
theorem afL (l:List (κ×V)){a:κ}(y:V)(h:Av l a=some e)(b:κ):Rt (l.set e.1 (a,y)) b=if b=a then some y else Rt l b:=by
 unfold Rt
 induction l generalizing e with
 |nil=>cases h
 |cons p l f=>
  rw[Av] at h
  by_cases c:a=p.1
  .rw[aS c] at h
   cases h;show Option.map _ (if b=a then some (0,y) else (Av l b).map λq=>(q.1+1,q.2))=_
   by_cases d:b=a
   .rw[aS d,aS d];rfl
   .rw[aQ d,aQ d,Av,aQ (by rw[<-c];exact d)]
  .rw[aQ c] at h
   obtain⟨q,i,rfl⟩:=kU.1 h;have f:=f i;show Option.map _ (if b=p.1 then some (0,p.2) else (Av (l.set q.1 (a,y)) b).map λq=>(q.1+1,q.2))=_
   by_cases d:b=p.1
   .rw[aS d,aQ (by rw[d];exact λe=>c e.symm),Av,aS d]
   .rw[aQ d,Option.map_map,Av,aQ d,Option.map_map]
    exact f
theorem Rk (l:List (κ×V))(a:κ)(y:V)(b:κ):Rt (Rz l a y) b=if b=a then some y else Rt l b:=by
 unfold Rz
 cases h:Av l a with
 |some e=>exact afL l y h b
 |none=>
  show Rt (l++ [(a,y)]) b=_;unfold Rt
  cases hb:Av l b with
  |some e=>
   rw[Rh b l _ hb,aQ (λe=>by rw[e,h] at hb;cases hb)]
  |none=>
   rw[acC b l _ hb];show Option.map _ (Option.map _ (if b=a then some (0,y) else none))=_
   by_cases d:b=a
   .rw[aS d,aS d];rfl
   .rw[aQ d,aQ d];rfl
theorem Pb {P:κ->Prop}{l:List (κ×V)}{a:κ}(d:P a)(c: ∀p∈l,P p.1): ∀p∈Rz l a y,P p.1:=by
 unfold Rz;intro p b;split at b
 .rcases List.mem_or_eq_of_mem_set b with h|rfl
  .exact c p h
  .exact d
 .rcases Es.1 b with h|h
  .exact c p h
  .rw[List.mem_singleton.1 h];exact d
omit [DecidableEq κ] in
theorem Ja {enc:κ->V}{l:List (κ×V)}{k:Nat}{a:κ}:(eU enc l).set k (enc a,y)=eU enc (l.set k (a,y)):=by
 unfold eU;rw[List.map_set]
omit [DecidableEq κ] in
theorem Ot {enc:κ->V}{l:List (κ×V)}{a:κ}:eU enc l++ [(enc a,y)]=eU enc (l++ [(a,y)]):=by
 unfold eU;rw[List.map_append];rfl
theorem SA {enc:κ->V}{P:κ->Prop}(d: ∀a b,P a->P b->dS (enc a) (enc b)=decide (a=b)){s:vF}(i: ∀a,P a->isKey s (enc a)=true){l:List (κ×V)}(f: ∀p∈l,P p.1){a:κ}(c:P a)(y:V)(h:H)(id:Nat):
  BW (some (.wmap s (eU enc l))) h id s (enc a) y=some (.undef,h.set id (some (.wmap s (eU enc (Rz l a y))))):=by
 simp only[BW]
 rw[aS ⟨trivial,i a c⟩,yO d c f]
 unfold Rz
 cases Av l a with
 |some e=>simp only[Ja]
 |none=>simp only[Ot]
theorem Cd {enc:κ->V}{P:κ->Prop}(d: ∀a b,P a->P b->dS (enc a) (enc b)=decide (a=b)){s:vF}(h: ∀a,P a->isKey s (enc a)=true){l:List (κ×V)}(f: ∀p∈l,P p.1){a:κ}(c:P a)(z:V):
  Ni (some (.wmap s (eU enc l))) s z false (enc a)=some ((Rt l a).getD z):=by
 simp only[Ni]
 rw[aS ⟨trivial,h a c⟩,yO d c f]
 unfold Rt
 cases Av l a<;>rfl
theorem abJ {enc:κ->V}{P:κ->Prop}(o: ∀a b,P a->P b->dS (enc a) (enc b)=decide (a=b)){s:vF}(f: ∀a,P a->isKey s (enc a)=true){l:List (κ×V)}(j: ∀p∈l,P p.1){a:κ}(i:P a)(z y:V)(h:H)(id:Nat)(q:h.get id=some (.wmap s (eU enc l))):
  ∃(v:V) (n:Nat) (l1:List (κ×V)) (h1:H),EO (some (.wmap s (eU enc l))) h id s z (enc a)=some (.tup [v,aC n],h1)/\h1.next=h.next/\(∀k,k≠id->h1.get k=h.get k)/\h1.get id=some (.wmap s (eU enc l1))/\(∀p∈l1,P p.1)/\(∀b,(Rt l1 b).getD z=(Rt l b).getD z)/\
   ∀hh,OE (some (.wmap s (eU enc l1))) hh id (n:Int) y=some (.undef,hh.set id (some (.wmap s (eU enc (Rz l a y))))):=by
 have c:=yO o i j
 unfold Rz
 cases hx:Av l a with
 |some e=>
  rw[hx] at c;refine⟨e.2,e.1,l,h,?_,rfl,λ_ _=>rfl,q,j,λ_=>rfl,λhh=>?_⟩
  .simp only[EO];rw[aS ⟨trivial,f a i⟩,c]
  .have r:=YF hx
   have:(eU enc l)[(e.1:Int).toNat]? =some (enc a,e.2):=by
    rw[Mc];unfold eU;rw[Al,r];rfl
   simp only[OE];rw[aS om,this];simp only[Mc,Ja]
 |none=>
  rw[hx] at c;refine⟨z,l.length,l++ [(a,z)],h.set id (some (.wmap s (eU enc (l++ [(a,z)])))),?_,rfl,λk f=>H.Cj _ f _,H.aJ ..,?_,λb=>?_,λhh=>?_⟩
  .simp only[EO]
   rw[aS ⟨trivial,f a i⟩,c];simp only[Ot];rw[show (eU enc l).length=l.length from by unfold eU;rw[dO]]
  .intro p m
   rcases Es.1 m with h|h
   .exact j p h
   .rw[List.mem_singleton.1 h];exact i
  .have:=Rk l a z b
   unfold Rz at this;rw[hx] at this;have this:Rt (l++ [(a,z)]) b=if b=a then some z else Rt l b:=this
   rw[this]
   by_cases d:b=a
   .rw[aS d,d];unfold Rt;rw[hx];rfl
   .rw[aQ d]
  .have:(eU enc (l++ [(a,z)]))[(l.length:Int).toNat]? =some (enc a,z):=by
    rw[Mc];unfold eU;rw[Al];simp
   simp only[OE];rw[aS om,this];simp only[Mc,Ja];simp
end
end
end Go.Ay
namespace Go.Proofs.YtoighkablmjfeaaGreat
open Go Go.Ay Go.Pm
section
variable {G:List Nat->Prop} {L:LN} {i j n:Nat} {Q:List Nat} {h:H} {v:V}
theorem amC (o:V)(d:Int)(O:List (List Int))(R:List (List (List Int)))(h:H)(c:ChI h o d O R)(s:d<=20\/64<d)(y:Li O)(sr:Ul R)(m:To d O R≠0):
  Ev T 42 [o] h (λv h'=>v= .tup [.nilp,aC (To d O R)]/\Fr h h'):=by
 have f:=c
 obtain⟨k,l,e,z,K⟩:=c
 subst e
 refine EvZ kZ rfl ?_
 have a:k.one=true:=NB z
 have b:l.one=true:=KY K
 obtain⟨B,r⟩:=exI h.next
 obtain⟨J,e1,P,x,U,q⟩:=iI r [aC d,k,l]
 have t:=dH h (v:= aC d) (u:=k) (w:=l) rfl a b
 have F:=bU x
 simp(disch:=omega)only[go_sem,kZ,aV,t,r,e1,F]
 refine (afF _ d O R J (f.mono q) s y sr m).mono ?_
 rintro _ N ⟨rfl,A⟩
 refine aT ?_
 refine bV (λ_=>?_) (λc=>(c m).elim)
 refine aT ?_
 exact q.trans A
theorem JP {a:V}(b:a.cells= [a])(c:a.one=true)(M N m:Nat):mP [.aH,.nilm,.aH,.aH] [(0,1,a),(1,1,.mp M),(3,1,.sl N 0 m (.kn m))]=some (.agg [a,.mp M,.aH,.sl N 0 m (.kn m)]):=by
 simp [mP,fP,putAt,b,c,show (V.mp M).cells= [V.mp M] from rfl,show (V.sl N 0 m (.kn m)).cells= [V.sl N 0 m (.kn m)] from rfl,show (V.mp M).one=true from rfl,show (V.sl N 0 m (.kn m)).one=true from rfl]
theorem OX {a:V}(b:a.one=true)(M N m:Nat)(h:H):mT h (.agg [a,.mp M,.aH,.sl N 0 m (.kn m)])=some (.ptr h.next 0,h.new (.cells false [a,.mp M,.aH,.sl N 0 m (.kn m)])):=rI h _ (by simp [b,show (V.mp M).one=true from rfl,show (V.sl N 0 m (.kn m)).one=true from rfl,show V.aH.one=true from rfl])
open Classical in
noncomputable def Et (G:List Nat->Prop)(L:LN)(i:Nat)(Q:List Nat)(j:Nat):Bool:=decide ((∃i0,i0<i/\cR G L i0 j)\/j∈Q)
theorem mH:Et G L i Q j=true↔(∃i0,i0<i/\cR G L i0 j)\/j∈Q:=by classical unfold Et;simp only[decide_eq_true_eq]
theorem WD (G:List Nat->Prop)(L:LN)(j:Nat):Et G L 0 [] j=false:=by
 rw[<-Bool.not_eq_true,mH];rintro (⟨a,h,_⟩|h)
 .omega
 .cases h
theorem Zg {k:Nat}:Et G L i (Q++ [k]) j=if j=k then true else Et G L i Q j:=by
 by_cases e:j=k
 .rw[aS e,mH];exact .inr (by simp [e])
 .rw[aQ e,Ri,mH,mH]
  simp [e]
theorem Bu {p:Nat->Option Ay.Fn}{rd:Option Nat}{a:C}{k:Nat}{b:List V}{Q:E->List V->H->Prop}(J:List V->H->Prop)(c:Wp p rd (.loop a) b h (λe v h'=>e= .exit k/\J v h'))(h2: ∀v h',J v h'->Q .norm v h'):Wp p rd (.loop a) b h (tP k Q):=
 c.mono λe v h' x=>by
  obtain⟨rfl,x⟩:=x;rw[yH];exact h2 v h' x
theorem dF.ge {sz id off b:Nat}{ws:List V}(o:dF h v sz ws b)(a:ws.length=n*sz)(l:0<sz)(s:Sl v sz n id off)(f:0<n):b<=id:=by
 have k:=s.ixa .i64 0 om om;rcases o.sv with ⟨_,rfl⟩|⟨q,d,len,m,u,r,e,c,_⟩
 .have:=Nat.mul_pos f l
  simp at a;omega
 .have w:=(o.in _ _ _ _ e).2.1
  subst e
  have t:0<len:=by
   have:=Nat.mul_pos f l;refine Nat.pos_of_ne_zero λe0=>?_
   subst e0;simp at c;rw[c] at a;simp at a;omega
  rw[lJ om om] at k;simp only[Option.some.injEq,V.ptr.injEq] at k;omega
theorem YL (o:oK n G)(E:fW G L)(hi:i<L.length)(k: ¬HN G L i)(j:Nat):Et G L i [] j=Et G L (i+1) [] j:=by
 obtain⟨d,m,c⟩: ∃j,j<i/\cR G L j i:=zL λq=>k λj f c=>q ⟨j,f,c⟩
 rw[Ri,mH,mH];constructor
 .rintro (⟨a,l,b⟩|h)
  .exact .inl ⟨a,om,b⟩
  .cases h
 .rintro (⟨a,l,b⟩|h)
  .by_cases e:a=i
   .subst e;exact .inl ⟨d,m,pI o E om c b⟩
   .exact .inl ⟨a,om,b⟩
  .cases h
theorem XK {S:LN}(m:oK n G)(E:fW G L)(hi:i<L.length)(b:BQ G L S i Q Q.length)(k: ∀s∈S,G s)(a: ∀x,G x->fG n (λg=>g∈S) x)(f:j<L.length):Et G L i Q j=Et G L (i+1) [] j:=by
 rw[Ri,mH,mH];constructor
 .rintro (⟨c,l,d⟩|h)
  .exact .inl ⟨c,om,d⟩
  .exact .inl ⟨i,om,(b.mem j h).2⟩
 .rintro (⟨c,l,d⟩|h)
  .by_cases e:c=i
   .subst e;exact .inr ((b.done m E (dN _) hi k a j).2 ⟨f,d⟩)
   .exact .inl ⟨c,om,d⟩
  .cases h
theorem MN (a:v.cells= [v])(b:v.one=true)(x y:Int):mP [.aH,aC 0,aC 0] [(0,1,v),(1,1,aC x),(2,1,aC y)]=some (.agg [v,aC x,aC y]):=by
 simp [mP,fP,putAt,a,b,show ∀z,(aC z).cells= [aC z] from λ_=>rfl,show ∀z,(aC z).one=true from λ_=>rfl]
theorem JZ {w:V}(c:v.one=true)(b:w.cells= [w])(a:w.one=true)(x y:Int):mP [.aH,aC 0,aC 0,.aH] [(0,3,.agg [v,aC x,aC y]),(3,1,w)]=some (.agg [v,aC x,aC y,w]):=by
 simp [mP,fP,putAt,b,c,a,show ∀l,(V.agg l).cells=l from λ_=>rfl,show ∀z,(aC z).one=true from λ_=>rfl]
theorem NO {w:V}(b:v.one=true)(a:w.one=true)(x y:Int)(h:H):lU h 4 [.aH,aC 0,aC 0,.aH] 1 [(0,4,.agg [v,aC x,aC y,w])]=some (.sl h.next 0 1 (.kn 1),h.new (.cells false [v,aC x,aC y,w])):=by
 have e:cJ [V.aH,aC 0,aC 0,.aH] 4= [V.aH,aC 0,aC 0,.aH]:=rfl;simp [lU,fP,putAt,e,b,a,show ∀l,(V.agg l).cells=l from λ_=>rfl,show ∀z,(aC z).one=true from λ_=>rfl]
theorem tU (k:Nat):(dR G L k).length<=k:=by
 classical
 unfold dR;exact kQ (List.length_filter_le _ _) (by rw[gT];exact dN _)
theorem Od (ks:List Cls.KE):(Cls.nT ks).length=ks.length*4:=by
 induction ks with
 |nil=>rfl
 |cons a r ih=>
  show (a.enc++Cls.nT r).length=_;rw[eE,ih,List.length_cons];show 4+_=_;omega
theorem JW {a b c d:V}(f:H)(id:Nat)(y:V):dY (some (.cells false [a,b,c,d])) f id 2 [y]=some (f.set id (some (.cells false [a,b,y,d]))):=by
 simp [dY,putAt]
theorem aiZ {sz:Nat}{ws:List V}(s:SV h v sz ws):vI (λq=>h.next<=q) v:=by
 cases v with
 |sl id off len cap=>exact λa=>by have:=s.in _ _ _ _ rfl;omega
 |_=>trivial
structure KO (n:Nat)(G:List Nat->Prop)(L:LN)(X:Nat)(W:Nat->Prop)(hh:H)(a:Cls.KE)(r:Nat):Prop where
 fst:a.fst=r
 ord:a.ord=fC (L.getD r []) n
 size:a.size=(iK G L r).length
 rep:PV (λq=>X<=q) hh a.rep (L.getD r [])
 ranks:PV W hh a.ranks (iK G L r)
theorem KO.go {X:Nat}{W W':Nat->Prop}{h':H}{a:Cls.KE}{r:Nat}(k:KO n G L X W h a r)(f:Fx W h h')(o:X<=h.next)(d: ∀q,W q->X<=q)(c: ∀q,q<h.next->W' q->W q):KO n G L X W' h' a r:=
 ⟨k.fst,k.ord,k.size,k.rep.fx ⟨f.next,λq b m=>f.get q b λl=>m (d q l)⟩,PV.go k.ranks f c⟩
structure OfJ (n:Nat)(G:List Nat->Prop)(L:LN)(X D:Nat)(vL:V)(h5:H)(i:Nat)(hh:H):Prop where
 ex: ∃vK ks W,hh.get (X+8)=some (.cells false [vL,.mp (X+3),vK,.sl (X+6) 0 L.length (.kn L.length)])/\dF hh vK 4 (Cls.nT ks) (D+1)/\bH (KO n G L X W hh) ks (dR G L i)/\Mh W vK/\W D/\W (X+8)/\W (X+6)/\(∀q,W q->q<hh.next)/\(∀q,W q->X<=q)/\(ks= []\/ ∃id cap,vK= .sl id 0 ks.length cap/\hh.get id=some (.cells false (Cls.nT ks)))
 gD:hh.get D=some (.cells false (rc L.length λj=> .bool (Et G L i [] j)))
 old:Fx (λq=>q=X+8\/D<=q) h5 hh
 nx:D<hh.next
def SK (n:Nat):C->Bool
 | .block k _=>k==n
 | .seq _ b=>SK n b
 |_=>false
def Rl (n:Nat):C->C
 | .seq a b=>if SK n a then b else Rl n b
 |c=>c
structure OfE (n:Nat)(G:List Nat->Prop)(L:LN)(X D:Nat)(vL:V)(h h2 h5 h7:H):Prop where
 el:fW G L
 le:L.length<=5040
 f2:Fr h h2
 x2:h2.next=X
 sp:SP h2 vL L
 f25:Fr h2 h5
 xD:X+10<=D
 n5:h5.next=D
 gM:h5.get (X+3)=some (.wmap .str (Vk L L.length))
 gN:h5.get (X+6)=some (.cells false (rc L.length λ_=> aC 0))
 j:OfJ n G L X D vL h5 L.length h7
theorem ZH {W0:Nat->Prop}(vc:V)(n:Nat)(O:LN)(R:nZ)(G:List Nat->Prop)(h:H)(gc:GC W0 h vc n O R G)(P:V->H->Prop)
  (hk: ∀L X D vL h2 h5 h7 A (g:Nat->V),cK O R n 0 (bI n)=L->OfE n G L X D vL h h2 h5 h7->Wp T none (Rl 2 kZ.fn.body) ((g 0:: .ptr A 0:: .nilp:: aC 0::vL::g 5:: .ptr (X+8) 0::g 7::g 8::g 9::g 10::g 11::g 12::g 13::g 14::g 15::g 16::g 17::g 18::g 19::g 20::g 21::g 22::g 23::g 24::g 25::g 26::g 27::g 28::g 29::g 30::g 31::g 32::g 33::g 34::g 35::g 36::g 37::g 38::g 39::g 40::g 41::g 42::g 43::g 44::g 45:: [])) h7 (Gb kZ.fn.results P)):
  Ev T 42 [vc] h P:=by
 obtain⟨vO,vR,e,sO,sR⟩:=gc.ch
 subst e
 refine EvZ kZ rfl ?_
 have j8:vO.one=true:=NB sO
 have j4:vR.one=true:=KY sR
 obtain⟨A,hA⟩:=exI h.next
 obtain⟨d,e1,n1,g1,o1,f1⟩:=iI hA [aC n,vO,vR]
 have bx:=dH h (v:= aC n) (u:=vO) (w:=vR) rfl j8 j4
 have rB:=bU g1
 obtain⟨L,hL⟩:=exI (cK O R n 0 (bI n))
 obtain⟨E,ll⟩:=dV gc.kT gc.isc
 have r9:=kF gc
 rw[hL] at E ll
 have hG:=gc.kT
 have n7:=gc.n7
 have o0:=gc.od
 have n0:=gc.n0
 simp(disch:=omega)only[go_sem,kZ,aV,bx,hA,e1,rB]
 refine (Ra _ n O R G d (gc.mono f1)).mono ?_
 rw[hL]
 rintro _ h2 ⟨vL,rfl,nw⟩
 obtain⟨wL,W,c3,l4,r3,W1⟩:=nw.ex
 have g4:=bH.length l4
 obtain⟨m,hm⟩:=exI L.length
 rw[hm] at g4
 have f8:=dF.lens c3 g4
 have c9:=c3.sv.cT.2.1
 have f2:=nw.fr
 refine bM f8 ?_
 refine bV (λhc=>(hc rfl).elim) (λ_=>?_)
 obtain⟨X,hX⟩:=exI h2.next
 simp(disch:=omega)only[go_sem,f8,anO _ m om,hX,JP c3.sv.cT.1 c9,OX c9]
 obtain⟨h3,a1⟩: ∃h3:H,h3=H.mk ((H.mk ((H.mk ((H.mk h2.tr (X+3)).new (Ob.wmap vF.str [])).tr (X+6)).new (Ob.cells false (rc m λ_=>aC 0))).tr (X+8)).new (Ob.cells false [vL,.mp (X+3),.aH,.sl (X+6) 0 m (.kn m)])).tr (X+10):=⟨_,rfl⟩
 rw[<-a1]
 have n3:h3.next=X+10:=by rw[a1]
 have gB:h3.get (X+8)=some (.cells false [vL,.mp (X+3),.aH,.sl (X+6) 0 m (.kn m)]):=by rw[a1];exact H.aI (H.mk _ (X+8)) _
 have gN:h3.get (X+6)=some (.cells false (rc m λ_=>aC 0)):=by
  rw[a1];exact (H.bG (H.mk _ (X+8)) (show X+6≠X+8 by omega) _).trans (H.aI (H.mk _ (X+6)) _)
 have gM:h3.get (X+3)=some (.wmap .str (Vk L 0)):=by
  rw[a1];exact (H.bG (H.mk _ (X+8)) (show X+3≠X+8 by omega) _).trans ((H.bG (H.mk _ (X+6)) (show X+3≠X+6 by omega) _).trans (H.aI (H.mk _ (X+3)) _))
 have f3:Fr h2 h3:=⟨om,λq hq=>by
  rw[a1]
  exact (H.bG (H.mk _ (X+8)) (show q≠X+8 by omega) _).trans ((H.bG (H.mk _ (X+6)) (show q≠X+6 by omega) _).trans (H.bG (H.mk _ (X+3)) (show q≠X+3 by omega) _))⟩
 clear a1
 have a0: ∀i,i<m->(L.getD i []).length<=1000/\ ∀x∈L.getD i [],x<256:=λi hi=>by
  have P:=jZ hG E (show i<L.length by omega);exact⟨by rw[P.len];omega,λx hx=>by have:=P.lt x hx;omega⟩
 obtain⟨p0,j5,b9,k9,i2⟩:=SV.shape c3.sv m om om
 have f4: ∀i,i<m-> ∃vx,(∀h',Fr h2 h'->h'.cell p0 (j5+i)=some vx)/\SI h2 vx (zi (L.getD i [])):=λi hi=>by
  obtain⟨v,d,b5⟩:=jI.at l4 (i:=i) om;exact⟨v,λh' f=>by rw[f.cell (k9 om),i2 i om,d],b5.si⟩
 have hK: ∀i,i<m->isKey .str (.str (L.getD i []))=true:=λi hi=>Kl (a0 i hi).1 (a0 i hi).2
 refine dG (λvs B=>(∃g:Nat->V,vs=(g 0:: .ptr A 0:: .nilp:: aC 0::vL::g 5:: .ptr (X+8) 0::g 7::g 8::g 9::g 10::g 11::g 12::g 13::g 14::g 15::g 16::g 17::g 18::g 19::g 20::g 21::g 22::g 23::g 24::g 25::g 26::g 27::g 28::g 29::g 30::g 31::g 32::g 33::g 34::g 35::g 36::g 37::g 38::g 39::g 40::g 41::g 42::g 43::g 44::g 45:: []))/\B.get (X+3)=some (.wmap .str (Vk L m))/\Fx (· =X+3) h3 B) ?_ ?_
 .refine aP (λk' vs B=> ∃(i:Nat),(∃g:Nat->V,vs=(g 0:: .ptr A 0:: .nilp:: aC 0::vL::g 5:: .ptr (X+8) 0::g 7::g 8::g 9::g 10::g 11::g 12::g 13::g 14::g 15::g 16::g 17::g 18::g 19::g 20::g 21::g 22::vL:: aC m:: aC i::g 26::g 27::g 28::g 29::g 30::g 31::g 32::g 33::g 34::g 35::g 36::g 37::g 38::g 39::g 40::g 41::g 42::g 43::g 44::g 45:: []))/\i<=m/\B.get (X+3)=some (.wmap .str (Vk L i))/\Fx (· =X+3) h3 B/\k'=m-i) m
   ⟨0,aD rfl,fY _,gM,Fx.refl _ h3,rfl⟩ ?_
  rintro k' K h4 ⟨i,⟨g,rfl⟩,hi,b4,F4,rfl⟩
  by_cases a6:(i:Int)<(m:Int)
  case neg=>
   have d4:=bZ a6;obtain rfl:i=m:=om
   refine bM d4 ?_;exact⟨aD rfl,b4,F4⟩
  have d4:=cV a6
  have a3:i<m:=om
  have b1:Fr h2 h4:=⟨by have:=F4.next;omega,λq hq=>by rw[F4.get q om om];exact f3.get q hq⟩
  have c2:h4.get (X+8)=some (.cells false [vL,.mp (X+3),.aH,.sl (X+6) 0 m (.kn m)]):=by rw[F4.get _ om om];exact gB
  obtain⟨vx,cx,sx⟩:=f4 i a3
  have c8:h4.cell (X+8) 1=some (.mp (X+3)):=by rw[H.cell_of c2];rfl
  refine jX d4 @b9.ixa (cx h4 b1) c8 ?_
  refine (Tj vx (L.getD i []) _ (a0 i a3).1 (a0 i a3).2 (sx.mono (b1.trans ((Fr.refl h4).cU om)))).mono ?_
  rintro _ h5 ⟨rfl,f5⟩
  have c7:Fr h4 h5:=((Fr.refl h4).cU om).trans f5
  have n4:=F4.next
  have q2:h5.get (X+3)=some (.wmap .str (Vk L i)):=by rw[c7.get _ om];exact b4
  have l5:h5.cell (X+8) 1=some (.mp (X+3)):=by rw[c7.cell om];exact c8
  have pt:=λB=>UO E.nodup (show i<L.length by omega) (hK i a3) B (X+3)
  refine iG l5 q2 pt ?_
  rw[fJ i]
  refine⟨by simp [dS],m-(i+1),om,i+1,aD rfl,om,rfl,⟨by have:=c7.next;show h3.next<=h5.next;omega,λq d h2=>by rw[H.Cj _ (λe=>h2 e),c7.get q om];exact F4.get q d h2⟩,rfl⟩
 rintro K h4 ⟨⟨g,rfl⟩,b4,F4⟩
 have n4:=F4.next
 have b1:Fr h2 h4:=⟨om,λq hq=>by rw[F4.get q om om];exact f3.get q hq⟩
 have c2:h4.get (X+8)=some (.cells false [vL,.mp (X+3),.aH,.sl (X+6) 0 m (.kn m)]):=by rw[F4.get _ om om];exact gB
 have i4:h4.get (X+6)=some (.cells false (rc m λ_=>aC 0)):=by rw[F4.get _ om om];exact gN
 have l1:=f2.trans b1
 have rA:=bU (h:=h4) (id:=A) (ro:=false) (by rw[l1.get _ om];exact g1)
 refine bM rA ?_
 refine (NG _ n O R G h4 (gc.mono (f1.trans l1))).mono ?_
 rintro _ h5 ⟨vS,rfl,nS⟩
 have f5:=nS.fr
 obtain⟨D,hD⟩:=exI h5.next
 obtain⟨h6,e6,n6,g6,o6,f6⟩:=iI hD (rc m λ_=>V.bool false)
 refine jX f8 @LS hD e6 ?_
 have f0:=b1.trans f5
 have r1:=f0.next
 have n5:=f5.next
 obtain⟨wS,WS,d7,e4,r0,p2⟩:=nS.ex
 obtain⟨S,hS⟩:=exI (hH R)
 rw[hS] at e4
 have o2:=bH.length e4
 have a2: ∀s∈S,G s:=λs hs=>Ke gc.isc (by rw[hS];exact hs)
 have b7: ∀x,G x->fG n (λg=>g∈S) x:=λx hx=>by rw[<-hS];exact BD hG gc.isc hx
 obtain⟨sl,e7⟩:=exI S.length
 have q5:sl<=400:=by
  have d: ∀j,j<R.length->(R.getD j []).length<=n:=λj U=>by
   have c5:j<n:=by rw[<-gc.isc.lr];exact U
   rw[gc.isc.rl j c5];have:=yP (λx hx=>hG.cF hx) c5 (gc.isc.asc j c5) (gc.isc.mem j c5);omega
  have h2:=Am (n:=n) (R:=R) (dN _) d;rw[List.take_length,hS,e7,gc.isc.lr] at h2;have:n*n<=20*20:=Nat.mul_le_mul n7 n7;omega
 have q4:=dF.lens d7 (o2.trans e7)
 obtain⟨b6,i8,j0,k0,q3⟩:=SV.shape d7.sv sl om om
 have q1:=dF.ge d7 (n:=sl) om om j0
 have p3: ∀t,t<sl-> ∃vy,(∀B,Fx (λq=>q=X+8\/D<=q) h5 B->B.cell b6 (i8+t)=some vy)/\PV (λq=>q=X+8\/D<=q) h5 vy (S.getD t []):=λt ht=>by
  obtain⟨v,d,b5⟩:=jI.at e4 (i:=t) om;have hi:=k0 om;have r5:h4.next<=b6:=q1 om;refine⟨v,λB f=>?_,b5.mE λid r4 hw=>p2 id ?_⟩
  .have e:B.get b6=h5.get b6:=f.get b6 hi om
   unfold H.cell;rw[e];have:=q3 t om;rw[d] at this;exact this
  .rcases hw with e|e
   .omega
   .omega
 have J0:OfJ n G L X D vL h5 0 h6:=
  ⟨⟨.aH, [],λq=>q=D\/q=X+8\/q=X+6,by rw[f6.get _ om,f5.get _ om,hm];exact c2,dF.aH _ _ _,trivial,λ_ _ _ _ e=>(by cases e),.inl rfl,.inr (.inl rfl),.inr (.inr rfl),λq h=>by rcases h with h|h|h<;>omega,λq h=>by rcases h with h|h|h<;>omega,.inl rfl⟩,
   by rw[g6,hm,show (λj=>V.bool (Et G L 0 [] j))=λ_=>V.bool false from funext λj=>by rw[WD]],Fx.of f6,om⟩
 refine dG (λvs B=>(∃g:Nat->V,vs=(g 0:: .ptr A 0:: .nilp:: aC 0::vL::g 5:: .ptr (X+8) 0::g 7::g 8::g 9::g 10::g 11::g 12::g 13::g 14::g 15::g 16::g 17::g 18::g 19::g 20::g 21::g 22::g 23::g 24::g 25::g 26::g 27::g 28::g 29::g 30::g 31::g 32::g 33::g 34::g 35::g 36::g 37::g 38::g 39::g 40::g 41::g 42::g 43::g 44::g 45:: []))/\OfJ n G L X D vL h5 m B) ?_ ?_
 .refine aP (λk' vs B=> ∃(i:Nat),(∃g:Nat->V,vs=(g 0:: .ptr A 0:: .nilp:: aC 0::vL::g 5:: .ptr (X+8) 0::g 7::g 8::vS:: .sl D 0 m (.kn m)::g 11::g 12::g 13::g 14::g 15::g 16::g 17::g 18::g 19::g 20::g 21::g 22::g 23::g 24::g 25::g 26::vL:: aC m:: aC i::g 30::g 31::g 32::g 33::g 34::g 35::g 36::g 37::g 38::g 39::g 40::g 41::g 42::g 43::g 44::g 45:: []))/\i<=m/\OfJ n G L X D vL h5 i B/\k'=m-i) m
   ⟨0,aD rfl,fY _,J0,rfl⟩ ?_
  clear J0
  rintro k' K h7 ⟨i,⟨g,rfl⟩,hi,J,rfl⟩
  by_cases a6:(i:Int)<(m:Int)
  case neg=>
   have d4:=bZ a6;obtain rfl:i=m:=om
   refine bM d4 ?_;exact⟨aD rfl,J⟩
  have d4:=cV a6
  have a3:i<m:=om
  have nD:=J.nx
  have b0:Fr h2 h7:=⟨om,λq hq=>by rw[J.old.get q om om];exact f0.get q hq⟩
  obtain⟨vx,cx,sx⟩:=f4 i a3
  have cD:=vD J.gD (i:=i) om
  by_cases hr:HN G L i
  case neg=>
   have e3:Et G L i [] i=true:=by
    rw[mH];exact .inl (zL λhn=>hr λj U hc=>hn ⟨j,U,hc⟩)
   rw[e3] at cD;refine jX d4 @b9.ixa (cx h7 b0) cD ?_;rw[fJ i];refine⟨m-(i+1),om,i+1,aD rfl,om,?_,rfl⟩;refine⟨?_,?_,J.old,J.nx⟩
   .rw[(Ky i).2 hr];exact J.ex
   .rw[J.gD,bW λj _=>by rw[YL hG E (show i<L.length by omega) hr j]]
  have e3:Et G L i [] i=false:=by
   rw[<-Bool.not_eq_true,mH];rintro (⟨j,U,hc⟩|h)
   .exact hr j U hc
   .cases h
  rw[e3] at cD
  obtain⟨h8,e8,n8,g8,o8⟩:=xN h7 D ((rc L.length λj=> .bool (Et G L i [] j)).set i (.bool true))
  obtain⟨Z,hZ⟩:=exI h8.next
  obtain⟨h9,e9,n9,g9,o9,f9⟩:=iI hZ [aC i]
  have pt:=bE (vs:=rc L.length λj=> .bool (Et G L i [] j)) (off:=i) (by rw[dE];omega)
  clear bx gc sO sR rB rA i2 i4 c2 g1 o1 f1 f3 gB gN gM
  simp(disch:=omega)only[go_sem,d4,b9.ixa,cx h7 b0,cD,J.gD,pt,e8,dL h8 (z:= aC 0) (v:= aC i) rfl rfl,hZ,e9]
  have r2:h7.next=Z:=om
  have a8:(rc L.length λj=>V.bool (Et G L i [] j)).set i (.bool true)=rc L.length λj=> .bool (Et G L i [i] j):=by
   rw[iQ]
   exact bW λj _=>by
    rw[show [i]= []++ [i] from rfl,Zg]
    by_cases e:j=i
    .rw[aS e,aS e]
    .rw[aQ e,aQ e]
  have f7:Fx (· =D) h7 h9:=⟨om,λq d h2=>by rw[o9 q om,o8 q h2]⟩
  have B0:BQ G L S i [i] 0:=⟨siM,siM,rfl,λj U=>by
   obtain rfl:j=i:=by simpa using U
   exact⟨om,Da hG E om⟩,λk hk=>om⟩
  refine dG (λvs B=> ∃(Q:List Nat) (q:Nat) (o:qD),(∃g:Nat->V,vs=(g 0:: .ptr A 0:: .nilp:: aC 0::vL::g 5:: .ptr (X+8) 0::g 7::g 8::vS:: .sl D 0 m (.kn m):: aC i::vx:: .sl q 0 Q.length o::g 14::g 15::g 16::g 17::g 18::g 19::g 20::g 21::g 22::g 23::g 24::g 25::g 26::vL:: aC m:: aC i::g 30::g 31::g 32::g 33::g 34::g 35::g 36::g 37::g 38::g 39::g 40::g 41::g 42::g 43::g 44::g 45:: []))/\
    BQ G L S i Q Q.length/\(o= .un 1\/o= .kn Q.length)/\B.get q=some (.cells false (ints (zi Q)))/\Z<=q/\q<B.next/\B.get D=some (.cells false (rc L.length λj=> .bool (Et G L i Q j)))/\Fx (· =D) h7 B) ?_ ?_
  .refine aP (λk' vs B=> ∃(Q:List Nat) (q:Nat) (o:qD) (p:Nat),(∃g:Nat->V,vs=(g 0:: .ptr A 0:: .nilp:: aC 0::vL::g 5:: .ptr (X+8) 0::g 7::g 8::vS:: .sl D 0 m (.kn m):: aC i::vx:: .sl q 0 Q.length o:: aC p::g 15::g 16::g 17::g 18::g 19::g 20::g 21::g 22::g 23::g 24::g 25::g 26::vL:: aC m:: aC i::g 30::g 31::g 32::g 33::g 34::g 35::g 36::g 37::g 38::g 39::g 40::g 41::g 42::g 43::g 44::g 45:: []))/\
    p<=Q.length/\BQ G L S i Q p/\(o= .un 1\/o= .kn Q.length)/\B.get q=some (.cells false (ints (zi Q)))/\Z<=q/\q<B.next/\B.get D=some (.cells false (rc L.length λj=> .bool (Et G L i Q j)))/\Fx (· =D) h7 B/\k'=m-p) m
    ⟨[i],Z,_,0,aD rfl,fY _,B0,.inr rfl,g9,dN _,om,by rw[o9 _ om,g8,a8],f7,rfl⟩ ?_
   clear f7 B0 e8 n8 g8 o8 hZ e9 n9 g9 o9 f9 pt a8
   rintro k' K ha ⟨Q,q,o,p,⟨g2,rfl⟩,hp,l,F,gq,hq,nq,gD,Fa,rfl⟩
   have a5:=l.len
   by_cases c0:(p:Int)<(Q.length:Int)
   case neg=>
    have d5:=bZ c0;obtain rfl:p=Q.length:=om
    refine bM d5 ?_;exact⟨Q,q,o,aD rfl,l,F,gq,hq,nq,gD,Fa⟩
   have d5:=cV c0
   have N:p<Q.length:=om
   refine eZ d5 q4 ?_
   obtain⟨c,hc⟩:=exI (Q.getD p 0)
   obtain⟨i9,m9⟩:=l.mem c (by rw[<-hc];exact bF N)
   have Cp:=jZ hG E i9
   refine Bu (λvs B=> ∃(Q:List Nat) (q:Nat) (o:qD),(∃g:Nat->V,vs=(g 0:: .ptr A 0:: .nilp:: aC 0::vL::g 5:: .ptr (X+8) 0::g 7::g 8::vS:: .sl D 0 m (.kn m):: aC i::vx:: .sl q 0 Q.length o:: aC p::g 15::g 16::g 17::g 18::g 19::g 20::g 21::g 22::g 23::g 24::g 25::g 26::vL:: aC m:: aC i::g 30::g 31::g 32::g 33::g 34::g 35::g 36::g 37::g 38::g 39::g 40::g 41::g 42::g 43::g 44::g 45:: []))/\
     p<Q.length/\BQ G L S i Q (p+1)/\(o= .un 1\/o= .kn Q.length)/\B.get q=some (.cells false (ints (zi Q)))/\Z<=q/\q<B.next/\B.get D=some (.cells false (rc L.length λj=> .bool (Et G L i Q j)))/\Fx (· =D) h7 B) ?_ ?_
   .refine aP (λk' vs B=> ∃(Q:List Nat) (q:Nat) (o:qD) (t:Nat),(∃g:Nat->V,vs=(g 0:: .ptr A 0:: .nilp:: aC 0::vL::g 5:: .ptr (X+8) 0::g 7::g 8::vS:: .sl D 0 m (.kn m):: aC i::vx:: .sl q 0 Q.length o:: aC p::g 15::g 16::g 17::g 18::g 19::g 20::g 21::g 22::g 23::g 24::g 25::g 26::vL:: aC m:: aC i::g 30::g 31::g 32::vS:: aC sl:: aC t::g 36::g 37::g 38::g 39::g 40::g 41::g 42::g 43::g 44::g 45:: []))/\
     p<Q.length/\t<=sl/\BQ G L S i Q p/\Q.getD p 0=c/\(∀s∈S.take t,∃j∈Q,L.getD j []=bL (L.getD c []) s)/\(o= .un 1\/o= .kn Q.length)/\B.get q=some (.cells false (ints (zi Q)))/\Z<=q/\q<B.next/\B.get D=some (.cells false (rc L.length λj=> .bool (Et G L i Q j)))/\Fx (· =D) h7 B/\k'=sl-t) sl
     ⟨Q,q,o,0,aD rfl,N,fY _,l,hc,λs hs=>(by simp at hs),F,gq,hq,nq,gD,Fa,rfl⟩ ?_
    clear l F gq hq nq gD Fa hc N a5 c0 d5 hp
    clear Q q o
    rintro k' K hb ⟨Q,q,o,t,⟨g3,rfl⟩,N,ht,l,hc,g0,F,gq,hq,nq,gD,Fb,rfl⟩
    by_cases j1:(t:Int)<(sl:Int)
    case neg=>
     have d5:=bZ j1;obtain rfl:t=sl:=om
     refine bM d5 ?_;refine⟨Q,q,o,aD rfl,N,⟨l.nd,l.ne,l.hd,l.mem,λk hk s hs=>?_⟩,F,gq,hq,nq,gD,Fb⟩
     by_cases e:k=p
     .subst e
      rw[hc];exact g0 s (by rw[<-e7,List.take_length];exact hs)
     .exact l.cl k om s hs
    have d5:=cV j1
    have o7:t<sl:=om
    have a5:=l.len
    have nb:=Fb.next
    have d9:Fx (λq=>q=X+8\/D<=q) h5 hb:=⟨by have:=J.old.next;omega,λq d h2=>by rw[Fb.get q om (λe=>h2 (.inr (by have:q=D:=e;omega)))];exact J.old.get q d h2⟩
    have c1:Fr h2 hb:=⟨om,λq hq=>by rw[Fb.get q om (λe=>by have:q=D:=e;omega)];exact b0.get q hq⟩
    obtain⟨vy,cy,py⟩:=p3 t o7
    obtain⟨vz,cz,sz⟩:=f4 c om
    obtain⟨s,hs⟩:=exI (S.getD t [])
    rw[hs] at py
    have c6:s∈S:=by rw[<-hs];exact bF om
    have Sp:=hG.cF (a2 s c6)
    have cq:hb.cell q p=some (aC c):=by rw[H.cell_of gq,Ax N,hc]
    refine wE d5 @j0.ixa (cy hb d9) cq @b9.ixa (cz hb c1) ?_
    refine (IM sF.ok vy n s _ om Sp ((py.fx d9).si.mono ((Fr.refl hb).cU om))).mono ?_
    rintro m8 k1 i3
    have K1:Fr hb k1:=((Fr.refl hb).cU om).trans i3.fr
    have l6:k1.cell q p=some (aC c):=by rw[K1.cell nq];exact cq
    have ez:=sz.dS
    refine iG l6 (cz k1 (c1.trans K1)) ez ?_
    refine (yB m8 vz (bY s) (L.getD c []) k1 (by rw[iX,Sp.len];omega) (i3.pv (W:=λ_=>False) id).si (sz.mono (c1.trans K1)) (λj U=>by rw[Cp.len];exact Sp.inv.eJ (by rw[<-Sp.inv.len];exact U))).mono ?_
    rintro m2 k2 j6
    have K2:=K1.trans j6.fr
    have P2:=Sp.inv.mul Cp
    refine aT ?_
    refine (yB m2 vy _ s k2 (by rw[P2.len];omega) (j6.pv (W:=λ_=>False) id).si ((py.fx d9).si.mono K2) (λj U=>by rw[Sp.len];exact P2.eJ (by rw[<-P2.len];exact U))).mono ?_
    rintro m1 k3 j9
    have K3:=K2.trans j9.fr
    have P3:=P2.mul Sp
    have o3:k3.cell q p=some (aC c):=by rw[K3.cell nq];exact cq
    have d1:=(j9.pv (W:=λ_=>False) id).si
    have r6:=d1.cT.2.1
    have d6: ∃vK,k3.get (X+8)=some (.cells false [vL,.mp (X+3),vK,.sl (X+6) 0 L.length (.kn L.length)]):=by
     obtain⟨vK,_,_,gB,_⟩:=J.ex;exact⟨vK,by rw[K3.get _ om,Fb.get _ om (λe=>by have:X+8=D:=e;omega)];exact gB⟩
    obtain⟨vK,d6⟩:=d6
    have i6:k3.cell (X+8) 1=some (.mp (X+3)):=by rw[H.cell_of d6];rfl
    obtain⟨j,U,ej⟩: ∃j,j<L.length/\L.getD j []=bL (L.getD c []) s:=by
     have p6:bL (L.getD c []) s∈L:=(E.mem _).2 (hG.mul (hG.mul (hG.inv (a2 s c6)) (pX E i9)) (a2 s c6));obtain⟨j,U,ej⟩:=Bj.1 p6;exact⟨j,U,by rw[List.getD,dJ U,<-ej];rfl⟩
    have q0:aZ (aZ (bY s) (L.getD c [])) s=L.getD j []:=ej.symm
    rw[q0] at d1
    refine jX o3 (cz k3 (c1.trans K3)) i6 ez ?_
    refine (Tj m1 (L.getD j []) _ (a0 j om).1 (a0 j om).2 (d1.mono ((Fr.refl k3).cU om))).mono ?_
    rintro _ k4 ⟨rfl,l7⟩
    have k8:Fr k3 k4:=((Fr.refl k3).cU om).trans l7
    have K4:=K3.trans k8
    have r8:=K3.next
    have d0:k4.get (X+3)=some (.wmap .str (Vk L L.length)):=by
     rw[K4.get _ om,Fb.get _ om (λe=>by have:X+3=D:=e;omega),J.old.get _ om om,f5.get _ om,hm];exact b4
    have i1:k4.cell (X+8) 1=some (.mp (X+3)):=by rw[k8.cell om];exact i6
    have lk:=λz=>Wr E.nodup U (hK j om) z
    have c4:k4.cell D j=some (.bool (Et G L i Q j)):=by rw[K4.cell om];exact vD gD U
    have i5:cR G L i j:=pI hG E om m9 ⟨s,a2 s c6,ej.symm⟩
    have j3:S.take (t+1)=S.take t++ [s]:=by rw[iW [] om,hs]
    have l0:k4.get q=some (.cells false (ints (zi Q))):=by rw[K4.get _ nq];exact gq
    have i7:k4.get D=some (.cells false (rc L.length λj=> .bool (Et G L i Q j))):=by rw[K4.get _ om];exact gD
    have j2:Fx (· =D) h7 k4:=⟨by have:=K4.next;omega,λq d h2=>by rw[K4.get q om];exact Fb.get q d h2⟩
    cases hsn2:Et G L i Q j with
    |true=>
     rw[hsn2] at c4
     have d3:j∈Q:=by
      rcases mH.1 hsn2 with ⟨i0,d,b5⟩|d
      .exact absurd (pI hG E om b5 (Cg hG E om i5)) (hr i0 d)
      .exact d
     refine jX i1 d0 lk c4 ?_;rw[fJ t];refine⟨by simp [dS],sl-(t+1),om,Q,q,o,t+1,aD rfl,N,om,l,hc,?_,F,l0,hq,by have:=K4.next;omega,i7,j2,rfl⟩;rw[j3];intro s' a9;rcases Es.1 a9 with d|d
     .exact g0 s' d
     .obtain rfl:s'=s:=by simpa using d
      exact⟨j,d3,ej⟩
    |false=>
     rw[hsn2] at c4;have d3:j∉Q:=λd=>by rw[mH.2 (.inr d)] at hsn2;cases hsn2
     obtain⟨k5,e5,m5,g5,o5⟩:=xN k4 D ((rc L.length λj=> .bool (Et G L i Q j)).set j (.bool true));obtain⟨Y,hY⟩:=exI k5.next;obtain⟨k6,m3,m6,l9,d8,q7⟩:=iI hY [aC j];have pt:=bE (vs:=rc L.length λj=> .bool (Et G L i Q j)) (off:=j) (by rw[dE];exact U);have nk:=K4.next;have l8:k6.get q=some (.cells false (ints (zi Q))):=by rw[d8 _ om,o5 _ om];exact l0
     have o4:dF k6 (.sl q 0 Q.length o) 1 (ints (zi Q)) 0:= .inr ⟨q,Q.length,o, [],rfl,by rw[aE,bD];simp,by rcases F with d|d;exact .inl d;exact .inr ⟨d,rfl⟩,fY _,om,by rw[qH];exact l8⟩;obtain⟨k7,a7,p7⟩:=o4.push (bytes:=8) (SV.one (v:= aC j) (id:=Y) om l9 (.kn 1)) (n:=Q.length) (m:=1) (by rw[aE,bD];simp) rfl om om om;simp(disch:=omega)only[go_sem,i1,d0,lk,c4,i7,pt,e5,dL k5 (z:= aC 0) (v:= aC j) rfl rfl,hY,m3,a7];rw[fJ t];have el:ints (zi (Q++ [j]))=ints (zi Q)++ [aC j]:=by simp [zi,ints]
     have m7:=p7.next;have p4:cW (.sl q 0 Q.length o) D:=λid off n c e e2=>by cases e;omega
     have a8:(rc L.length λj'=>V.bool (Et G L i Q j')).set j (.bool true)=rc L.length λj'=> .bool (Et G L i (Q++ [j]) j'):=by
      rw[iQ]
      exact bW λj' _=>by
       rw[Zg]
       by_cases e:j'=j
       .rw[aS e,aS e]
       .rw[aQ e,aQ e]
     refine⟨by simp [dS],sl-(t+1),om,Q++ [j],k6.next,.un 1,t+1,by rw[eE];exact aD rfl,by rw[eE];omega,om,⟨?_,by rw[eE];simp,?_,?_,?_⟩,?_,?_,.inl rfl,by rw[el];exact p7.get,om,om,?_,?_,rfl⟩
     .rw[List.nodup_append]
      exact⟨l.nd,siM,λx hx y hy e=>by
       obtain rfl:y=j:=by simpa using hy
       exact d3 (e▸hx)⟩
     .rw[List.getD,Aw l.ne];exact l.hd
     .intro x hx
      rcases Es.1 hx with d|d
      .exact l.mem x d
      .obtain rfl:x=j:=by simpa using d
       exact⟨U,i5⟩
     .intro k hk s' a9
      obtain⟨y,hy,ey⟩:=l.cl k hk s' a9;refine⟨y,Es.2 (.inl hy),?_⟩;rw[ey,List.getD,List.getD,List.getD,List.getD,Aw om]
     .rw[List.getD,Aw N];exact hc
     .rw[j3]
      intro s' a9;rcases Es.1 a9 with d|d
      .obtain⟨y,hy,ey⟩:=g0 s' d
       exact⟨y,Es.2 (.inl hy),ey⟩
      .obtain rfl:s'=s:=by simpa using d
       exact⟨j,Es.2 (.inr siM),ej⟩
     .rw[p7.old D om p4,d8 D om,g5,a8]
     .refine⟨om,λx d h2=>?_⟩
      rw[p7.old x om (λid off n c e e2=>by cases e;omega),d8 x om,o5 x h2];exact j2.get x d h2
   clear l F gq hq nq gD Fa hc c0 d5 hp N a5
   clear Q q o
   rintro K hb ⟨Q,q,o,⟨g3,rfl⟩,N,a4,F,gq,hq,nq,gD,Fb⟩
   have a5:=a4.len
   refine aT ?_
   rw[fJ p]
   exact⟨m-(p+1),om,Q,q,o,p+1,aD rfl,om,a4,F,gq,hq,nq,gD,Fb,rfl⟩
  clear f7 B0 e8 n8 g8 o8 hZ e9 n9 g9 o9 f9 pt a8
  rintro K hb ⟨Q,q,o,⟨g3,rfl⟩,a4,F,gq,hq,nq,gD,Fb⟩
  have a5:=a4.len
  have nb:=Fb.next
  have Pn:=Tx hb q (zi Q) o (by rw[bD];omega) gq nq
  rw[bD] at Pn
  refine aT ?_
  refine Pn.mono ?_
  rintro _ ka ⟨l',gl,pl,al,Fa⟩
  obtain rfl:=a4.sort hG E (dN _) om a2 b7 pl al
  have l2:Q.length=(iK G L i).length:=by have:=pl.length_eq;rw[bD,bD] at this;exact this.symm
  have na:=Fa.next
  have p5:Fr h2 ka:=⟨om,λx hx=>by rw[Fa.get x om (λe=>by have:x=q:=e;omega),Fb.get x om (λe=>by have:x=D:=e;omega)];exact b0.get x hx⟩
  have X1:=jZ hG E (show i<L.length by omega)
  refine aT ?_
  refine (PI vx n (L.getD i []) ka n0 n7 (by obtain⟨M,m0,ml,hM⟩:=o0;have:=Nat.le_of_dvd m0 (hM _ (pX E (show i<L.length by omega)));omega) X1 (sx.mono p5)).mono ?_
  rintro _ kb ⟨rfl,fb⟩
  have q6:=fb.next
  obtain⟨vK,ks,WK,gB,b8,aK,bK,wD,wB,wN,wn,wX,_⟩:=J.ex
  have q8:=bH.length aK
  have h0:kb.get (X+8)=some (.cells false [vL,.mp (X+3),vK,.sl (X+6) 0 L.length (.kn L.length)]):=by
   rw[fb.get _ om,Fa.get _ om (λe=>by have:X+8=q:=e;omega),Fb.get _ om (λe=>by have:X+8=D:=e;omega)];exact gB
  have c8:kb.cell (X+8) 2=some vK:=by rw[H.cell_of h0];rfl
  have b2:=sx.cT.2.1
  have r7:=b8.sv.dS
  obtain⟨Y,hY⟩:=exI kb.next
  obtain⟨kc,ec,mc,p9,oc,fc⟩:=iI hY [vx,aC (fC (L.getD i []) n:Nat),aC (Q.length:Int),.sl q 0 Q.length o]
  have b3: ∀x,x<Z->x≠D->kc.get x=h7.get x:=λx d h2=>by
   rw[oc x om,fb.get x om,Fa.get x om (λe=>by have:x=q:=e;omega),Fb.get x om h2]
  have l3:dF kc vK 4 (Cls.nT ks) (D+1):=b8.mono om λid off n' c e d h2=>b3 id om om
  have lr:=tU (G:=G) (L:=L) i
  obtain⟨kd,ad,pd⟩:=l3.push (bytes:=64) (y:= .sl Y 0 1 (.kn 1)) (us:= [vx,aC (fC (L.getD i []) n:Nat),aC (Q.length:Int),.sl q 0 Q.length o]) (SV.all rfl om p9 _) (n:=ks.length) (m:=1) (Od ks) rfl om om om
  have md:=pd.next
  have n2:cW vK (X+8):=λid off n' c e e2=>by have:=(b8.in _ _ _ _ e).2.1;omega
  have p1:kd.get (X+8)=some (.cells false [vL,.mp (X+3),vK,.sl (X+6) 0 L.length (.kn L.length)]):=by
   rw[pd.old _ om n2,oc _ om];exact h0
  obtain⟨ke,ee,me,ge,oe⟩:=xN kd (X+8) [vL,.mp (X+3),.sl kc.next 0 (ks.length+1) (.un 4),.sl (X+6) 0 L.length (.kn L.length)]
  simp(disch:=omega)only[go_sem,c8,MN sx.cT.1 b2,JZ b2 (w:= .sl q 0 Q.length o) rfl rfl,NO b2 (w:= .sl q 0 Q.length o) rfl,hY,ec,ad,p1,JW,ee]
  rw[fJ i]
  have j7: ∀x,x<Z-> ¬WK x->ke.get x=h7.get x:=λx d h2=>by
   rw[oe x (λe=>h2 (e▸wB)),pd.old x om (λid off n' c e e2=>h2 (e2▸bK _ _ _ _ e)),b3 x d (λe=>h2 (e▸wD))]
  have FK:Fx WK h7 ke:=⟨om,λx d h2=>j7 x om h2⟩
  have p8:Fr h2 ke:=⟨om,λx hx=>by rw[j7 x om (λd=>by have:=wX x d;omega)];exact b0.get x hx⟩
  have g7:Cls.nT (ks++ [⟨vx,fC (L.getD i []) n,Q.length,.sl q 0 Q.length o,i,⟨sx.cT.1,b2,sx.dS⟩,⟨rfl,rfl,by simp [dS]⟩⟩])=Cls.nT ks++ [vx,aC (fC (L.getD i []) n:Nat),aC (Q.length:Int),.sl q 0 Q.length o]:=by
   simp [Cls.nT,Cls.KE.enc]
  refine⟨m-(i+1),om,i+1,aD rfl,om,⟨⟨_,ks++ [⟨vx,fC (L.getD i []) n,Q.length,.sl q 0 Q.length o,i,⟨sx.cT.1,b2,sx.dS⟩,⟨rfl,rfl,by simp [dS]⟩⟩],λx=>WK x\/x=kc.next,ge,?_,?_,λid off n' c e=>by cases e;exact .inr rfl,   .inl wD,.inl wB,.inl wN,λx h=>by rcases h with h|h;have:=wn x h;omega;omega,λx h=>by rcases h with h|h;exact wX x h;omega,.inr ⟨_,_,by rw[eE];rfl,?_⟩⟩,?_,?_,om⟩,rfl⟩
  .rw[g7]
   exact (pd.own (b:=D+1) (Od ks) rfl om).mono om λid off n' c e d h2=>by cases e;exact oe _ om
  .rw[(Ky i).1 hr]
   refine bH.append (aK.mono λa r k=>k.go FK om wX λx d h2=>by rcases h2 with h2|h2;exact h2;omega) ⟨⟨rfl,rfl,l2,⟨sx.mono p8,?_⟩,⟨?_,?_⟩⟩,trivial⟩
   .rw[<-hX];exact aiZ sx
   .rw[l2]
    refine SV.all (ro:=false) (by rw[aE,bD,jP]) om ?_ _
    rw[oe q om,pd.old q om (λid off n' c e e2=>by have:=wn _ (bK _ _ _ _ e);omega),oc q om,fb.get q om]
    exact gl
   .exact λh=>by rcases h with h|h;have:=wn _ h;omega;omega
  .rw[g7,oe _ om];exact pd.get
  .rw[oe D om,pd.old D om (λid off n' c e e2=>by have:=(b8.in _ _ _ _ e).2.1;omega),oc D om,fb.get D om,Fa.get D om (λe=>by have:D=q:=e;omega),gD,bW λj U=>by rw[XK hG E (show i<L.length by omega) a4 a2 b7 U]]
  .refine⟨by have:=J.old.next;omega,λx d h2=>?_⟩
   have m4:x≠X+8:=λe=>h2 (.inl e)
   have q9:x<D:=om
   rw[oe x m4,pd.old x om (λid off n' c e e2=>by have:=(b8.in _ _ _ _ e).2.1;omega),b3 x om om]
   exact J.old.get x d h2
 rintro K h7 ⟨⟨g,rfl⟩,J⟩
 exact hk L X D vL h2 h5 h7 A g hL ⟨E,om,f1.trans f2,hX,nw.sp,f0,om,hD,by rw[f5.get _ om,hm];exact b4,by rw[f5.get _ om,hm];exact i4,by rw[hm];exact J⟩
end
open Classical in
noncomputable def jJ (G:List Nat->Prop)(L:LN)(K:List Nat)(j:Nat):Nat:=K.findIdx λr=>decide (cR G L r j)
structure KR (n:Nat)(G:List Nat->Prop)(L:LN)(hh:H)(a:Cls.KE)(r:Nat):Prop where
 fst:a.fst=r
 ord:a.ord=fC (L.getD r []) n
 size:a.size=(iK G L r).length
 rep:SI hh a.rep (zi (L.getD r []))
 ranks:SI hh a.ranks (zi (iK G L r))
theorem KR.mono {n:Nat}{G:List Nat->Prop}{L:LN}{h h':H}{a:Cls.KE}{r:Nat}(k:KR n G L h a r)(f:Fr h h'):KR n G L h' a r:=⟨k.fst,k.ord,k.size,k.rep.mono f,k.ranks.mono f⟩
def IH (n:Nat)(G:List Nat->Prop)(L:LN)(r s:Nat):Prop:=fC (L.getD r []) n<fC (L.getD s []) n\/fC (L.getD r []) n=fC (L.getD s []) n/\((iK G L r).length<(iK G L s).length\/(iK G L r).length=(iK G L s).length/\r<s)
structure vU (n:Nat)(G:List Nat->Prop)(L:LN)(K:List Nat):Prop where
 perm:K.Perm (dR G L L.length)
 asc:K.Pairwise (IH n G L)
structure UH (n:Nat)(G:List Nat->Prop)(L:LN)(K:List Nat)(hh:H)(v:V):Prop where
 ex: ∃B M N S cp vL ks,v= .ptr B 0/\B<hh.next/\M<hh.next/\N<hh.next/\S<hh.next/\hh.get B=some (.cells false [vL,.mp M,.sl S 0 K.length cp,.sl N 0 L.length (.kn L.length)])/\
  hh.get M=some (.wmap .str (Vk L L.length))/\hh.get N=some (.cells false (rc L.length λj=> aC (jJ G L K j:Nat)))/\hh.get S=some (.cells false (Cls.nT ks))/\bH (KR n G L hh) ks K/\SP hh vL L
theorem UH.mono {n:Nat}{G:List Nat->Prop}{L:LN}{K:List Nat}{h h':H}{v:V}(g:UH n G L K h v)(f:Fr h h'):UH n G L K h' v:=by
 obtain⟨B,M,N,S,m,i,j,e,q,c,r,l,o,s,b,d,a,sp⟩:=g.ex;have t:=f.next;exact⟨B,M,N,S,m,i,j,e,om,om,om,om,by rw[f.get _ q];exact o,by rw[f.get _ c];exact s,by rw[f.get _ r];exact b,by rw[f.get _ l];exact d,a.mono λ_ _ k=>k.mono f,sp.mono f⟩
section
variable {n:Nat} {G:List Nat->Prop} {L:LN} {K:List Nat} (hG:oK n G) (E:fW G L)
include hG E
omit hG E in
theorem Ku (a:0<L.length):0∈dR G L L.length:=mL.2 ⟨a,λj b=>om⟩
theorem Ir (o:K.Perm (dR G L L.length)){k:Nat}(a:k<K.length){j:Nat}(t:j∈iK G L (K.getD k 0)):jJ G L K j=k:=by
 classical
 obtain⟨s,f⟩:=jM.1 t;have d:K.Nodup:=o.nodup_iff.2 (by unfold dR;exact List.Pairwise.filter _ List.nodup_range);have l: ∀r∈K,r<L.length/\HN G L r:=λr u=>mL.1 (o.mem_iff.1 u)
 unfold jJ;rw[List.findIdx_eq a];have q:K.getD k 0=K[k]:=Pm.cM a;rw[q] at f;refine⟨by simpa using f,λi hi=>?_⟩;simp only[decide_eq_false_iff_not];intro c;have m:=l K[i] (Hn _);have h:=l K[k] (Hn _);have:=PH hG E m.1 h.1 m.2 h.2 c f;have b:=Iz.1 d i k om a hi;exact b this
theorem Fy (i:K.Perm (dR G L L.length)){j:Nat}(b:j<L.length): ∃k,k<K.length/\j∈iK G L (K.getD k 0):=by
 obtain⟨r,l,d,h⟩:=agJ hG E b;have f:r∈K:=i.mem_iff.2 (mL.2 ⟨om,d⟩);obtain⟨k,a,c⟩:=Bj.1 f;exact⟨k,a,jM.2 ⟨b,by rw[Pm.cM a,c];exact h⟩⟩
end
open Classical in
noncomputable def Nn (G:List Nat->Prop)(L:LN)(K:List Nat)(k t j:Nat):Nat:=if (∃k0,k0<k/\j∈iK G L (K.getD k0 0))\/j∈(iK G L (K.getD k 0)).take t then jJ G L K j else 0
theorem RS (G:List Nat->Prop)(L:LN)(K:List Nat)(j:Nat):Nn G L K 0 0 j=0:=by
 classical
 unfold Nn;rw[aQ];rintro (⟨a,h,_⟩|h)
 .omega
 .simp at h
theorem SQ (G:List Nat->Prop)(L:LN)(K:List Nat)(k j:Nat):Nn G L K k (iK G L (K.getD k 0)).length j=Nn G L K (k+1) 0 j:=by
 classical
 unfold Nn;rw[List.take_length,List.take_zero]
 have e:((∃a,a<k/\j∈iK G L (K.getD a 0))\/j∈iK G L (K.getD k 0))↔((∃a,a<k+1/\j∈iK G L (K.getD a 0))\/j∈([]:List Nat)):=by
  constructor
  .rintro (⟨a,c,b⟩|h)
   .exact .inl ⟨a,om,b⟩
   .exact .inl ⟨k,om,h⟩
  .rintro (⟨a,c,b⟩|h)
   .by_cases e:a=k
    .subst e;exact .inr b
    .exact .inl ⟨a,om,b⟩
   .cases h
 by_cases h:((∃a,a<k/\j∈iK G L (K.getD a 0))\/j∈iK G L (K.getD k 0))
 .rw[aS h,aS (e.1 h)]
 .rw[aQ h,aQ (λx=>h (e.2 x))]
theorem QH {n:Nat}{G:List Nat->Prop}{L:LN}{K:List Nat}(hG:oK n G)(E:fW G L)(d:K.Perm (dR G L L.length)){k:Nat}(b:k<K.length){t:Nat}(a:t<(iK G L (K.getD k 0)).length)(j:Nat):
  Nn G L K k (t+1) j=if j=(iK G L (K.getD k 0)).getD t 0 then k else Nn G L K k t j:=by
 classical
 by_cases e:j=(iK G L (K.getD k 0)).getD t 0
 .rw[aS e]
  have c:j∈iK G L (K.getD k 0):=by rw[e];exact bF a
  unfold Nn
  rw[aS (.inr (by rw[iW 0 a,e];simp))]
  exact Ir hG E d b c
 .rw[aQ e]
  unfold Nn
  rw[iW 0 a]
  simp only[Es,List.mem_singleton,e,or_false]
theorem TC {n:Nat}{G:List Nat->Prop}{L:LN}{K:List Nat}(hG:oK n G)(E:fW G L)(d:K.Perm (dR G L L.length)){j:Nat}(a:j<L.length):Nn G L K K.length 0 j=jJ G L K j:=by
 classical
 obtain⟨k,c,b⟩:=Fy hG E d a;unfold Nn;rw[aS (.inl ⟨k,c,b⟩)]
theorem tQ {h:H}{S:Nat}{ro:Bool}:{ks:List Cls.KE}->{pre:List V}->h.get S=some (.cells ro (pre++Cls.nT ks))-> ∀{i:Nat} (hi:i<ks.length),h.row S (pre.length+i*4) 4=some ks[i].enc
 | [],_,_,_,hi=>by simp at hi
 |a::r,pre,g,0,_=>by
  unfold H.row;rw[g];show sub (pre++(a.enc++Cls.nT r)) (pre.length+0*4) 4=some a.enc;simp only[sub,Nat.zero_mul,Nat.add_zero];have:a.enc.length=4:=rfl;rw[aS (by rw[eE,eE];omega),List.drop_left,List.take_append,Nb om,this];simp
 |a::r,pre,g,i+1,hi=>by
  have b:h.get S=some (.cells ro ((pre++a.enc)++Cls.nT r)):=by rw[g,AA];rfl
  have:=tQ b (i:=i) (by simpa using hi);rw[eE,show a.enc.length=4 from rfl] at this;rw[show pre.length+(i+1)*4=pre.length+4+i*4 by omega];simpa using this
theorem Ru (h:H)(id off:Nat)(a:Cls.KE):HO h 4 (.ptr id off) (.agg a.enc)=dY (h.get id) h id off a.enc:=yX h id off 4 _ rfl (by simp [Cls.KE.enc,a.hrep.2.1,a.hranks.2.1,show (aC (a.ord:Int)).one=true from rfl,show (aC (a.size:Int)).one=true from rfl])
theorem Tq (b:H)(id:Nat)(a:Cls.KE)(x y z w:V):dY (some (.cells false [x,y,z,w])) b id 0 a.enc=some (b.set id (some (.cells false a.enc))):=by
 simp [dY,putAt,Cls.KE.enc]
theorem bH.ex {α β:Type}{R:α->β->Prop}{d:List α}{c:List β}(h:bH R d c){a:α}(f:a∈d): ∃b∈c,R a b:=by
 obtain⟨i,hi,rfl⟩:=Bj.1 f;have j:=bH.length h;exact⟨c[i]'om,Hn _,bH.get h i hi om⟩
theorem SI.lit {h:H}{v:V}{l:List Int}(s:SI h v l)(t:0<l.length): ∃id off m cap,v= .sl id off (m+1) cap/\m+1=l.length/\id<h.next/\ ∀i,i<l.length->h.cell id (off+i)=some (aC (l.getD i 0)):=by
 obtain⟨id,off,k,q,r⟩:=s.open;rcases s with ⟨_,f⟩|⟨b,a,len,cap,u,w,e,d,j,_⟩
 .have:l.length=0:=by rw[<-aE,f];rfl
  omega
 .rw[aE,jP] at d
  have c:=k.ixa .i64 0 om om;subst e;rw[lJ om om] at c;simp only[Option.some.injEq,V.ptr.injEq] at c;obtain⟨rfl,x⟩:=c;have o:a=off:=om
  subst o;exact⟨b,a,l.length- 1,cap,by rw[show l.length- 1+1=len by omega],om,j,r⟩
theorem GM {W0:Nat->Prop}(vc:V)(n:Nat)(O:LN)(R:nZ)(G:List Nat->Prop)(h:H)(gc:GC W0 h vc n O R G)(b4:(dR G (cK O R n 0 (bI n)) (cK O R n 0 (bI n)).length).length<60000):
  Ev T 42 [vc] h (λv h'=> ∃p K,v= .tup [p,aC 0]/\UH n G (cK O R n 0 (bI n)) K h' p/\vU n G (cK O R n 0 (bI n)) K/\Fr h h'):=by
 refine ZH vc n O R G h gc _ λL X D vL s h5 N A g hL e=>?_
 rw[hL]
 have hG:=gc.kT
 have E:=e.el
 obtain⟨vK,J,WK,gB,e6,aK,bK,wD,wB,wN,wn,wX,xK⟩:=e.j.ex
 have a0:=bH.length aK
 obtain⟨m,hm⟩:=exI L.length
 have h0:0<L.length:=PC ((E.mem _).2 hG.one)
 have d3:0<J.length:=by rw[a0];exact PC (Ku h0)
 obtain⟨S,cp,rfl,gS⟩: ∃id a4,vK= .sl id 0 J.length a4/\N.get id=some (.cells false (Cls.nT J)):=by
  rcases xK with l|l
  .subst l;simp at d3
  .exact l
 have wS:=bK _ _ _ _ rfl
 have nS:=wn _ wS
 have e9:N.cell (X+8) 2=some (.sl S 0 J.length cp):=by rw[H.cell_of gB];rfl
 show Wp T none (Rl 2 kZ.fn.body) _ N _
 simp(disch:=omega)only[go_sem,Rl,SK,kZ,e9]
 have hR: ∀r∈dR G L L.length,r<L.length/\HN G L r:=λr P=>mL.1 P
 have d1: ∀a∈J,a.Pp N N.next S:=λa Z=>by
  obtain⟨r,P,k⟩:=bH.ex aK Z;obtain⟨a3,a2⟩:=hR r P;obtain⟨l1,l2⟩:=Oa hG E a3 a2;obtain⟨id,off,m',a4,e1,e2,e3,e4⟩:=SI.lit k.ranks.si (by rw[bD];exact l1);have ho:=k.ranks.off;rw[e1] at ho;refine⟨id,off,m',a4,e1,e3,λl=>ho (l▸wS),?_⟩;have:=e4 0 (by rw[bD];exact l1);rw[Nat.add_zero] at this;rw[this,zi,mZ _ (d:=0) l1,l2,k.fst]
 refine (Cls.PX N S N.next J cp (by rw[a0];rw[hL] at b4;exact b4) gS nS (dN _) d1).mono ?_
 rintro _ y ⟨o,b2,pm,Pn,F8⟩
 obtain⟨K,hK⟩:=exI (o.map (λa:Cls.KE=>a.fst))
 have W:K.length=J.length:=by rw[<-hK,dO];exact pm.length_eq
 have c2:J.map (λa:Cls.KE=>a.fst)=dR G L L.length:=by
  refine List.ext_getElem (by rw[dO];exact a0) λi l s=>?_
  rw[List.getElem_map];exact (bH.get aK i (by simpa using l) s).fst
 have pK:K.Perm (dR G L L.length):=by rw[<-hK,<-c2];exact pm.map _
 have kK: ∀a∈o,KO n G L X WK N a a.fst:=λa Z=>by
  obtain⟨r,P,k⟩:=bH.ex aK (pm.mem_iff.1 Z);rw[k.fst];exact k
 have FK:Fx WK N y:=⟨F8.next,λq l s=>F8.get q l λh3=>s (by have:q=S:=h3;rw[this];exact wS)⟩
 have d6: ∀a∈o,KO n G L X WK y a a.fst:=λa Z=>(kK a Z).go FK (by have:=wX S wS;omega) wX λ_ _ l=>l
 have f1:=(e6.in _ _ _ _ rfl).2.1
 have xD:=e.xD
 have n8:=F8.next
 have U:y.get (X+8)=some (.cells false [vL,.mp (X+3),.sl S 0 J.length cp,.sl (X+6) 0 L.length (.kn L.length)]):=by
  rw[F8.get _ (wn _ wB) (λl=>by have:X+8=S:=l;omega)];exact gB
 have b6:y.cell (X+8) 2=some (.sl S 0 J.length cp):=by rw[H.cell_of U];rfl
 have e8:N.get (X+6)=some (.cells false (rc L.length λ_=> aC 0)):=by
  rw[e.j.old.get _ (by rw[e.n5];omega) om];exact e.gN
 have c3:y.get (X+6)=some (.cells false (rc L.length λj=> aC (Nn G L K 0 0 j:Nat))):=by
  rw[F8.get _ (wn _ wN) (λl=>by have:X+6=S:=l;omega),e8,show (λj=>aC (Nn G L K 0 0 j:Nat))=λ_=>aC 0 from funext λj=>by rw[RS];rfl]
 have b9: ∀k,k<K.length-> ∃a,o[k]? =some a/\KO n G L X WK y a (K.getD k 0):=λk hk=>by
  have w:k<o.length:=by rw[pm.length_eq,<-W];exact hk
  refine⟨o[k],dJ w,?_⟩;have:=d6 _ (Hn w);have e2:K.getD k 0=(o[k]).fst:=by rw[Pm.cM hk];subst hK;rw[List.getElem_map]
  rw[e2];exact this
 have le:=e.le
 have f0:K.length<=L.length:=by rw[W,a0];exact tU _
 have nN:=wn _ wN
 rw[<-W] at b6 U
 refine bM b6 ?_
 refine dG (λvs u=>(∃g:Nat->V,vs=(g 0::g 1:: .nilp:: aC 0::g 4::g 5:: .ptr (X+8) 0::g 7::g 8::g 9::g 10::g 11::g 12::g 13::g 14::g 15::g 16::g 17::g 18::g 19::g 20::g 21::g 22::g 23::g 24::g 25::g 26::g 27::g 28::g 29::g 30::g 31::g 32::g 33::g 34::g 35::g 36::g 37::g 38::g 39::g 40::g 41::g 42::g 43::g 44::g 45:: []))/\u.get (X+6)=some (.cells false (rc L.length λj=> aC (Nn G L K K.length 0 j:Nat)))/\Fx (· =X+6) y u) ?_ ?_
 .refine aP (λk' vs u=> ∃(k:Nat),(∃g:Nat->V,vs=(g 0::g 1:: .nilp:: aC 0::g 4::g 5:: .ptr (X+8) 0::g 7::g 8::g 9::g 10::g 11::g 12::g 13::g 14::g 15::g 16::g 17::g 18::g 19::g 20::g 21::g 22::g 23::g 24::g 25::g 26::g 27::g 28::g 29::g 30::g 31::g 32::g 33::g 34::g 35::g 36::g 37:: .sl S 0 K.length cp:: aC (K.length:Int):: aC k::g 41::g 42::g 43::g 44::g 45:: []))/\k<=K.length/\u.get (X+6)=some (.cells false (rc L.length λj=> aC (Nn G L K k 0 j:Nat)))/\Fx (· =X+6) y u/\k'=K.length-k) K.length
   ⟨0,aD rfl,fY _,c3,Fx.refl _ _,rfl⟩ ?_
  rintro k' B h9 ⟨k,⟨g,rfl⟩,hk,F,z,rfl⟩
  have n9:=z.next
  by_cases a9:(k:Int)<(K.length:Int)
  case neg=>
   have d4:=bZ a9;obtain rfl:k=K.length:=om
   refine bM d4 ?_;exact⟨aD rfl,F,z⟩
  have d4:=cV a9
  have w:k<K.length:=om
  obtain⟨a,ea,ko⟩:=b9 k w
  have b7:k<o.length:=by rw[pm.length_eq,<-W];exact w
  have a5:o[k]=a:=by rw[dJ b7] at ea;simpa using ea
  have c4:h9.get S=some (.cells false (Cls.nT o)):=by rw[z.get _ om (λl=>by have:S=X+6:=l;omega)];exact b2
  have b1:h9.row S (k*4) 4=some a.enc:=by
   have:=tQ (pre:= []) (by simpa using c4) b7;rw[a5] at this;simpa using this
  obtain⟨Y,hY⟩:=exI h9.next
  obtain⟨Z,a7,na,ga,oa,fa⟩:=iI hY [.aH,aC 0,aC 0,.aH]
  obtain⟨hb,b5,nb,gb,ob⟩:=xN Z Y a.enc
  have c1:hb.cell Y 3=some a.ranks:=by rw[H.cell_of gb];rfl
  have lr:=ko.ranks.si.lens
  rw[bD] at lr
  obtain⟨r,P⟩:=exI (K.getD k 0)
  rw[P] at ko lr
  simp(disch:=omega)only[go_sem,d4,b1,hY,a7,Ru,ga,Tq,b5,c1,lr]
  have c6:r∈dR G L L.length:=by rw[<-P];exact pK.mem_iff.1 (bF w)
  obtain⟨a3,a2⟩:=hR r c6
  obtain⟨l1,l2⟩:=Oa hG E a3 a2
  obtain⟨Q,a1,mR,a6,e1,e2,e3,e4⟩:=SI.lit ko.ranks.si (by rw[bD];exact l1)
  have ho:=ko.ranks.off
  rw[e1] at ho
  have d8:Q≠X+6:=λl=>ho (l▸wN)
  obtain⟨c,hc⟩:=exI ((iK G L r).length)
  rw[bD,hc] at e2 e4
  have f3:c<=L.length:=by
   rw[<-hc];have:=List.Nodup.length_le_of_subset (Aj (G:=G) (L:=L) r) (l₂:=List.range L.length) λj hj=>mS.2 (jM.1 hj).1
   rwa [gT] at this
  rw[hc,e1]
  have Fb:Fx (· =X+6) y hb:=⟨om,λq l s=>by rw[ob q om,oa q om];exact z.get q l s⟩
  have b3:hb.get (X+6)=some (.cells false (rc L.length λj=> aC (Nn G L K k 0 j:Nat))):=by rw[ob _ om,oa _ om];exact F
  have c5: ∀u,Fx (· =X+6) y u->u.cell (X+8) 3=some (.sl (X+6) 0 L.length (.kn L.length)):=λu f=>by
   have:u.get (X+8)=y.get (X+8):=f.get _ (by have:=wn _ wB;omega) om;rw[H.cell_of (this.trans U)];rfl
  refine Bu (λvs u=>(∃g:Nat->V,vs=(g 0::g 1:: .nilp:: aC 0::g 4::g 5:: .ptr (X+8) 0::g 7::g 8::g 9::g 10::g 11::g 12::g 13::g 14::g 15::g 16::g 17::g 18::g 19::g 20::g 21::g 22::g 23::g 24::g 25::g 26::g 27::g 28::g 29::g 30::g 31::g 32::g 33::g 34::g 35::g 36::g 37:: .sl S 0 K.length cp:: aC (K.length:Int):: aC k::g 41::g 42::g 43::g 44::g 45:: []))/\u.get (X+6)=some (.cells false (rc L.length λj=> aC (Nn G L K (k+1) 0 j:Nat)))/\Fx (· =X+6) y u) ?_ ?_
  .refine aP (λk' vs u=> ∃(t:Nat),(∃g:Nat->V,vs=(g 0::g 1:: .nilp:: aC 0::g 4::g 5:: .ptr (X+8) 0::g 7::g 8::g 9::g 10::g 11::g 12::g 13::g 14::g 15::g 16::g 17::g 18:: aC k::g 20::g 21::g 22::g 23::g 24::g 25::g 26::g 27::g 28::g 29::g 30::g 31::g 32::g 33::g 34::g 35::g 36::g 37:: .sl S 0 K.length cp:: aC (K.length:Int):: aC k::g 41:: .sl Q a1 (mR+1) a6:: aC c:: aC t::g 45:: []))/\t<=c/\u.get (X+6)=some (.cells false (rc L.length λj=> aC (Nn G L K k t j:Nat)))/\Fx (· =X+6) y u/\k'=c-t) c
    ⟨0,aD rfl,fY _,b3,Fb,rfl⟩ ?_
   clear b3 Fb gb ob c1 nb b5 ga oa fa na a7 b1 F z n9
   rintro k' B b0 ⟨t,⟨g2,rfl⟩,ht,c0,Fc,rfl⟩
   by_cases b8:(t:Int)<(c:Int)
   case neg=>
    have d5:=bZ b8;obtain rfl:t=c:=om
    refine bM d5 ?_;refine⟨aD rfl,?_,Fc⟩;rw[c0,show (λj=>aC (Nn G L K k t j:Nat))=λj=>aC (Nn G L K (k+1) 0 j:Nat) from funext λj=>by rw[<-SQ,P,hc]]
   have d5:=cV b8
   have c7:t<c:=om
   obtain⟨x,hx⟩:=exI ((iK G L r).getD t 0)
   have d0:x<L.length:=by rw[<-hx];exact (jM.1 (bF om)).1
   have d9:b0.cell Q (a1+t)=some (aC x):=by
    have e5:=e4 t c7;unfold H.cell at e5 |-;rw[Fc.get Q e3 d8,e5,zi,mZ _ (d:=0) om,hx]
   have pt:=bE (vs:=rc L.length λj=> aC (Nn G L K k t j:Nat)) (off:=x) (by rw[dE];exact d0)
   have tl:(t:Int).toNat=t:=rfl
   refine nW d5 d9 (c5 b0 Fc) c0 pt ?_
   rw[fJ t]
   refine⟨c-(t+1),om,t+1,aD rfl,om,?_,⟨Fc.next,λq l s=>by rw[H.Cj _ s];exact Fc.get q l s⟩,rfl⟩
   rw[iQ,bW λj hj=>?_]
   rw[QH hG E pK w (by rw[P];omega),P,hx]
   by_cases ej:j=x
   .rw[aS ej,aS ej]
   .rw[aQ ej,aQ ej]
  rintro B hd ⟨⟨g2,rfl⟩,c9,Fd⟩
  refine aT ?_
  rw[fJ k]
  exact⟨K.length-(k+1),om,k+1,aD rfl,om,c9,Fd,rfl⟩
 rintro B h9 ⟨⟨g,rfl⟩,F,z⟩
 have n9:=z.next
 refine aT ?_
 have n2:=e.x2
 have o9: ∀q,q<D->q≠X+8->q≠X+6->h9.get q=h5.get q:=λq l s h3=>by
  rw[z.get q (by have:=e.j.nx;omega) h3,F8.get q (by have:=e.j.nx;omega) (λh4=>by have:q=S:=h4;omega),e.j.old.get q (by rw[e.n5];exact l) (λh4=>by rcases h4 with h4|h4;exact s h4;omega)]
 have nx:=e.j.nx
 have a8:Fr s h9:=⟨om,λq hq=>by rw[o9 q om om om];exact e.f25.get q hq⟩
 have d7:Fx WK y h9:=⟨z.next,λq l s=>z.get q l λh3=>s (by have:q=X+6:=h3;rw[this];exact wN)⟩
 have e7:K.Nodup:=pK.nodup_iff.2 (by classical exact (by unfold dR;exact List.Pairwise.filter _ List.nodup_range))
 have c8:o.length=K.length:=by rw[<-hK,dO]
 refine⟨.ptr (X+8) 0,K,rfl,⟨X+8,X+3,X+6,S,cp,vL,o,rfl,om,om,om,om,?_,?_,?_,?_,?_,e.sp.mono a8⟩,⟨pK,?_⟩,e.f2.trans a8⟩
 .rw[z.get _ om om];exact U
 .rw[o9 _ om om om];exact e.gM
 .rw[F,bW λj hj=>by rw[TC hG E pK hj]]
 .rw[z.get _ om om];exact b2
 .refine bH.jF c8 λi l s=>?_
  obtain⟨a,ea,ko⟩:=b9 i s
  have a5:o[i]=a:=by rw[dJ l] at ea;simpa using ea
  have k9:=ko.go d7 om wX λ_ _ l=>l
  rw[Pm.cM s] at k9
  rw[a5]
  exact⟨k9.fst,k9.ord,k9.size,k9.rep.si,k9.ranks.si⟩
 .have l:o.Pairwise λa b=>a.fst≠b.fst:=by
   have:=e7;rw[<-hK] at this;exact List.pairwise_map.1 this
  rw[<-hK,List.pairwise_map];refine List.Pairwise.imp_of_mem ?_ (List.Pairwise.and Pn l);rintro a b Z hb ⟨s,h3⟩;have ka:=kK a Z;have kb:=kK b hb;have h4: ¬(b.lt a=true):=by rw[s];simp
  rw[Cls.KE.lt_iff] at h4;unfold IH;rw[<-ka.ord,<-kb.ord,<-ka.size,<-kb.size];omega
theorem LH {n:Nat}{G:List Nat->Prop}{L:LN}{r s:Nat}(a:IH n G L r s)(b:IH n G L s r):False:=by
 unfold IH at a b;omega
theorem vU.uniq {n:Nat}{G:List Nat->Prop}{L:LN}{K c:List Nat}(a:vU n G L K)(b:vU n G L c):K=c:=
 (a.perm.trans b.perm.symm).eq_of_pairwise (λ_ _ _ _ d f=>(LH d f).elim) a.asc b.asc
noncomputable def xI (G:List Nat->Prop)(L:LN)(K:List Nat):List Nat:=(List.range L.length).map (jJ G L K)
theorem acB (G:List Nat->Prop)(L:LN)(K:List Nat):(rc L.length λj=>aC (jJ G L K j:Nat))=ints (zi (xI G L K)):=by
 refine Dg (by rw[aE,bD];simp [xI]) λi hi=>?_
 rw[Ax (by simpa [xI] using hi)];have:(xI G L K).getD i 0=jJ G L K i:=by simp [xI,hi]
 rw[this]
theorem akB {r:Nat->Prop}(q:V)(n:Nat)(O:LN)(R:nZ)(G:List Nat->Prop)(h:H)(o:GC r h q n O R G)(L:LN)(l:cK O R n 0 (bI n)=L)(f:(dR G L L.length).length<60000):
  Ev T 85 [q] h (λv h'=> ∃vl K,v= .tup [vl,aC 0]/\vU n G L K/\SI h' vl (zi (xI G L K))/\Fr h h'):=by
 obtain⟨d,i,e,x,z⟩:=o.ch
 subst e
 have b:d.one=true:=NB x
 have c:i.one=true:=KY z
 obtain⟨A,k⟩:=exI h.next
 obtain⟨y,e1,n1,P,o1,j⟩:=iI k [aC n,d,i]
 have s:=dH h (v:= aC n) (u:=d) (w:=i) rfl b c
 have Y:=bU P
 refine Nk s k e1 Y ?_
 refine (GM _ n O R G y (o.mono j) (by rw[l];exact f)).mono ?_
 rw[l]
 rintro _ t ⟨p,K,rfl,go,J,W⟩
 obtain⟨B,M,N,S,cp,vL,ks,rfl,hB,hM,U,hS,F,gM,m,gS,a,sp⟩:=go.ex
 have Q:t.cell B 3=some (.sl N 0 L.length (.kn L.length)):=by rw[H.cell_of F];rfl
 refine aT ?_
 refine bV (λZ=>(Z rfl).elim) (λ_=>?_)
 refine bM Q ?_
 rw[acB] at m
 exact⟨_,K,rfl,J,SV.all (by rw[aE,bD];simp [xI]) U m _,j.trans W⟩
def pH (ks:List Cls.KE):List V:=ks.flatMap λa=> [a.rep,aC (a.ord:Int),aC (a.size:Int)]
theorem zJ (ks:List Cls.KE):(pH ks).length=ks.length*3:=by
 induction ks with
 |nil=>rfl
 |cons a r ih=>
  show ([a.rep,aC (a.ord:Int),aC (a.size:Int)]++pH r).length=_;rw[eE,ih];show 3+r.length*3=(r.length+1)*3;omega
theorem abV {h:H}{Y:Nat}{ro:Bool}{a:Cls.KE}(g:h.get Y=some (.cells ro a.enc)):h.row Y 0 3=some [a.rep,aC (a.ord:Int),aC (a.size:Int)]:=by
 simp [H.row,g,sub,Cls.KE.enc]
theorem Oj {v:V}(a:v.one=true)(x y:Int)(h:H):lU h 3 [.aH,aC 0,aC 0] 1 [(0,3,.agg [v,aC x,aC y])]=some (.sl h.next 0 1 (.kn 1),h.new (.cells false [v,aC x,aC y])):=by
 have e:cJ [V.aH,aC 0,aC 0] 3= [V.aH,aC 0,aC 0]:=rfl;simp [lU,fP,putAt,e,a,show ∀l,(V.agg l).cells=l from λ_=>rfl,show ∀z,(aC z).one=true from λ_=>rfl]
theorem abE (l:V)(d:Int)(O:List (List Int))(R:List (List (List Int)))(h:H)(c:ChI h l d O R)(o:d<=20\/64<d)(s:Li O)(sr:Ul R)(k:To d O R≠0):
  Ev T 39 [l] h (λv h'=>v= .tup [.aH,aC (To d O R)]/\Fr h h'):=by
 have f:=c
 have⟨i,j,e,t,A⟩:=c
 subst e
 have a:i.one=true:=NB t
 have b:j.one=true:=KY A
 obtain⟨B,n⟩:=exI h.next
 obtain⟨z,e1,G,r,J,m⟩:=iI n [aC d,i,j]
 have q:=dH h (v:= aC d) (u:=i) (w:=j) rfl a b
 have y:=bU r
 refine Nk q n e1 y ?_
 refine (amC _ d O R z (f.mono m) o s sr k).mono ?_
 rintro _ F ⟨rfl,x⟩
 refine aT ?_
 refine bV (λ_=>?_) (λc=>(c k).elim)
 refine aT ?_
 exact m.trans x
theorem Kq {W0:Nat->Prop}(vc:V)(n:Nat)(O:LN)(R:nZ)(G:List Nat->Prop)(h:H)(i:GC W0 h vc n O R G)(L:LN)(hL:cK O R n 0 (bI n)=L)(a0:(dR G L L.length).length<60000):
  Ev T 39 [vc] h (λv h'=> ∃vl K ks,v= .tup [vl,aC 0]/\vU n G L K/\SV h' vl 3 (pH ks)/\bH (KR n G L h') ks K/\Fr h h'):=by
 obtain⟨vO,vR,e,sO,sR⟩:=i.ch
 subst e
 have j:vO.one=true:=NB sO
 have z:vR.one=true:=KY sR
 obtain⟨A,hA⟩:=exI h.next
 obtain⟨h1,e1,n1,g1,o1,f1⟩:=iI hA [aC n,vO,vR]
 have bx:=dH h (v:= aC n) (u:=vO) (w:=vR) rfl j z
 have rB:=bU g1
 refine Nk bx hA e1 rB ?_
 refine (GM _ n O R G h1 (i.mono f1) (by rw[hL];exact a0)).mono ?_
 rw[hL]
 rintro _ d ⟨p,K,rfl,go,ik,f2⟩
 obtain⟨B,M,N,S,cp,vL,ks,rfl,hB,hM,hN,hS,gB,gM,gN,gS,aK,sp⟩:=go.ex
 have c2:d.cell B 2=some (.sl S 0 K.length cp):=by rw[H.cell_of gB];rfl
 have a8:=bH.length aK
 have a6:K.length<=5040:=by
  have h1:=ik.perm.length_eq;have d:=tU (G:=G) (L:=L) L.length;have h3:=kF i;have h4:=(dV i.kT i.isc).2;rw[hL] at h4;omega
 refine aT ?_
 refine bV (λhc=>(hc rfl).elim) (λ_=>?_)
 refine bM c2 ?_
 refine dG (λW t=> ∃b,(∃g:Nat->V,W= [g 0,g 1,g 2,g 3,g 4,g 5,b,g 7,g 8,g 9,g 10,g 11,g 12])/\SV t b 3 (pH ks)/\Fr d t) ?_ ?_
 .refine aP (λk' W t=> ∃(k:Nat) (b:V),(∃g:Nat->V,W= [g 0,g 1,g 2,g 3,.ptr B 0,g 5,b,g 7,g 8,.sl S 0 K.length cp,aC (K.length:Int),aC k,g 12])/\k<=K.length/\dF t b 3 (pH (ks.take k)) d.next/\Fr d t/\k'=K.length-k) K.length
   ⟨0,.aH,aD rfl,fY _,dF.aH _ _ _,Fr.refl _,rfl⟩ ?_
  rintro k' r F ⟨k,b,⟨g,rfl⟩,hk,J,f,rfl⟩
  by_cases l:(k:Int)<(K.length:Int)
  case neg=>
   have d4:=bZ l;obtain rfl:k=K.length:=om
   refine bM d4 ?_;rw[Nb om] at J;exact⟨b,aD rfl,J.sv,f⟩
  have d4:=cV l
  have a7:k<K.length:=om
  have o:k<ks.length:=om
  obtain⟨a,ea⟩:=exI (ks[k])
  have Q:F.get S=cE (Cls.nT ks):=by rw[f.get _ hS];exact gS
  have a5:F.row S (k*4) 4=some a.enc:=by
   have:=tQ (pre:= []) (by simpa using Q) o;rw[ea] at this;simpa using this
  obtain⟨Y,hY⟩:=exI F.next
  obtain⟨ha,a3,na,ga,oa,fa⟩:=iI hY [.aH,aC 0,aC 0,.aH]
  obtain⟨hb,a1,nb,gb,ob⟩:=xN ha Y a.enc
  obtain⟨Z,hZ⟩:=exI hb.next
  obtain⟨s,U,nc,P,oc,fc⟩:=iI hZ [a.rep,aC (a.ord:Int),aC (a.size:Int)]
  have x:Fr F s:=⟨om,λq hq=>by rw[oc q om,ob q om,oa q om]⟩
  have a2:dF s b 3 (pH (ks.take k)) d.next:=J.fr x
  obtain⟨hd,ad,pd⟩:=a2.push (bytes:=40) (y:= .sl Z 0 1 (.kn 1)) (us:= [a.rep,aC (a.ord:Int),aC (a.size:Int)]) (SV.all rfl om P _) (n:=k) (m:=1) (by rw[zJ,jG];omega) rfl om om om
  simp(disch:=omega)only[go_sem,d4,a5,hY,a3,Ru,ga,Tq,a1,abV gb,Oj a.hrep.2.1,hZ,U,ad]
  rw[fJ k]
  have el:pH (ks.take (k+1))=pH (ks.take k)++ [a.rep,aC (a.ord:Int),aC (a.size:Int)]:=by
   rw[List.take_succ_eq_append_getElem o,ea];simp [pH]
  have n9:=f.next
  have nd:=pd.next
  have a4:Fr d hd:=⟨om,λq hq=>by rw[pd.old q om (λid a9 n' c e e2=>by have:=(J.in _ _ _ _ e).2.1;omega),x.get q om];exact f.get q hq⟩
  exact⟨K.length-(k+1),om,k+1,_,aD rfl,om,by rw[el];exact pd.own (by rw[zJ,jG];omega) rfl om,a4,rfl⟩
 rintro r F ⟨b,⟨g,rfl⟩,sv,f⟩
 refine aT ?_
 exact⟨b,K,ks,rfl,ik,sv,aK.mono λ_ _ k=>k.mono f,(f1.trans f2).trans f⟩
section
variable {h:H} {n:Nat}
theorem agB:([.int .u8 0,.int .u8 0,.int .u8 0,.int .u8 0,.int .u8 0,.int .u8 0,.int .u8 0,.int .u8 0,.int .u8 0,.int .u8 0,.int .u8 0,.int .u8 0,.int .u8 0,.int .u8 0,.int .u8 0,.int .u8 0,.int .u8 0,.int .u8 0,.int .u8 0,.int .u8 0,.int .u8 0,.int .u8 0,.int .u8 0,.int .u8 0,.int .u8 0,.int .u8 0,.int .u8 0,.int .u8 0,.int .u8 0,.int .u8 0,.int .u8 0,.int .u8 0,.int .u8 0,.int .u8 0,.int .u8 0,.int .u8 0,.int .u8 0,.int .u8 0,.int .u8 0,.int .u8 0,.int .u8 0,.int .u8 0,.int .u8 0,.int .u8 0,.int .u8 0,.int .u8 0,.int .u8 0,.int .u8 0,.int .u8 0,.int .u8 0,.int .u8 0,.int .u8 0,.int .u8 0,.int .u8 0,.int .u8 0,.int .u8 0,.int .u8 0,.int .u8 0,.int .u8 0,.int .u8 0,.int .u8 0,.int .u8 0,.int .u8 0,.int .u8 0]:List V)=rc 64 λ_=> .int .u8 0:=rfl
def WU (x:List Nat):V:= .agg (rc 64 λi=> .int .u8 ((x.getD i 0:Nat):Int))
theorem Iw {id:Nat}{ws:List V}(b:ws.length=n)(a:h.get id=some (.cells false ws)):h.row id 0 n=some ws:=by
 unfold H.row;rw[a];simp only[sub];rw[aS om,List.drop_zero,Nb om]
theorem Yw {vs ws:List V}(a:vs.length=n)(h2:ws.length=n)(h:H)(id:Nat):dY (some (.cells false vs)) h id 0 ws=some (h.set id (some (.cells false ws))):=by
 simp only[dY,putAt];rw[aS om,Option.map_some,List.take_zero,List.nil_append,List.drop_of_length_le om,qH]
theorem YN {f:Nat->V}(a: ∀i,(f i).one=true):(rc n f).all V.one=true:=by
 rw[uR];intro v b;obtain⟨i,_,rfl⟩:=oG.1 b;exact a i
set_option maxHeartbeats 8000000
theorem Yp (u:V)(n:Nat)(x:List Nat)(h:H)(hn:n<=64)(X:bJ n x)(J:SI h u (zi x)):
  Ev T 86 [u] h (λv h'=>v=WU x/\Fr h h'):=by
 have l:=X.len
 have z:=J.lens
 rw[bD,l] at z
 obtain⟨id,off,o,f,L⟩:=J.open
 rw[bD,l] at o f L
 obtain⟨A,t⟩:=exI h.next
 obtain⟨h1,e1,K,W,o1,Q⟩:=iI t (rc 64 λ_=> .int .u8 0)
 obtain⟨h2,e2,n2,P,U,Y⟩:=iI K (rc 64 λ_=> .int .u8 0)
 refine agU @agB t e1 K e2 z ?_
 refine aP (λw a k=> ∃(i:Nat),(∃j:Nat->V,a= [j 0,.ptr A 0,.ptr (A+1) 0,j 3,j 4,u,aC n,aC i,j 8])/\i<=n/\
   k.get (A+1)=some (.cells false (rc 64 λj=> .int .u8 ((if j<i then x.getD j 0 else 0:Nat):Int)))/\k.get A=some (.cells false (rc 64 λ_=> .int .u8 0))/\k.next=A+1+1/\Fr h k/\w=n-i) n
  ⟨0,aD rfl,fY _,P,by rw[U A om];exact W,n2,Q.trans Y,rfl⟩ ?_
 rintro w a d ⟨i,⟨j,rfl⟩,hi,s,G,O,F,rfl⟩
 by_cases c:(i:Int)<(n:Int)
 .have m:=cV c
  have b:i<n:=om
  have ci:d.cell id (off+i)=some (aC (x.getD i 0:Nat)):=by rw[F.cell (f om),L i b];congr 2;simp [zi,l,b]
  have r:x.getD i 0<n:=X.eJ b
  obtain⟨p,B⟩:=exI (x.getD i 0)
  rw[B] at ci r
  have q:=bE (vs:=rc 64 λj=> .int .u8 ((if j<i then x.getD j 0 else 0:Nat):Int)) (off:=i) (by rw[dE];omega) d (A+1) (.int .u8 (p:Int))
  rw[iQ] at q
  refine wE m @o.ixa ci @rV s q ?_
  rw[fJ i]
  refine⟨n-(i+1),om,i+1,aD rfl,om,?_,?_,O,F.set om _,rfl⟩
  .congr 2
   refine bW λj hj=>?_
   by_cases e:j=i
   .rw[aS e,aS om,e,B]
   .rw[aQ e]
    by_cases e2:j<i
    .rw[aS e2,aS om]
    .rw[aQ e2,aQ om]
  .exact G
 have m:=bZ c
 obtain rfl:i=n:=om
 have y:=Iw (n:=64) (by rw[dE]) s
 have R:(rc 64 λj=>V.int .u8 ((if j<i then x.getD j 0 else 0:Nat):Int))=rc 64 λj=> .int .u8 ((x.getD j 0:Nat):Int):=by
  refine bW λj hj=>?_
  by_cases e:j<i
  .rw[aS e]
  .rw[aQ e,gV,List.getElem?_eq_none om];rfl
 rw[R] at y
 have pa:=Yw (vs:=rc 64 λ_=> .int .u8 0) (ws:=rc 64 λj=> .int .u8 ((x.getD j 0:Nat):Int)) (n:=64) (by rw[dE]) (by rw[dE]) d A
 have Z:=yX d A 0 64 (rc 64 λj=> .int .u8 ((x.getD j 0:Nat):Int)) (by rw[dE]) (YN λ_=>rfl)
 refine nW m y Z G pa ?_
 have N:=Iw (h:=d.set A (some (.cells false (rc 64 λj=> .int .u8 ((x.getD j 0:Nat):Int))))) (n:=64) (by rw[dE]) (H.aJ ..)
 refine bM N ?_
 exact⟨rfl,F.set om _⟩
theorem abF (u w:V)(n:Nat)(x y:List Nat)(h:H)(hn:n<=64)(X:bJ n x)(Y:bJ n y)(P:SI h u (zi x))(hw:SI h w (zi y)):
  Ev T 88 [u,w] h (λv h'=>v=WU (aZ (bY x) y)/\Fr h h'):=by
 have G:=X.len
 have O:=P.lens
 rw[bD,G] at O
 obtain⟨id,off,Z,l,R⟩:=P.open
 rw[bD,G] at Z l R
 have ly:=Y.len
 obtain⟨B,o,k,d,s⟩:=hw.open
 rw[bD,ly] at k d s
 have Q:=X.inv.mul Y
 obtain⟨A,hA⟩:=exI h.next
 obtain⟨h1,e1,n1,g1,o1,f1⟩:=iI hA (rc 64 λ_=> .int .u8 0)
 obtain⟨h2,e2,n2,g2,o2,f2⟩:=iI n1 (rc 64 λ_=> .int .u8 0)
 refine agU @agB hA e1 n1 e2 O ?_
 refine aP (λN c z=> ∃(i:Nat),(∃j:Nat->V,c= [j 0,w,.ptr A 0,.ptr (A+1) 0,j 4,j 5,u,aC n,aC i,j 9])/\i<=n/\
   z.get (A+1)=some (.cells false (rc 64 λj=> .int .u8 ((if x.idxOf j<i then (aZ (bY x) y).getD j 0 else 0:Nat):Int)))/\z.get A=some (.cells false (rc 64 λ_=> .int .u8 0))/\z.next=A+1+1/\Fr h z/\N=n-i) n
  ⟨0,aD rfl,fY _,g2,by rw[o2 A om];exact g1,n2,f1.trans f2,rfl⟩ ?_
 rintro N c f ⟨i,⟨j,rfl⟩,hi,L,gA,n3,F,rfl⟩
 by_cases m:(i:Int)<(n:Int)
 .have J:=cV m
  have a:i<n:=om
  have ci:f.cell id (off+i)=some (aC (x.getD i 0:Nat)):=by rw[F.cell (l om),R i a];congr 2;simp [zi,G,a]
  have r:x.getD i 0<n:=X.eJ a
  obtain⟨p,t⟩:=exI (x.getD i 0)
  rw[t] at ci r
  have K:f.cell B (o+i)=some (aC (y.getD i 0:Nat)):=by rw[F.cell (d om),s i a];congr 2;simp [zi,ly,a]
  have r2:y.getD i 0<n:=Y.eJ a
  have ip:x.idxOf p=i:=by rw[<-oX om,<-t];exact rO X a
  have U:(aZ (bY x) y).getD p 0=y.getD i 0:=by rw[dA (by rw[X.inv.len];exact r),<-t,rO X a]
  obtain⟨q,hq⟩:=exI (y.getD i 0)
  rw[hq] at K r2 U
  have W:=bE (vs:=rc 64 λj=> .int .u8 ((if x.idxOf j<i then (aZ (bY x) y).getD j 0 else 0:Nat):Int)) (off:=p) (by rw[dE];omega) f (A+1) (.int .u8 (q:Int))
  rw[iQ] at W
  refine wY J @Z.ixa ci @k.ixa K @rV L W ?_
  rw[fJ i]
  refine⟨n-(i+1),om,i+1,aD rfl,om,?_,?_,n3,F.set om _,rfl⟩
  .congr 2
   refine bW λj hj=>?_
   by_cases e:j=p
   .rw[aS e,aS (by rw[e,ip];omega),e,U]
   .rw[aQ e]
    have ne:x.idxOf j≠i:=λh=>e (by
     by_cases b:j<n
     .rw[<-t,<-h,<-oX om,ahG X b]
     .have:x.idxOf j=x.length:=List.idxOf_eq_length λhm=>b (X.lt j hm)
      omega)
    by_cases e2:x.idxOf j<i
    .rw[aS e2,aS om]
    .rw[aQ e2,aQ om]
  .exact gA
 have J:=bZ m
 obtain rfl:i=n:=om
 have rr:=Iw (n:=64) (by rw[dE]) L
 have ek:(rc 64 λj=>V.int .u8 ((if x.idxOf j<i then (aZ (bY x) y).getD j 0 else 0:Nat):Int))=rc 64 λj=> .int .u8 (((aZ (bY x) y).getD j 0:Nat):Int):=by
  refine bW λj hj=>?_
  by_cases e:x.idxOf j<i
  .rw[aS e]
  .have b: ¬j<i:=λb=>e (by rw[<-oX om];exact X.inv.eJ b)
   rw[aQ e,gV,List.getElem?_eq_none (by rw[Q.len];omega)];rfl
 rw[ek] at rr
 have pa:=Yw (vs:=rc 64 λ_=> .int .u8 0) (ws:=rc 64 λj=> .int .u8 (((aZ (bY x) y).getD j 0:Nat):Int)) (n:=64) (by rw[dE]) (by rw[dE]) f A
 have sa:=yX f A 0 64 (rc 64 λj=> .int .u8 (((aZ (bY x) y).getD j 0:Nat):Int)) (by rw[dE]) (YN λ_=>rfl)
 refine nW J rr sa gA pa ?_
 have ra:=Iw (h:=f.set A (some (.cells false (rc 64 λj=> .int .u8 (((aZ (bY x) y).getD j 0:Nat):Int))))) (n:=64) (by rw[dE]) (H.aJ ..)
 refine bM ra ?_
 exact⟨rfl,F.set om _⟩
theorem Il {v:V}{L:LN}(s:SP h v L):dD v=some (aC (L.length:Int))/\dS v v=true/\ ∃(id off:Nat) (ws:List V),Sl v 1 L.length id off/\ ∀i,i<L.length->id<h.next/\h.cell id (off+i)=some (ws.getD i V.undef)/\SI h (ws.getD i V.undef) (zi (L.getD i [])):=by
 have f:=s.lens;rw[dO] at f;obtain⟨id,off,ws,k,b,c,j,a⟩:=s.open;rw[dO] at k b c j;have⟨l,d,_⟩:=s;exact⟨f,SV.dS d,id,off,ws,k,λi hi=>⟨b om,j i hi,Oi a hi⟩⟩
theorem Zc {α:Type}(f g:α->V): ∀l:List α,qE (l.map f) (l.map g)=l.all λi=>dS (f i) (g i)
 | []=>rfl
 |a::l=>by
  rw[List.map_cons,List.map_cons,List.all_cons,<-Zc f g l]
  rfl
theorem EN (f:n<=64)(a b:List Nat)(A:bJ n a)(B:bJ n b):dS (WU a) (WU b)=decide (a=b):=by
 show qE (rc 64 _) (rc 64 _)=_;unfold rc;rw[Zc,Ri,uR,xF];constructor
 .intro h
  refine List.ext_getElem (by rw[A.len,B.len]) λi c d=>?_
  have:=h i (mS.2 (by have:=A.len;omega));have e:((a.getD i 0:Nat):Int)=((b.getD i 0:Nat):Int):=by simpa [dS] using this
  rw[Pm.cM c,Pm.cM d] at e;omega
 .rintro rfl i _
  simp [dS]
theorem Uv (c:n<=64)(a:List Nat)(A:bJ n a):isKey (.arr 64 .u8) (WU a)=true:=by
 unfold isKey WU;simp only;rw[dE,cV rfl,Bool.true_and,uR];intro v b;obtain⟨i,hi,rfl⟩:=oG.1 b
 have:a.getD i 0<256:=by
  by_cases h:i<a.length
  .have:=A.eJ (i:=i) (by rw[<-A.len];exact h);omega
  .rw[gV,List.getElem?_eq_none om];decide
 have e1:IntKind.min .u8=0:=rfl;have e2:IntKind.max .u8=255:=rfl;simp only[e1,e2,oD,xF];exact⟨trivial,om,om⟩
structure DO (n:Nat)(G:List Nat->Prop)(L:LN)(K:List Nat)(hh:H)(D:Nat):Prop where
 ex: ∃vL vC M l ks,hh.get D=some (.cells false [vL,vC,.mp M])/\D<hh.next/\M<hh.next/\SP hh vL L/\SV hh vC 3 (pH ks)/\bH (KR n G L hh) ks K/\hh.get M=some (.wmap (.arr 64 .u8) (eU WU l))/\(∀p∈l,bJ n p.1)/\ ∀i,i<L.length->Rt l (L.getD i [])=some (aC (jJ G L K i:Nat))
theorem DO.mono {G:List Nat->Prop}{L:LN}{K:List Nat}{h':H}{D:Nat}(d:DO n G L K h D)(f:Fr h h'):DO n G L K h' D:=by
 obtain⟨j,o,M,l,m,g,b,a,q,r,i,t,s,c⟩:=d.ex;exact⟨j,o,M,l,m,by rw[f.get _ b];exact g,iD b f.next,iD a f.next,q.mono f,r.mono f,i.mono λ_ _ k=>KR.mono k f,by rw[f.get _ a];exact t,s,c⟩
theorem XS (D:Nat)(u:V)(n:Nat)(G:List Nat->Prop)(L:LN)(K:List Nat)(x:List Nat)(h:H)(i:n<=64)(d:DO n G L K h D)(X:bJ n x)(y:x∈L)(k:SI h u (zi x)):
  Ev T 87 [.ptr D 0,u] h (λv h'=>v= aC (jJ G L K (L.idxOf x):Nat)/\Fr h h'):=by
 refine mV ?_
 obtain⟨w,J,M,l,W,g,B,t,Y,Z,U,R,Q,r⟩:=d.ex
 have O:=k.dS
 simp(disch:=omega)only[go_sem,aV,H.cell_of g]
 have m:=(Fr.refl h).cU (n:=h.next+8) om
 refine (Yp u n x _ i X (k.mono m)).mono ?_
 rintro _ o ⟨rfl,N⟩
 have F:=m.trans N
 have s:o.get D=some (.cells false [w,J,.mp M]):=by rw[F.get _ B];exact g
 have j:o.get M=some (.wmap (.arr 64 .u8) (eU WU l)):=by rw[F.get _ t];exact R
 have f:=List.idxOf_lt_length_of_mem y
 have c:L.getD (L.idxOf x) []=x:=by rw[gV,dJ f];exact List.getElem_idxOf f
 have b:=r (L.idxOf x) f
 rw[c] at b
 have q:=λz=>Cd (EN i) (λa A=>Uv i a A) (P:=bJ n) Q X z
 rw[b] at q
 simp(disch:=omega)only[go_sem,H.cell_of s,O,j,q]
 exact⟨by simp [dS],rfl,F⟩
end
set_option maxHeartbeats 16000000
theorem afC {v:V}(M:Nat)(b:v.cells= [v])(a:v.one=true):mP [.aH,.aH,.nilm] [(1,1,v),(2,1,.mp M)]=some (.agg [.aH,v,.mp M]):=by
 simp [mP,fP,putAt,b,a,show (V.mp M).cells= [V.mp M] from rfl,show (V.mp M).one=true from rfl]
theorem adW {W0:Nat->Prop}(vc:V)(n:Nat)(O:LN)(R:nZ)(G:List Nat->Prop)(h:H)(J:GC W0 h vc n O R G)(L:LN)(hL:cK O R n 0 (bI n)=L)(a9:(dR G L L.length).length<60000):
  Ev T 44 [vc] h (λv h'=> ∃K,vU n G L K/\Fr h h'/\(64<K.length/\v= .tup [.nilp,aC 5]\/K.length<=64/\ ∃D,v= .tup [.ptr D 0,aC 0]/\DO n G L K h' D)):=by
 have P:=J
 obtain⟨vO,vR,rfl,sO,sR⟩:=J.ch
 refine mV ?_
 have a1:vO.one=true:=NB sO
 have b7:vR.one=true:=KY sR
 have n7:=J.n7
 have hG:=J.kT
 obtain⟨E,ll⟩:=dV J.kT J.isc
 have d8:=kF J
 rw[hL] at E ll
 obtain⟨B,hB⟩:=exI h.next
 obtain⟨z,e1,n1,g1,o1,f1⟩:=iI hB [aC n,vO,vR]
 have bx:=dH h (v:= aC n) (u:=vO) (w:=vR) rfl a1 b7
 have rB: ∀y,Fr z y->y.row B 0 3=some [aC n,vO,vR]:=λy f=>bU (by rw[f.get B om];exact g1)
 simp(disch:=omega)only[go_sem,aV,bx,hB,e1,rB z (Fr.refl _)]
 refine (Kq _ n O R G z (P.mono f1) L hL a9).mono ?_
 rintro _ b ⟨o,K,ks,rfl,ik,s4,a4,f2⟩
 have c3:=bH.length a4
 have d6:K.length<=5040:=by
  rw[ik.perm.length_eq];unfold dR;exact kQ (List.length_filter_le _ _) (by rw[gT];omega)
 have b3:dD o=some (aC (K.length:Int)):=by unfold dD;rw[SV.len s4 (n:=ks.length) (zJ ks) om,c3];rfl
 have w4:=s4.cT
 refine aT ?_
 refine bV (λQ=>(Q rfl).elim) (λ_=>?_)
 by_cases a7:(64:Int)<(K.length:Int)
 .have d1:=cV a7
  refine eZ b3 d1 ?_
  exact⟨K,ik,f1.trans f2,.inl ⟨om,trivial⟩⟩
 have d1:=bZ a7
 obtain⟨M,hM⟩:=exI b.next
 obtain⟨h3,e3⟩:=exI (b.new (.wmap (.arr 64 .u8) []))
 have n3:h3.next=M+1:=by rw[<-e3,H.aM,hM]
 have g3:h3.get M=some (.wmap (.arr 64 .u8) []):=by rw[<-e3,<-hM];exact H.aI b _
 have o3: ∀k,k≠M->h3.get k=b.get k:=λk hk=>by rw[<-e3];exact H.bG b om _
 obtain⟨U,e4,n4,g4,o4,f4⟩:=iI n3 [.aH,o,.mp M]
 have a0:Fr b U:=⟨om,λq hq=>by rw[o4 q om,o3 q om]⟩
 have b4:=f2.trans a0
 have ba:=rI h3 [.aH,o,.mp M] (by simp [w4.2.1,show V.aH.one=true from rfl,show (V.mp M).one=true from rfl])
 refine Ux b3 d1 hM e3 (afC M w4.1 w4.2.1) ba n3 e4 (rB U b4) ?_
 refine (Ra _ n O R G U (P.mono (f1.trans b4))).mono ?_
 rw[hL]
 rintro _ h5 ⟨c,rfl,nw⟩
 have pl:=nw.pl
 have f5:=nw.fr
 have wL:c.cells= [c]/\c.one=true:=by have⟨ws,s,_⟩:=pl;exact⟨s.cT.1,s.cT.2.1⟩
 have n5:=f5.next
 have g5:h5.get (M+1)=cE [.aH,o,.mp M]:=by rw[f5.get _ om];exact g4
 obtain⟨h6,e6,n6,g6,o6⟩:=xN h5 (M+1) [c,o,.mp M]
 have p6:dY (cE [.aH,o,.mp M]) h5 (M+1) 0 [c]=some h6:=by rw[bE siM,<-e6];rfl
 have b2:Fr b h6:=⟨om,λq hq=>by rw[o6 q om,f5.get q om];exact a0.get q hq⟩
 have a8:=f2.trans b2
 refine jX g5 (eH wL.1 wL.2) p6 (rB h6 a8) ?_
 refine (akB _ n O R G h6 (P.mono (f1.trans a8)) L hL a9).mono ?_
 rintro _ h7 ⟨v7,K',rfl,d5,s7,Z⟩
 obtain rfl:=ik.uniq d5
 have d7:=Z.next
 have d4:=b2.trans Z
 have g7:h7.get (M+1)=cE [c,o,.mp M]:=by rw[Z.get _ om];exact g6
 have b5:h7.get M=some (.wmap (.arr 64 .u8) []):=by rw[Z.get _ om,o6 _ om,f5.get _ om,o4 _ om];exact g3
 have a5:PL (λid=>id<U.next) h7 c L:=by
  refine PL.go pl ⟨om,λid z b=>?_⟩ (λid z b=>b);rw[Z.get _ om,o6 _ om]
 have c8:=a5.sp
 obtain⟨d0,eL,c0,b8,ws,a6,cL⟩:=Il c8
 have c4:(zi (xI G L K)).length=L.length:=by rw[bD];simp [xI]
 obtain⟨b6,r,a2,d,b0⟩:=s7.open
 rw[c4] at a2 d b0
 have c9:=s7.dS
 simp(disch:=omega)only[go_sem,H.cell_of g7,d0]
 have nM:{id c5:Nat}->{v:V}->h7.cell id c5=some v->id≠M:=λQ e=>by
  rw[e] at Q;unfold H.cell at Q;rw[b5] at Q;cases Q
 refine aP (λk' t y=> ∃(i:Nat) (l:List (List Nat×V)),(∃g:Nat->V,t= [g 0,g 1,g 2,g 3,g 4,g 5,.ptr (M+1) 0,v7,g 8,g 9,g 10,g 11,c,aC (L.length:Int),aC i,g 15])/\i<=L.length/\y.get M=some (.wmap (.arr 64 .u8) (eU WU l))/\(∀p∈l,bJ n p.1)/\(∀j,j<i->Rt l (L.getD j [])=some (aC (jJ G L K j:Nat)))/\Fx (· =M) h7 y/\k'=L.length-i) L.length
  ⟨0, [],aD rfl,fY _,b5,λ_ h=>(by cases h),λj hj=>om,Fx.refl _ _,rfl⟩ ?_
 rintro k' t Y ⟨i,l,⟨g,rfl⟩,hi,gM,kl,lk,F,rfl⟩
 have n8:=F.next
 have N:Fr b Y:=⟨om,λq hq=>by rw[F.get q om (by show q≠M;omega)];exact d4.get q hq⟩
 have b9:PL (λid=>id<U.next) Y c L:=PL.go a5 ⟨n8,λid z b=>F.get id z (λe=>b (by rw[e];show M<U.next;omega))⟩ (λid z b=>b)
 have g8:Y.get (M+1)=cE [c,o,.mp M]:=by rw[F.get _ om (by show M+1≠M;omega)];exact g7
 by_cases a3:(i:Int)<(L.length:Int)
 case neg=>
  have d3:=bZ a3;obtain rfl:i=L.length:=om
  refine bM d3 ?_;refine⟨K,ik,(f1.trans f2).trans ⟨om,λq hq=>N.get q om⟩|>.trans (Fr.refl _),.inr ⟨om,M+1,rfl,?_⟩⟩;exact⟨c,o,M,l,ks,g8,om,om,b9.sp,s4.mono N,a4.mono λ_ _ k=>KR.mono k N,gM,kl,lk⟩
 have d3:=cV a3
 have m:i<L.length:=om
 obtain⟨_,_,c0,b8,ws,a6,cL⟩:=Il b9.sp
 obtain⟨b1,c1,s1⟩:=cL i m
 generalize ws.getD i V.undef=ve at c1 s1
 have X:=jZ hG E m
 obtain⟨x,hx⟩:=exI (L.getD i [])
 rw[hx] at s1 X
 have c7:=b0 i m
 rw[show (zi (xI G L K)).getD i 0=((jJ G L K i:Nat):Int) from by simp [xI,zi,m]] at c7
 have cN:Y.cell b6 (r+i)=some (aC (jJ G L K i:Nat)):=by rw[F.cell (d om) (nM c7)];exact c7
 have ex:=s1.dS
 simp(disch:=omega)only[go_sem,d3,a6.ixa,c1,H.cell_of g8,a2.ixa,cN]
 have fb:=(Fr.refl Y).cU (n:=Y.next+11) om
 refine (Yp ve n x _ om X (s1.mono fb)).mono ?_
 rintro _ h9 ⟨rfl,f9⟩
 have F9:=fb.trans f9
 have g9:h9.get (M+1)=cE [c,o,.mp M]:=by rw[F9.get _ om];exact g8
 have c6:h9.get M=some (.wmap (.arr 64 .u8) (eU WU l)):=by rw[F9.get _ om];exact gM
 have c2:h9.cell b6 (r+i)=some (aC (jJ G L K i:Nat)):=by rw[F9.cell (by have:=d om;omega)];exact cN
 have pm:=λy=>SA (EN (n:=n) om) (λa A=>Uv (n:=n) om a A) kl X (aC (jJ G L K i:Nat)) y M
 simp(disch:=omega)only[go_sem,H.cell_of g9,c2,c9,c6,pm]
 rw[fJ i]
 refine⟨by simp [dS],L.length-(i+1),om,i+1,_,aD rfl,om,rfl,Pb X kl,λj hj=>?_,(F.trans (Fx.of (W:=(· =M)) F9) λ_ _ h=>h).trans (Fx.set h9 (W:=(· =M)) rfl _) (λ_ _ h=>h),rfl⟩
 rw[Rk]
 by_cases e:L.getD j []=x
 .rw[aS e,AX E.nodup om m (e.trans hx.symm)]
 .rw[aQ e]
  refine lk j ?_
  rcases Nat.lt_or_ge j i with h|h
  .exact h
  .exact absurd (by rw[show j=i by omega];exact hx) e
set_option maxRecDepth 100000
set_option maxRecDepth 100000
theorem Zo {n:Nat}{a:List Nat}(A:bJ n a)(m:n<=7):fC a n∣420:=by
 unfold fC;rw[tX];intro c h;obtain⟨l,d,rfl⟩:=oG.1 h;obtain⟨i,hi,rfl⟩:=oG.1 d;have b:i<n:=by unfold Mv at hi;exact mS.1 (Gh.1 hi).1
 rw[yS];have f:=(mX A b).1;have j:=CP A b;have: ∀k,k<8->0<k->k∣420:=deC
 exact this _ om f
noncomputable def We (n:Nat)(L:LN)(K:List Nat):Nat:=pZ (K.map λr=>fC (L.getD r []) n)
theorem aeP {W0:Nat->Prop}(vc:V)(n:Nat)(O:LN)(R:nZ)(G:List Nat->Prop)(h:H)(l:GC W0 h vc n O R G)(L:LN)(hL:cK O R n 0 (bI n)=L)(b6:(dR G L L.length).length<60000):
  Ev T 14 [vc] h (λv h'=> ∃K,vU n G L K/\v= .tup [aC (We n L K:Nat),aC 0]/\Fr h h'):=by
 obtain⟨vO,vR,e,sO,sR⟩:=l.ch
 subst e
 have a0:vO.one=true:=NB sO
 have a5:vR.one=true:=KY sR
 obtain⟨A,hA⟩:=exI h.next
 obtain⟨h1,e1,n1,g1,o1,f1⟩:=iI hA [aC n,vO,vR]
 have bx:=dH h (v:= aC n) (u:=vO) (w:=vR) rfl a0 a5
 have rB:=bU g1
 refine Nk bx hA e1 rB ?_
 refine (GM _ n O R G h1 (l.mono f1) (by rw[hL];exact b6)).mono ?_
 rw[hL]
 rintro _ h2 ⟨p,K,rfl,go,ik,f2⟩
 obtain⟨B,M,N,S,cp,vL,ks,rfl,hB,hM,hN,hS,gB,gM,gN,gS,aK,sp⟩:=go.ex
 have c2:h2.cell B 2=some (.sl S 0 K.length cp):=by rw[H.cell_of gB];rfl
 have c5:=bH.length aK
 have E:=(dV l.kT l.isc).1
 have b5:=(dV l.kT l.isc).2
 have c7:=kF l
 rw[hL] at E b5
 have c4:K.length<=5040:=by
  have h1:=ik.perm.length_eq;have h2:=tU (G:=G) (L:=L) L.length;omega
 obtain⟨W,hW⟩:=exI ((K.map λr=>fC (L.getD r []) n))
 have c9:W.length=K.length:=by rw[<-hW,dO]
 obtain⟨M,m0,m5,hM⟩:=l.od
 have Z: ∀c∈W,c∣M:=λc Q=>by
  rw[<-hW] at Q;obtain⟨r,hr,rfl⟩:=oG.1 Q;exact hM _ (pX E (mL.1 (ik.perm.mem_iff.1 hr)).1)
 have t: ∀k,pZ (W.take k)<=M/\0<pZ (W.take k):=λk=>by
  have h1:pZ (W.take k)∣M:=(tX _ _).2 λc Q=>Z c (List.mem_of_mem_take Q)
  exact⟨Nat.le_of_dvd om h1,Nat.pos_of_dvd_of_pos h1 om⟩
 refine aT ?_
 refine bV (λQ=>(Q rfl).elim) (λ_=>?_)
 refine bM c2 ?_
 refine dG (λvs s=>(∃g:Nat->V,vs= [g 0,g 1,g 2,g 3,g 4,g 5,aC (pZ W:Nat),g 7,g 8,g 9,g 10,g 11,g 12,g 13,g 14,g 15])/\Fr h2 s) ?_ ?_
 .refine aP (λf vs s=> ∃(k:Nat),(∃g:Nat->V,vs= [g 0,g 1,g 2,g 3,g 4,g 5,aC (pZ (W.take k):Nat),g 7,g 8,g 9,g 10,.sl S 0 K.length cp,aC (K.length:Int),aC k,g 14,g 15])/\k<=K.length/\Fr h2 s/\f=K.length-k) K.length
   ⟨0,aD rfl,fY _,Fr.refl _,rfl⟩ ?_
  rintro f b h9 ⟨k,⟨g,rfl⟩,hk,F9,rfl⟩
  by_cases i:(k:Int)<(K.length:Int)
  case neg=>
   have d4:=bZ i;obtain rfl:k=K.length:=om
   refine bM d4 ?_;rw[Nb om];exact⟨aD rfl,F9⟩
  have d4:=cV i
  have z:k<K.length:=om
  have a4:k<ks.length:=om
  obtain⟨a,ea⟩:=exI (ks[k])
  have ka:=bH.get aK k a4 z
  rw[ea] at ka
  have c1:a.ord=W.getD k 0:=by rw[ka.ord,<-hW,mZ _ (d:=0) z,Pm.cM z]
  have a7:h9.get S=cE (Cls.nT ks):=by rw[F9.get _ hS];exact gS
  have b2:h9.row S (k*4) 4=some a.enc:=by
   have:=tQ (pre:= []) (by simpa using a7) a4;rw[ea] at this;simpa using this
  obtain⟨Y,hY⟩:=exI h9.next
  obtain⟨ha,a9,na,ga,oa,fa⟩:=iI hY [.aH,aC 0,aC 0,.aH]
  obtain⟨U,b7,nb,gb,ob⟩:=xN ha Y a.enc
  have J:U.cell Y 1=some (aC (a.ord:Int)):=by rw[H.cell_of gb];rfl
  have b1:Fr h9 U:=⟨om,λq hq=>by rw[ob q om,oa q om]⟩
  obtain⟨m,hm⟩:=exI (pZ (W.take k))
  obtain⟨o,ho⟩:=exI (W.getD k 0)
  have c3:=t k
  have a3:=t (k+1)
  have hs:=zU W k om
  rw[hm] at c3
  rw[hm,ho] at hs
  have j:o∣M:=by rw[<-ho];exact Z _ (bF om)
  have c8:o<=M:=Nat.le_of_dvd om j
  have a6:0<o:=Nat.pos_of_dvd_of_pos j om
  rw[c1,ho] at J
  rw[hm]
  refine Ux d4 b2 hY a9 @Ru ga @Tq b7 J ?_
  refine dG (λvs s=>(∃g:Nat->V,vs= [g 0,g 1,g 2,g 3,g 4,g 5,aC m,.ptr Y 0,aC (Nat.gcd m o:Nat),g 9,g 10,.sl S 0 K.length cp,aC (K.length:Int),aC k,g 14,g 15])/\Fr U s) ?_ ?_
  .refine aP (λf b s=> ∃(x y:Nat),(∃g:Nat->V,b= [g 0,g 1,g 2,g 3,g 4,g 5,aC m,.ptr Y 0,aC x,aC y,g 10,.sl S 0 K.length cp,aC (K.length:Int),aC k,g 14,g 15])/\x<1000000/\y<1000000/\Nat.gcd x y=Nat.gcd m o/\Fr U s/\f=y) o
    ⟨m,o,aD rfl,om,om,rfl,(Fr.refl U).cU om,rfl⟩ ?_
   rintro f b s ⟨x,y,⟨g2,rfl⟩,hx,hy,hg,F,hk⟩
   subst hk
   by_cases i:(0:Int)<(f:Int)
   .have d1:=cV i
    have hz:(f:Int)≠0:=om
    have b9:(x:Int).tmod (f:Int)=((x%f:Nat):Int):=Bv x f
    have b3:=Nat.mod_lt x (show f>0 by omega)
    refine iG d1 hz b9 ?_
    exact⟨x%f,b3,f,x%f,aD rfl,hy,om,by rw[Nat.gcd_comm,<-Nat.gcd_rec,Nat.gcd_comm];exact hg,F.cU om,rfl⟩
   .have d1:=bZ i
    obtain rfl:f=0:=om
    refine bM d1 ?_
    rw[<-hg,Nat.gcd_zero_right]
    exact⟨aD rfl,F⟩
  rintro b b0 ⟨⟨g2,rfl⟩,Fc⟩
  obtain⟨q,hq⟩:=exI (Nat.gcd m o)
  rw[hq]
  rw[hq] at hs
  have c6:0<q:=by rw[<-hq];exact Nat.gcd_pos_of_pos_right _ a6
  have a8:(q:Int)≠0:=om
  have a2:(m:Int).tdiv (q:Int)=((m/q:Nat):Int):=by rw[Int.tdiv_eq_ediv_of_nonneg om];rfl
  have b4:m/q<=m:=Nat.div_le_self _ _
  have P:((m/q:Nat):Int)*(o:Int)=((pZ (W.take (k+1)):Nat):Int):=by rw[hs,Int.natCast_mul]
  generalize m/q=d at a2 b4 P hs
  have c0:b0.cell Y 1=some (aC o):=by rw[Fc.cell om];exact J
  have b8:=a3.1
  obtain⟨m2,a1⟩:=exI (pZ (W.take (k+1)))
  rw[a1] at P b8
  refine jX a8 a2 P c0 ?_
  rw[fJ k]
  exact⟨K.length-(k+1),om,k+1,by rw[a1];exact aD rfl,om,((F9.trans b1).trans Fc).cU om,rfl⟩
 rintro b h9 ⟨⟨g,rfl⟩,F9⟩
 refine aT ?_
 exact⟨K,ik,by unfold We;rw[hW],(f1.trans f2).trans F9⟩
theorem QM {n:Nat}{G:List Nat->Prop}{L:LN}{K:List Nat}{h:H}{p:V}(go:UH n G L K h p)(F:oK n G)(E:fW G L)(W:n<=20)(u:L.length<1000000)(o:V){i:Nat}(hi:i<L.length)(J:SI h o (zi (L.getD i []))):
  Ev T 68 [p,o] h (λv h'=>v= aC (jJ G L K i:Nat)/\Fr h h'):=by
 obtain⟨B,M,N,S,cp,Q,U,rfl,hB,t,O,Z,r,P,A,R,aK,sp⟩:=go.ex
 have Y:=jZ F E hi
 have a:(L.getD i []).length<=1000:=by rw[Y.len];omega
 have b: ∀z∈L.getD i [],z<256:=λz y=>by have:=Y.lt z y;omega
 have x:=Kl a b
 have k:h.cell B 1=some (.mp M):=by rw[H.cell_of r];rfl
 have j:h.cell B 3=some (.sl N 0 L.length (.kn L.length)):=by rw[H.cell_of r];rfl
 refine Hv k j ?_
 refine (Tj o _ _ a b (J.mono ((Fr.refl h).cU om))).mono ?_
 rintro _ d ⟨rfl,q⟩
 have l:Fr h d:=((Fr.refl h).cU om).trans q
 have f:d.cell B 1=some (.mp M):=by rw[l.cell om];exact k
 have c:d.cell B 3=some (.sl N 0 L.length (.kn L.length)):=by rw[l.cell om];exact j
 have m:d.get M=some (.wmap .str (Vk L L.length)):=by rw[l.get _ t];exact P
 have s:=λz=>Wr E.nodup hi x z
 have w:d.cell N i=some (aC (jJ G L K i:Nat)):=by rw[l.cell O];exact vD A hi
 refine nW f c m s w ?_
 exact⟨by simp [dS],l⟩
theorem Dc {n:Nat}{G:List Nat->Prop}{L:LN}{K:List Nat}(a:oK n G)(E:fW G L)(b:K.Perm (dR G L L.length)){k:Nat}(f:k<K.length){j:Nat}(c:j<L.length):jJ G L K j=k↔cR G L (K.getD k 0) j:=by
 constructor
 .intro h
  obtain⟨i,l,d⟩:=Fy a E b c;have m:=Ir a E b l d;obtain rfl:i=k:=om
  exact (jM.1 d).2
 .intro h
  exact Ir a E b f (jM.2 ⟨c,h⟩)
theorem FY (e:Nat)(c:e<9223372036854775808):arith .and .i64 (e:Int) 1=some (aC (e%2:Nat)):=by
 rw[MK];congr 2;show IntKind.i64.wrap (((BitVec.ofInt 64 (e:Int)&&&BitVec.ofInt 64 (1:Int)).toNat:Nat):Int)=_;have a:(BitVec.ofInt 64 (e:Int)).toNat=e:=by simp [BitVec.toNat_ofInt];omega
 have b:(BitVec.ofInt 64 (1:Int)).toNat=1:=rfl;rw[BitVec.toNat_and,a,b,Nat.and_one_is_mod];exact Ii om om
theorem GH (e:Nat):Vg .shr .i64 (e:Int) 1=some (aC (e/2:Nat)):=by
 unfold Vg;rw[aQ om];simp only;congr 2;show Int.fdiv (e:Int) 2=_;rw[Int.fdiv_eq_ediv_of_nonneg _ om];rfl
theorem agF {n:Nat}{a:List Nat}(A:bJ n a): ∀k,pw n (aZ a a) k=pw n a (2*k)
 |0=>rfl
 |k+1=>by
  show aZ (pw n (aZ a a) k) (aZ a a)=pw n a (2*k+2);rw[agF A k,<-aX (jW A _) A A];rfl
theorem Va {n:Nat}{a:List Nat}(A:bJ n a):pw n a 1=a:=dK A
theorem Kd (u w:V)(n e:Nat)(a:List Nat)(h:H)(hn:n<=1000)(he:e<1000000)(A:bJ n a)(Z:SI h u (zi a))(Y:SI h w (zi (bI n))):
  Ev T 69 [u,w,aC e] h (λv h'=>SI h' v (zi (pw n a e))/\Fr h h'):=by
 refine lG ?_
 refine aP (λc U K=> ∃(q:Nat) (i r:V) (x b:List Nat),(∃g:Nat->V,U= [i,r,aC (q:Int),g 3,g 4,g 5])/\q<1000000/\bJ n x/\bJ n b/\SI K i (zi x)/\SI K r (zi b)/\aZ b (pw n x q)=pw n a e/\Fr h K/\c=q) e
  ⟨e,u,w,a,bI n,aD rfl,he,A,bJ.one n,Z,Y,dK (jW A e),Fr.refl h,rfl⟩ ?_
 rintro c O P ⟨q,i,r,x,b,⟨g,rfl⟩,hl,X,B,s,N,m,F,R⟩
 subst R
 by_cases o:(0:Int)<(c:Int)
 case neg=>
  have z:=bZ o;obtain rfl:c=0:=om
  refine bM z ?_;have f:aZ b (bI n)=pw n a e:=m;rw[cH B] at f;rw[<-f];exact⟨N,F⟩
 have z:=cV o
 have G: ∀k,aZ x (pw n x k)=pw n x (k+1):=λk=>by
  have f:=Rq X 1 k;rw[Va X] at f;rw[<-f,Nat.add_comm]
 have Q:=agF X (c/2)
 rcases Nat.mod_two_eq_zero_or_one c with L|L
 .have d2:decide (((0:Nat):Int)=1)=false:=rfl
  have t:=FY c om
  rw[L] at t
  refine iG z t d2 ?_
  refine (yB i i x x P (by rw[X.len];omega) s s (λj y=>by rw[X.len];exact X.eJ (by rw[<-X.len];exact y))).mono ?_
  rintro J f l
  refine iG @Tf @Jh @GH ?_
  refine⟨c/2,om,c/2,J,r,aZ x x,b,aD rfl,om,X.mul X,B,(l.pv (W:=λ_=>False) id).si,N.mono l.fr,?_,F.trans l.fr,rfl⟩
  rw[Q,show 2*(c/2)=c by omega];exact m
 .have d2:decide (((1:Nat):Int)=1)=true:=rfl
  have t:=FY c om
  rw[L] at t
  refine iG z t d2 ?_
  refine (yB r i b x P (by rw[B.len];omega) N s (λj y=>by rw[X.len];exact B.eJ (by rw[<-B.len];exact y))).mono ?_
  rintro v0 f d
  refine aT ?_
  refine (yB i i x x f (by rw[X.len];omega) (s.mono d.fr) (s.mono d.fr) (λj y=>by rw[X.len];exact X.eJ (by rw[<-X.len];exact y))).mono ?_
  rintro J h3 l
  refine iG @Tf @Jh @GH ?_
  refine⟨c/2,om,c/2,J,v0,aZ x x,aZ b x,aD rfl,om,X.mul X,B.mul X,(l.pv (W:=λ_=>False) id).si,((d.pv (W:=λ_=>False) id).si).mono l.fr,?_,(F.trans d.fr).trans l.fr,rfl⟩
  rw[Q,aX B X (jW X _),G,show 2*(c/2)+1=c by omega];exact m
theorem uE {n:Nat}{G:List Nat->Prop}{L:LN}(j:oK n G)(E:fW G L):0<L.length/\L.getD 0 []=bI n:=by
 have c:=(E.mem _).2 j.one;have a:=PC c;refine⟨a,?_⟩;obtain⟨i,hi,f⟩:=Bj.1 c;have e0:L.getD 0 []=L[0]:=by rw[List.getD,dJ a];rfl
 by_cases h:i=0
 .subst h;rw[e0,f]
 .have d:=Iz.1 E.asc 0 i a hi om
  rw[f] at d;have X:=jZ j E a;rw[e0] at X;rcases one_le X with b|b
  .rw[e0,<-b]
  .exact (d.asymm b).elim
noncomputable def Mr (n:Nat)(G:List Nat->Prop)(L:LN)(K:List Nat)(z:Int)(r:Nat):Nat:=jJ G L K (L.idxOf (pw n (L.getD r []) (z%(fC (L.getD r []) n:Nat)).toNat))
theorem MV (z:Int)(o:Nat)(c:0<o):(z.tmod (o:Int)+(o:Int)).tmod (o:Int)=(((z%(o:Int)).toNat:Nat):Int):=by
 have a:=Int.tmod_lt_of_pos z (show (0:Int)<o by omega);have b:=Int.lt_tmod_of_pos z (show (0:Int)<o by omega);rw[Int.tmod_eq_emod_of_nonneg om,Int.toNat_of_nonneg (Int.emod_nonneg _ om),Int.add_emod_right]
 conv=>rhs;rw[<-Int.mul_tdiv_add_tmod z o,Int.add_comm,Int.add_mul_emod_self_left]
theorem FO {W0:Nat->Prop}(vc:V)(z:Int)(n:Nat)(O:LN)(R:nZ)(G:List Nat->Prop)(h:H)(b:GC W0 h vc n O R G)(L:LN)(hz: -9223372036854775808<=z/\z<9223372036854775808)(hL:cK O R n 0 (bI n)=L)(c7:(dR G L L.length).length<60000):
  Ev T 40 [vc,aC z] h (λv h'=> ∃K vl,vU n G L K/\v= .tup [vl,aC 0]/\SV h' vl 1 (rc K.length λk=> aC (Mr n G L K z (K.getD k 0):Nat))/\vI (λq=>q<h.next) vl/\Fr h h'):=by
 obtain⟨vO,vR,e,sO,sR⟩:=b.ch
 subst e
 have Z:vO.one=true:=NB sO
 have b1:vR.one=true:=KY sR
 obtain⟨A,hA⟩:=exI h.next
 obtain⟨h1,e1,n1,g1,o1,f1⟩:=iI hA [aC n,vO,vR]
 have bx:=dH h (v:= aC n) (u:=vO) (w:=vR) rfl Z b1
 have rB:=bU g1
 refine Nk bx hA e1 rB ?_
 refine (GM _ n O R G h1 (b.mono f1) (by rw[hL];exact c7)).mono ?_
 rw[hL]
 rintro _ t ⟨p,K,rfl,go,ik,f2⟩
 obtain⟨B,M,N,S,cp,vL,ks,rfl,hB,hM,hN,hS,gB,gM,gN,gS,aK,sp⟩:=go.ex
 have c2:t.cell B 2=some (.sl S 0 K.length cp):=by rw[H.cell_of gB];rfl
 have d5:=bH.length aK
 have E:=(dV b.kT b.isc).1
 have c6:=(dV b.kT b.isc).2
 have d7:=kF b
 rw[hL] at E c6
 have Q:=b.kT
 have n7:=b.n7
 have d3:K.length<=5040:=by
  have h1:=ik.perm.length_eq;have t:=tU (G:=G) (L:=L) L.length;omega
 obtain⟨D,hD⟩:=exI t.next
 obtain⟨h3,e3,n3,g3,o3,f3⟩:=iI hD (rc K.length λ_=>aC 0)
 have c0:h3.cell B 2=some (.sl S 0 K.length cp):=by rw[f3.cell hB];exact c2
 refine aT ?_
 refine bV (λhc=>(hc rfl).elim) (λ_=>?_)
 simp(disch:=omega)only[go_sem,c2,anO _ K.length om,hD,e3,c0]
 refine dG (λvs m=>(∃g:Nat->V,vs= [g 0,g 1,g 2,g 3,g 4,g 5,g 6,.sl D 0 K.length (.kn K.length),g 8,g 9,g 10,g 11,g 12,g 13,g 14,g 15])/\m.get D=some (.cells false (rc K.length λk=> aC (Mr n G L K z (K.getD k 0):Nat)))/\D<m.next/\Fr t m) ?_ ?_
 .refine aP (λk' vs m=> ∃(k:Nat),(∃g:Nat->V,vs= [g 0,aC z,g 2,g 3,g 4,.ptr B 0,g 6,.sl D 0 K.length (.kn K.length),g 8,g 9,g 10,g 11,.sl S 0 K.length cp,aC (K.length:Int),aC k,g 15])/\k<=K.length/\m.get D=some (.cells false (rc K.length λj=> aC (if j<k then ((Mr n G L K z (K.getD j 0):Nat):Int) else 0)))/\D<m.next/\Fr t m/\k'=K.length-k) K.length
   ⟨0,aD rfl,fY _,by rw[g3];rfl,om,f3,rfl⟩ ?_
  rintro k' a2 h9 ⟨k,⟨g,rfl⟩,hk,gD,nD,F9,rfl⟩
  by_cases a1:(k:Int)<(K.length:Int)
  case neg=>
   have d4:=bZ a1;obtain rfl:k=K.length:=om
   refine bM d4 ?_;refine⟨aD rfl,?_,nD,F9⟩;rw[gD,bW λj hj=>by rw[aS hj]]
  have d4:=cV a1
  have d:k<K.length:=om
  have a7:k<ks.length:=om
  obtain⟨a,ea⟩:=exI (ks[k])
  have F:=bH.get aK k a7 d
  rw[ea,<-Pm.cM d] at F
  obtain⟨r,hr⟩:=exI (K.getD k 0)
  rw[hr] at F
  have b4:r∈dR G L L.length:=by rw[<-hr];exact ik.perm.mem_iff.1 (bF d)
  have s:=(mL.1 b4).1
  have b3:h9.get S=some (.cells false (Cls.nT ks)):=by rw[F9.get _ hS];exact gS
  have c1:h9.row S (k*4) 4=some a.enc:=by
   have:=tQ (pre:= []) (by simpa using b3) a7;rw[ea] at this;simpa using this
  obtain⟨Y,hY⟩:=exI h9.next
  obtain⟨ha,b7,na,ga,oa,fa⟩:=iI hY [.aH,aC 0,aC 0,.aH]
  obtain⟨c,c8,nb,gb,ob⟩:=xN ha Y a.enc
  have b0:c.cell Y 0=some a.rep:=by rw[H.cell_of gb];rfl
  have a3:Fr h9 c:=⟨om,λq hq=>by rw[ob q om,oa q om]⟩
  have Fb:=F9.trans a3
  have R1:=jZ Q E s
  have P:c.cell Y 1=some (aC (a.ord:Int)):=by rw[H.cell_of gb];rfl
  obtain⟨o,ho⟩:=exI (fC (L.getD r []) n)
  rw[F.ord,ho] at P
  have o0:0<o:=by rw[<-ho];exact rP R1
  have d9:o<=823543:=by rw[<-ho];obtain⟨M,m0,ml,hM⟩:=b.od;have:=Nat.le_of_dvd m0 (hM _ (pX E s));omega
  have U:(o:Int)≠0:=om
  have t1:=Int.tmod_lt_of_pos z (show (0:Int)<o by omega)
  have t2:=Int.lt_tmod_of_pos z (show (0:Int)<o by omega)
  have t3:=MV z o o0
  obtain⟨x,hx⟩:=exI ((z%(o:Int)).toNat)
  rw[hx] at t3
  have d8:x<o:=by
   have:=Int.emod_lt_of_pos z (show (0:Int)<o by omega);have:=Int.emod_nonneg z U;omega
  obtain⟨l0,l1⟩:=uE Q E
  have⟨wL,J,aL⟩:=sp
  have b2:=bH.length aL
  rw[dO] at b2
  obtain⟨W,i,c3,a4,b5⟩:=SV.shape J L.length om om
  have se:=Oi aL l0
  rw[l1] at se
  have cl: ∀h',Fr t h'->h'.cell W i=some (wL.getD 0 .undef):=λh' f=>by
   have:=b5 0 om;rw[Nat.add_zero] at this;rw[f.cell (a4 om),this];simp [List.getD,show 0<wL.length by omega]
  generalize hv:wL.getD 0 .undef=ve at cl se
  have a9:Ci 1 vL (aC 0)=some (.ptr W (i+0)):=c3.ixa .i64 0 om om
  rw[Nat.add_zero] at a9
  have a8: ∀h',Fr t h'->h'.cell B 0=some vL:=λh' f=>by rw[f.cell hB,H.cell_of gB];rfl
  simp(disch:=omega)only[go_sem,d4,c1,hY,b7,Ru,ga,Tq,c8,b0,P,U,t3,a8 c Fb,a9,cl c Fb]
  refine (Kd a.rep ve n x (L.getD r []) _ om om R1 (F.rep.mono (Fb.trans ((Fr.refl c).cU om))) (se.mono (Fb.trans ((Fr.refl c).cU om)))).mono ?_
  rintro v1 b9 ⟨s1,c9⟩
  have a5:Fr c b9:=((Fr.refl c).cU om).trans c9
  have Fc:=Fb.trans a5
  have hP:G (pw n (L.getD r []) x):=by
   have: ∀y,G (pw n (L.getD r []) y):=λy=>by
    induction y with
    |zero=>exact Q.one
    |succ y ih=>exact Q.mul ih (pX E s)
   exact this x
  have b6:=(E.mem _).2 hP
  obtain⟨j,hj⟩:=exI (L.idxOf (pw n (L.getD r []) x))
  have l:j<L.length:=by rw[<-hj];exact List.idxOf_lt_length_of_mem b6
  have ej:L.getD j []=pw n (L.getD r []) x:=by
   rw[List.getD,dJ l];subst hj;exact List.getElem_idxOf l
  rw[<-ej] at s1
  refine aT ?_
  refine (QM (go.mono Fc) Q E n7 om v1 l s1).mono ?_
  rintro _ hd ⟨rfl,fd⟩
  have Fd:=Fc.trans fd
  have a0:=a5.trans fd
  have a6:=a3.trans a0
  have d0:hd.get D=some (.cells false (rc K.length λj=> aC (if j<k then ((Mr n G L K z (K.getD j 0):Nat):Int) else 0))):=by rw[a6.get D nD];exact gD
  have er:Mr n G L K z r=jJ G L K j:=by unfold Mr;rw[ho,hx,hj]
  have c4:hd.cell Y 0=some a.rep:=by rw[a0.cell om];exact b0
  have c5:=se.dS
  have b8:=F.rep.dS
  have d1:=J.dS
  have pt:=bE (vs:=rc K.length λj=> aC (if j<k then ((Mr n G L K z (K.getD j 0):Nat):Int) else 0)) (off:=k) (by rw[dE];exact d)
  refine wY c4 (cl hd Fd) (a8 hd Fd) c5 b8 d1 d0 pt ?_
  rw[fJ k]
  have d6:=a6.next
  refine⟨K.length-(k+1),om,k+1,aD rfl,om,?_,by show D<hd.next;omega,Fd.set om _,rfl⟩
  rw[iQ,bW λx hx=>?_]
  by_cases ex:x=k
  .rw[aS ex,aS om,ex,hr,er]
  .rw[aQ ex]
   by_cases e2:x<k
   .rw[aS e2,aS om]
   .rw[aQ e2,aQ om]
 rintro a2 h9 ⟨⟨g,rfl⟩,gD,nD,F9⟩
 refine aT ?_
 exact⟨K,_,ik,rfl,SV.all (by rw[dE,jP]) nD gD _,(λe=>by have e:D<A:=e;have:=(f1.trans f2).next;omega),(f1.trans f2).trans F9⟩
set_option maxRecDepth 100000
set_option maxRecDepth 100000
set_option maxRecDepth 100000
end Go.Proofs.YtoighkablmjfeaaGreat
